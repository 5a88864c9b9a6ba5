/-
  The walk of strings.Trim at the bytes from a to d.
-/
import Derived.Test.YteibbnmlmbhkpaaDoorPTrim
import Derived.Test.YteibbnmlmbhkpaaDoorPShelf
namespace Go.Proofs.YteibbnmlmbhkpaaDoor
open Go.RowKit
set_option linter.unusedVariables false
set_option linter.unusedSimpArgs false
set_option maxHeartbeats 1000000
set_option maxRecDepth 100000

theorem size131 : (Tryd.prog.info? 131).map (·.size) = some 256 := by kernel_rfl
theorem zero131 : (Tryd.prog.info? 131).map (fun i => (i.zero, i.size)) = some (some (.agg (Array.replicate 256 (.bool false))), 256) := by kernel_rfl
theorem set_any (w : World) : Calls Tryd.prog 84 #[.string ⟨#[97, 98, 99, 100]⟩] w fun e w' => e = .returned (.tuple #[.agg (Lib.setCells [97, 98, 99, 100]), .bool true]) ∧ w' = w.alloc (.cells (Lib.setCells [97, 98, 99, 100]) 131) :=
  Any.strings_makeASCIISet lays227 (zero_of_info zero131).1 (zero_of_info zero131).2 ⟨#[97, 98, 99, 100]⟩ w (by decide) (fun j b h => by
    match j with
    | 0 => injection h with h; subst h; decide
    | 1 => injection h with h; subst h; decide
    | 2 => injection h with h; subst h; decide
    | 3 => injection h with h; subst h; decide
    | n + 4 => cases h)
theorem abcd_ab (b : UInt8) : [97, 98, 99, 100].contains b = ab b := by
  unfold ab
  rw [Bool.eq_iff_iff, List.contains_iff_mem]
  simp only [List.mem_cons, List.not_mem_nil, or_false, decide_eq_true_eq]
  constructor
  · rintro (rfl | rfl | rfl | rfl) <;> decide
  · intro h
    have : b.toNat = 97 ∨ b.toNat = 98 ∨ b.toNat = 99 ∨ b.toNat = 100 := by omega
    rcases this with h | h | h | h
    · exact .inl (UInt8.toNat_inj.1 h)
    · exact .inr (.inl (UInt8.toNat_inj.1 h))
    · exact .inr (.inr (.inl (UInt8.toNat_inj.1 h)))
    · exact .inr (.inr (.inr (UInt8.toNat_inj.1 h)))
theorem trim_any (s : ByteArray) (hs : s.size ≤ 1000) (w : World) :
    Calls Tryd.prog 60 #[.string s, .string ⟨#[97, 98, 99, 100]⟩] w fun e w' => ∃ r, e = .returned (.string r) ∧ (isE r ↔ allAb s) ∧ Kp w w' := by
  obtain ⟨C, hC⟩ : ∃ C, C = Lib.setCells [97, 98, 99, 100] := ⟨_, rfl⟩
  have hsz : C.size = 256 := by rw [hC]; exact Lib.setCells_size _
  have Hone := hid (show ∀ v ∈ C.toList, v.oneCell' = true by
    have := Lib.setCells_one [97, 98, 99, 100]
    rw [← hC, Array.all_eq_true_iff_forall_mem] at this
    exact fun v hv => this v (Array.mem_toList_iff.1 hv))
  have Hat := hid (show ∀ b : UInt8, C[b.toNat]? = some (.bool (ab b)) from fun b => by rw [hC, Lib.setCells_at, abcd_ab])
  have Hset := hid (fun w => set_any w)
  rw [← hC] at Hset
  clear hC
  have Hsz := hid hsz
  have Hs := hid hs
  have HA := hid ((Has.all w).alloc (.cells C 131))
  have HE := hid (Ext.alloc w (.cells C 131))
  clear hs hsz
  by_cases h0 : s.size = 0
  · have hse : s = ⟨#[]⟩ := by cases s with | mk d => congr; exact Array.eq_empty_of_size_eq_zero h0
    subst hse
    go_enter Tryd.func60, Tryd.ntmps60
    go_wp2
    go_ret
    exact ⟨_, rfl, ⟨fun _ b hb => by simp at hb, fun _ => rfl⟩, Kp.refl _⟩
  · have hte : s.toList.isEmpty = false := by
      rw [ByteArray.toList_eq]
      cases hq : s.data.toList with
      | nil => exact absurd (by rw [show s.size = s.data.toList.length from (Array.length_toList (xs := s.data)).symm, hq]; rfl) h0
      | cons a l => rfl
    have J : Has ((w.alloc (.cells C 131)).alloc (.cells Tryd.zeroCells131 131)) (blk (w.heap.size + 1) Tryd.zeroCells131 131 + (pts w.heap.size (.cells C 131) + MS.all w)) := by
      have := HA.out.alloc (.cells Tryd.zeroCells131 131)
      rw [show (w.alloc (.cells C 131)).heap.size = w.heap.size + 1 by simp] at this
      exact this
    have HJ := hid J
    have HE2 := hid (HE.out.trans (Ext.alloc _ (.cells Tryd.zeroCells131 131)))
    have Hzs := hid (show Tryd.zeroCells131.size = 256 by kernel_rfl)
    have hwa : ∃ wa, wa = (w.alloc (.cells C 131)).alloc (.cells Tryd.zeroCells131 131) := ⟨_, rfl⟩
    generalize hsb : w.heap.size + 1 = sb at *
    clear J
    go_enter Tryd.func60, Tryd.ntmps60
    go_wp2_with (first
      | (go_at_call 84; with_reducible refine (Hset.out _).mono ?_; rintro e1 w1 ⟨rfl, rfl⟩)
      | (go_at_call 85; with_reducible refine (trimL_any hS.out r1 (by have := Hz1.out; have := Hs.out; omega)).mono ?_; rintro e3 w3 ⟨r2, rfl, hr2, hw⟩; have Hr2 := hid hr2; rw [hw]; clear hr2 hw)
      | (go_at_call 86; with_reducible refine (trimR_any hS.out s (by have := Hs.out; omega)).mono ?_; rintro e2 w2 ⟨r1, rfl, hr1, hz1, hw⟩; have Hr1 := hid hr1; have Hz1 := hid hz1; rw [hw]; clear hr1 hz1 hw)
      | (refine wpList_store_whole rfl (.tmp 5) (.tmp 32) 131 rfl 256 size131 sb (.agg C) (by first | rfl | (rw [← hsb]; rfl)) rfl Hsz.out Hone.out Tryd.zeroCells131 131 _ HJ.out Hzs.out ?_; intro w6 k1 k2; have K2 := hid k1; have E2 := hid (HE2.out.trans k2); have hS := hid (show SetAb w6 sb from fun b => K2.out.at_ (Hat.out b)); clear k1 k2))
    go_ret
    exact ⟨r2, rfl, by rw [Hr2.out]; exact Hr1.out, fun M hM => hM.of_all (X := blk sb C 131 + pts w.heap.size (.cells C 131)) (K2.out.eq (by ac_rfl)), E2.out⟩
end Go.Proofs.YteibbnmlmbhkpaaDoor

/-
  The walk of strings.Trim at the bytes of a region.
-/
import Derived.Test.YtcdhimnmbpllgaaDoorDBase
import Derived.Test.YtcdhimnmbpllgaaDoorProg
import Derived.Lib.TrimByte
import Derived.Shelf.Strings.AsciiSet
namespace Go.Proofs.YtcdhimnmbpllgaaDoor
open Go.RowKit Go.Shelf
set_option linter.unusedVariables false
set_option linter.unusedSimpArgs false
set_option maxHeartbeats 1000000
set_option maxRecDepth 100000

/-- A byte that a region may have. -/
def ab (b : UInt8) : Bool := decide (b.toNat = 35 ∨ b.toNat = 46)
/-- No byte. -/
def isE (s : ByteArray) : Prop := s.size = 0
def allAb (s : ByteArray) : Prop := ∀ b ∈ s.data.toList, ab b = true
/-- The set of these bytes at block sb. -/
def SetAb (w : World) (sb : Nat) : Prop := ∀ b : UInt8, w.cell? ⟨sb, b.toNat, none⟩ = some (.bool (ab b))
theorem contains_any {w : World} {sb : Nat} (h : SetAb w sb) (b : UInt8) :
    Calls Tryd.prog 120 #[.pointer (some ⟨sb, 0, none⟩), .int .u8 b.toNat] w fun e w' => e = .returned (.bool (ab b)) ∧ w' = w := by
  have f0 := h b
  have hb : (b.toNat : Int) < 256 := by have := b.toNat_lt; omega
  have hb0 : (0 : Int) ≤ b.toNat := by omega
  generalize ab b = q at *
  clear h
  go_enter Tryd.func120, Tryd.ntmps120
  go_wp2
  go_ret
  exact ⟨rfl, rfl⟩
theorem trimR_any {w : World} {sb : Nat} (h : SetAb w sb) (s : ByteArray) (hs : s.size ≤ 1000000) :
    Calls Tryd.prog 100 #[.string s, .pointer (some ⟨sb, 0, none⟩)] w fun e w' => ∃ r, e = .returned (.string r) ∧ (allAb r ↔ allAb s) ∧ r.size ≤ s.size ∧ w' = w := by
  have Hc := hid (fun b => contains_any h b)
  have hsz : s.size = s.data.toList.length := (Array.length_toList (xs := s.data)).symm
  have Hsz := hid hsz
  have hs2 : s.data.toList.length ≤ 1000000 := by omega
  have Hs2 := hid hs2
  have hse : s = ⟨s.data.toList.toArray⟩ := by cases s; rfl
  have Hall := hid (show allAb s ↔ ∀ b ∈ s.data.toList, ab b = true from Iff.rfl)
  generalize allAb s = AS at *
  rw [hse]
  generalize s.data.toList = l at *
  clear h hs hsz hs2 hse
  go_enter Tryd.func100, Tryd.ntmps100
  go_wp2
  go_loop [0] (fun v => ∃ k : Nat, k ≤ l.length ∧ v = .string ⟨(l.take k).toArray⟩ ∧ ∀ b ∈ l.drop k, ab b = true) (fun v => Lib.strSize v)
  case atStart => exact ⟨l.length, Nat.le_refl _, by rw [List.take_length], by simp⟩
  case round =>
    obtain ⟨k, hk, rfl, hd⟩ := hrel
    have Hd := hid hd
    have Hk := hid hk
    have hts : (⟨(l.take k).toArray⟩ : ByteArray).size = k := by rw [Lib.size_mk, List.length_take]; omega
    have hx1 : (⟨(l.take k).toArray⟩ : ByteArray).extract 0 (k - 1) = ⟨(l.take (k - 1)).toArray⟩ := by
      rw [Lib.extract_mk, List.drop_zero, List.take_take]
      congr 3
      omega
    have hk6 : (k : Int) ≤ 1000000 := by have := Hs2.out; omega
    clear hd hk
    generalize ht : (⟨(l.take k).toArray⟩ : ByteArray) = t at hts hx1 ⊢
    have Ht := hid ht
    by_cases h0 : 0 < k
    · have h1 : k - 1 < t.size := by omega
      have hlast : l[k - 1]? = some (t[k - 1]'h1) := by
        have := Lib.getElem_mk (l.take k) (k - 1) (by rw [Lib.size_mk, List.length_take]; have := Hk.out; omega)
        rw [List.getElem?_take_of_lt (by omega)] at this
        rw [this]
        congr 1
        subst ht
        rfl
      have hwr : IntKind.i64.wrap ((k : Int) - 1) = ((k - 1 : Nat) : Int) := by rw [IntKind.wrap_i64]; omega
      have hkk : ((k - 1 : Nat) : Int) < k := by omega
      have hkz : (0 : Int) ≤ ((k - 1 : Nat) : Int) := by omega
      have h0I : (0 : Int) < k := by omega
      have Hlast := hid hlast
      have H0 := hid h0
      have hc := Hc.out (t[k - 1]'h1)
      clear hlast ht h0
      cases hab : ab (t[k - 1]'h1) with
      | true =>
        rw [hab] at hc
        have Hab := hid hab
        clear hab
        go_wp2_with (go_at_call 120; refine hc.mono ?_; rintro e w' ⟨rfl, hw⟩; rw [hw])
        go_round
        case rel => exact ⟨k - 1, by have := Hk.out; omega, rfl, fun b hb => by
          have hkl : k - 1 < l.length := by have := Hk.out; have := H0.out; omega
          rw [List.drop_eq_getElem_cons hkl] at hb
          rcases List.mem_cons.1 hb with rfl | hb
          · have := Hlast.out
            rw [List.getElem?_eq_getElem hkl] at this
            injection this with this
            rw [this]; exact Hab.out
          · rw [show k - 1 + 1 = k by have := H0.out; omega] at hb
            exact Hd.out b hb⟩
        case measure =>
          rw [Lib.strSize_string, Lib.strSize_string, Lib.size_mk, List.length_take, hts]
          have := H0.out
          omega
      | false =>
        rw [hab] at hc
        have Hab := hid hab
        clear hab
        go_wp2_with (go_at_call 120; refine hc.mono ?_; rintro e w' ⟨rfl, hw⟩; rw [hw])
        go_ret
        refine ⟨t, rfl, ?_, by rw [hts]; first | exact Hk.out | (rw [Lib.size_mk]; exact Hk.out), rfl⟩
        have hmem : (t[k - 1]'h1) ∈ l := List.mem_of_getElem? Hlast.out
        have hmt : (t[k - 1]'h1) ∈ t.data.toList := by
          have : t.data[k - 1]'h1 ∈ t.data.toList := by simp
          exact this
        constructor
        · intro h; have := h _ hmt; rw [Hab.out] at this; cases this
        · intro h; have := Hall.out.1 h _ hmem; rw [Hab.out] at this; cases this
    · have hk0 : k = 0 := by omega
      have h0I : ¬ (0 : Int) < k := by omega
      clear h0
      go_wp2
      go_ret
      refine ⟨t, rfl, ?_, by rw [hts]; first | exact Hk.out | (rw [Lib.size_mk]; exact Hk.out), rfl⟩
      constructor
      · intro _
        exact Hall.out.2 fun b hb => Hd.out b (by rw [hk0]; exact hb)
      · intro _ b hb
        rw [← Ht.out, hk0] at hb
        simp at hb
theorem trimL_any {w : World} {sb : Nat} (h : SetAb w sb) (s : ByteArray) (hs : s.size ≤ 1000000) :
    Calls Tryd.prog 99 #[.string s, .pointer (some ⟨sb, 0, none⟩)] w fun e w' => ∃ r, e = .returned (.string r) ∧ (isE r ↔ allAb s) ∧ w' = w := by
  have Hc := hid (fun b => contains_any h b)
  have hsz : s.size = s.data.toList.length := (Array.length_toList (xs := s.data)).symm
  have hs2 : s.data.toList.length ≤ 1000000 := by omega
  have Hs2 := hid hs2
  have hse : s = ⟨s.data.toList.toArray⟩ := by cases s; rfl
  have Hall := hid (show allAb s ↔ ∀ b ∈ s.data.toList, ab b = true from Iff.rfl)
  generalize allAb s = AS at *
  rw [hse]
  generalize s.data.toList = l at *
  clear h hs hsz hs2 hse
  go_enter Tryd.func99, Tryd.ntmps99
  go_wp2
  go_loop [0] (fun v => ∃ k : Nat, k ≤ l.length ∧ v = .string ⟨(l.drop k).toArray⟩ ∧ ∀ b ∈ l.take k, ab b = true) (fun v => Lib.strSize v)
  case atStart => exact ⟨0, Nat.zero_le _, rfl, by simp⟩
  case round =>
    obtain ⟨k, hk, rfl, hd⟩ := hrel
    have Hd := hid hd
    have Hk := hid hk
    have hts : (⟨(l.drop k).toArray⟩ : ByteArray).size = l.length - k := by rw [Lib.size_mk, List.length_drop]
    have hx1 : (⟨(l.drop k).toArray⟩ : ByteArray).extract 1 (l.length - k) = ⟨(l.drop (k + 1)).toArray⟩ := by
      rw [Lib.extract_mk, List.drop_drop, List.take_of_length_le (by simp; omega)]
    have hk6 : (l.length : Int) ≤ 1000000 := by have := Hs2.out; omega
    clear hd hk
    generalize ht : (⟨(l.drop k).toArray⟩ : ByteArray) = t at hts hx1 ⊢
    have Ht := hid ht
    obtain ⟨z, hz⟩ : ∃ z, z = l.length - k := ⟨_, rfl⟩
    rw [← hz] at hts hx1
    have Hz := hid hz
    have hz6 : (z : Int) ≤ 1000000 := by omega
    clear hz hk6
    by_cases h0 : 0 < z
    · have h1 : 0 < t.size := by omega
      have hfirst : l[k]? = some (t[0]'h1) := by
        have := Lib.getElem_mk (l.drop k) 0 (by rw [Lib.size_mk, List.length_drop]; have := Hz.out; omega)
        rw [List.getElem?_drop] at this
        rw [Nat.add_zero] at this
        rw [this]
        congr 1
        subst ht
        rfl
      have h0I : (0 : Int) < z := by omega
      have Hfirst := hid hfirst
      have H0 := hid h0
      have hc := Hc.out (t[0]'h1)
      clear hfirst ht h0
      cases hab : ab (t[0]'h1) with
      | true =>
        rw [hab] at hc
        have Hab := hid hab
        clear hab
        go_wp2_with (go_at_call 120; refine hc.mono ?_; rintro e w' ⟨rfl, hw⟩; rw [hw])
        go_round
        case rel => exact ⟨k + 1, by have := Hz.out; have := H0.out; omega, rfl, fun b hb => by
          have hkl : k < l.length := by have := Hz.out; have := H0.out; omega
          rw [List.take_succ_eq_append_getElem hkl] at hb
          rcases List.mem_append.1 hb with hb | hb
          · exact Hd.out b hb
          · have h3 := Hfirst.out
            rw [List.getElem?_eq_getElem hkl] at h3
            injection h3 with h3
            rw [List.mem_singleton.1 hb, h3]; exact Hab.out⟩
        case measure =>
          rw [Lib.strSize_string, Lib.strSize_string, Lib.size_mk, List.length_drop, hts]
          have := H0.out
          have := Hz.out
          omega
      | false =>
        rw [hab] at hc
        have Hab := hid hab
        clear hab
        go_wp2_with (go_at_call 120; refine hc.mono ?_; rintro e w' ⟨rfl, hw⟩; rw [hw])
        go_ret
        refine ⟨t, rfl, ?_, rfl⟩
        have hmem : (t[0]'h1) ∈ l := List.mem_of_getElem? Hfirst.out
        constructor
        · intro h; unfold isE at h; omega
        · intro h; have := Hall.out.1 h _ hmem; rw [Hab.out] at this; cases this
    · have h0I : ¬ (0 : Int) < z := by omega
      have Hz0 := hid (show z = 0 by omega)
      have hts' := hid hts
      clear h0
      go_wp2
      go_ret
      refine ⟨t, rfl, ?_, rfl⟩
      constructor
      · intro _
        exact Hall.out.2 fun b hb => Hd.out b (by rw [List.take_of_length_le (by have := Hz.out; have := Hz0.out; omega)]; exact hb)
      · intro _
        unfold isE
        rw [hts'.out]; exact Hz0.out
def lays227_ren : Go.Shelf.Ren := ⟨fun | 227 => 98 | n => n, fun | 9 => 9 | 116 => 131 | 4 => 4 | 0 => 0 | 3 => 3 | 5 => 5 | n => n, fun | n => n⟩
theorem lays227 : Go.Proofs.Lays.n227 Tryd.prog lays227_ren := {
  mixed := by kernel_rfl
  f227 := Tryd.func98.trans (congrArg some (by kernel_rfl))
  t0 := Tryd.underlying0
  a0 := Tryd.isAgg0
  z0 := Tryd.sizeOf0
  v0 := Tryd.zeroValue0
  t3 := Tryd.underlying3
  a3 := Tryd.isAgg3
  z3 := Tryd.sizeOf3
  v3 := Tryd.zeroValue3
  t4 := Tryd.underlying4
  a4 := Tryd.isAgg4
  z4 := Tryd.sizeOf4
  v4 := Tryd.zeroValue4
  t5 := Tryd.underlying5
  a5 := Tryd.isAgg5
  z5 := Tryd.sizeOf5
  v5 := Tryd.zeroValue5
  t9 := Tryd.underlying9
  a9 := Tryd.isAgg9
  z9 := Tryd.sizeOf9
  v9 := Tryd.zeroValue9
  t116 := Tryd.underlying131
  a116 := Tryd.isAgg131
  z116 := Tryd.sizeOf131 }
theorem size131 : (Tryd.prog.info? 131).map (·.size) = some 256 := by kernel_rfl
theorem zero131 : (Tryd.prog.info? 131).map (fun i => (i.zero, i.size)) = some (some (.agg (Array.replicate 256 (.bool false))), 256) := by kernel_rfl
theorem set_any (w : World) : Calls Tryd.prog 98 #[.string ⟨#[35, 46]⟩] w fun e w' => e = .returned (.tuple #[.agg (Lib.setCells [35, 46]), .bool true]) ∧ w' = w.alloc (.cells (Lib.setCells [35, 46]) 131) :=
  Any.strings_makeASCIISet lays227 (zero_of_info zero131).1 (zero_of_info zero131).2 ⟨#[35, 46]⟩ w (by decide) (fun j b h => by
    match j with
    | 0 => injection h with h; subst h; decide
    | 1 => injection h with h; subst h; decide
    | n + 2 => cases h)
theorem abcd_ab (b : UInt8) : [35, 46].contains b = ab b := by
  unfold ab
  rw [Bool.eq_iff_iff, List.contains_iff_mem]
  simp only [List.mem_cons, List.not_mem_nil, or_false, decide_eq_true_eq]
  constructor
  · rintro (rfl | rfl) <;> decide
  · intro h
    rcases h with h | h
    · exact .inl (UInt8.toNat_inj.1 h)
    · exact .inr (UInt8.toNat_inj.1 h)
theorem trim_any (s : ByteArray) (hs : s.size ≤ 1000) (w : World) :
    Calls Tryd.prog 72 #[.string s, .string ⟨#[35, 46]⟩] w fun e w' => ∃ r, e = .returned (.string r) ∧ (isE r ↔ allAb s) ∧ Kp w w' := by
  obtain ⟨C, hC⟩ : ∃ C, C = Lib.setCells [35, 46] := ⟨_, rfl⟩
  have hsz : C.size = 256 := by rw [hC]; exact Lib.setCells_size _
  have Hone := hid (show ∀ v ∈ C.toList, v.oneCell' = true by
    have := Lib.setCells_one [35, 46]
    rw [← hC, Array.all_eq_true_iff_forall_mem] at this
    exact fun v hv => this v (Array.mem_toList_iff.1 hv))
  have Hat := hid (show ∀ b : UInt8, C[b.toNat]? = some (.bool (ab b)) from fun b => by rw [hC, Lib.setCells_at, abcd_ab])
  have Hset := hid (fun w => set_any w)
  rw [← hC] at Hset
  clear hC
  have Hsz := hid hsz
  have Hs := hid hs
  have HA := hid ((Has.all w).alloc (.cells C 131))
  have HE := hid (Ext.alloc w (.cells C 131))
  clear hs hsz
  by_cases h0 : s.size = 0
  · have hse : s = ⟨#[]⟩ := by cases s with | mk d => congr; exact Array.eq_empty_of_size_eq_zero h0
    subst hse
    go_enter Tryd.func72, Tryd.ntmps72
    go_wp2
    go_ret
    exact ⟨_, rfl, ⟨fun _ b hb => by simp at hb, fun _ => rfl⟩, Kp.refl _⟩
  · have hte : s.toList.isEmpty = false := by
      rw [ByteArray.toList_eq]
      cases hq : s.data.toList with
      | nil => exact absurd (by rw [show s.size = s.data.toList.length from (Array.length_toList (xs := s.data)).symm, hq]; rfl) h0
      | cons a l => rfl
    have J : Has ((w.alloc (.cells C 131)).alloc (.cells Tryd.zeroCells131 131)) (blk (w.heap.size + 1) Tryd.zeroCells131 131 + (pts w.heap.size (.cells C 131) + MS.all w)) := by
      have := HA.out.alloc (.cells Tryd.zeroCells131 131)
      rw [show (w.alloc (.cells C 131)).heap.size = w.heap.size + 1 by simp] at this
      exact this
    have HJ := hid J
    have HE2 := hid (HE.out.trans (Ext.alloc _ (.cells Tryd.zeroCells131 131)))
    have Hzs := hid (show Tryd.zeroCells131.size = 256 by kernel_rfl)
    have hwa : ∃ wa, wa = (w.alloc (.cells C 131)).alloc (.cells Tryd.zeroCells131 131) := ⟨_, rfl⟩
    generalize hsb : w.heap.size + 1 = sb at *
    clear J
    go_enter Tryd.func72, Tryd.ntmps72
    go_wp2_with (first
      | (go_at_call 98; with_reducible refine (Hset.out _).mono ?_; rintro e1 w1 ⟨rfl, rfl⟩)
      | (go_at_call 99; with_reducible refine (trimL_any hS.out r1 (by have := Hz1.out; have := Hs.out; omega)).mono ?_; rintro e3 w3 ⟨r2, rfl, hr2, hw⟩; have Hr2 := hid hr2; rw [hw]; clear hr2 hw)
      | (go_at_call 100; with_reducible refine (trimR_any hS.out s (by have := Hs.out; omega)).mono ?_; rintro e2 w2 ⟨r1, rfl, hr1, hz1, hw⟩; have Hr1 := hid hr1; have Hz1 := hid hz1; rw [hw]; clear hr1 hz1 hw)
      | (refine wpList_store_whole rfl (.tmp 5) (.tmp 32) 131 rfl 256 size131 sb (.agg C) (by first | rfl | (rw [← hsb]; rfl)) rfl Hsz.out Hone.out Tryd.zeroCells131 131 _ HJ.out Hzs.out ?_; intro w6 k1 k2; have K2 := hid k1; have E2 := hid (HE2.out.trans k2); have hS := hid (show SetAb w6 sb from fun b => K2.out.at_ (Hat.out b)); clear k1 k2))
    go_ret
    exact ⟨r2, rfl, by rw [Hr2.out]; exact Hr1.out, fun M hM => hM.of_all (X := blk sb C 131 + pts w.heap.size (.cells C 131)) (K2.out.eq (by ac_rfl)), E2.out⟩
end Go.Proofs.YtcdhimnmbpllgaaDoor

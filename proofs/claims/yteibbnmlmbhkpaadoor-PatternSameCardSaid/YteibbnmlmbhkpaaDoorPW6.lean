/-
  The walk of of.
-/
import Derived.Test.YteibbnmlmbhkpaaDoorPW5
namespace Go.Proofs.YteibbnmlmbhkpaaDoor
open Go.RowKit
set_option linter.unusedVariables false
set_option linter.unusedSimpArgs false
set_option maxHeartbeats 1000000
set_option maxRecDepth 100000

/-- Is it a pattern? -/
def isPat (p : List ByteArray) : Bool := decide (1 ≤ p.length ∧ p.length ≤ 6 ∧ 1 ≤ wd p ∧ wd p ≤ 6) && !p.any (badRow (wd p))
theorem isPat.ok {p : List ByteArray} (h : isPat p = true) : PatOk p ∧ ∀ s ∈ p, abB s = true := by
  unfold isPat at h
  rw [Bool.and_eq_true, decide_eq_true_eq, Bool.not_eq_true', List.any_eq_false] at h
  obtain ⟨⟨h1, h2, h3, h4⟩, h5⟩ := h
  have hb : ∀ s ∈ p, s.size = wd p ∧ abB s = true := fun s hs => by
    have := h5 s hs
    unfold badRow at this
    simp at this
    exact this
  exact ⟨⟨h1, h2, h3, h4, fun s hs => (hb s hs).1⟩, fun s hs => (hb s hs).2⟩
theorem rd_all_str {F : MS} {w : World} {l : List ByteArray} {v : Value} (h : RdS F RT.str l v) (hH : Has w F) : RdS (MS.all w) RT.str l v := rd_all (F := F) (T := RT.str) (fun _ _ h => h) h hH
theorem of_any {F : MS} {p : List ByteArray} {A : Option Addr} {c : Nat} {w : World} (hr : RdS F RT.str p (.slice A p.length c)) (hl : p.length ≤ 1000) (hs : ∀ s ∈ p, s.size ≤ 1000000) (hH : Has w F) :
    Calls Tryd.prog 33 #[.slice A p.length c] w fun e w' => ∃ r, e = .returned (.tuple #[.pointer r, .bool (isPat p)]) ∧ Kp w w' ∧ (isPat p = true → ∃ fb X, r = some ⟨fb, 0, none⟩ ∧ Has w' X ∧ Flo X p fb) := by
  have HA := hid ((Has.all w).alloc (.cells #[.slice A p.length c] 22))
  have HEA := hid (Ext.alloc w (.cells #[.slice A p.length c] 22))
  have Hr := hid (rd_all_str hr hH)
  have hlI : (p.length : Int) ≤ 1000 := by omega
  have hNc := hr.cells.2.1
  by_cases h1 : 1 ≤ p.length
  rotate_left
  · have hq := hid (show isPat p = false by unfold isPat; simp; omega)
    have h1I : (p.length : Int) < 1 := by omega
    clear hr hs hH h1
    go_enter Tryd.func33, Tryd.ntmps33
    go_wp2
    go_ret2
    exact ⟨none, by rw [hq.out]; rfl, ⟨fun M hM => hM.of_all HA.out, HEA.out⟩, fun h => by rw [hq.out] at h; cases h⟩
  by_cases h6 : p.length ≤ 6
  rotate_left
  · have hq := hid (show isPat p = false by unfold isPat; simp; omega)
    have h1I : ¬ (p.length : Int) < 1 := by omega
    have h2I : (6 : Int) < p.length := by omega
    clear hr hs hH h1 h6
    go_enter Tryd.func33, Tryd.ntmps33
    go_wp2
    go_ret2
    exact ⟨none, by rw [hq.out]; rfl, ⟨fun M hM => hM.of_all HA.out, HEA.out⟩, fun h => by rw [hq.out] at h; cases h⟩
  obtain ⟨b, o, hAe, e3⟩ := hr.getStr (i := 0) (a := p.getD 0 empty) (get_getD empty (by omega))
  subst hAe
  obtain ⟨r0, hr0⟩ : ∃ r0, r0 = p.getD 0 empty := ⟨_, rfl⟩
  have hwd : wd p = r0.size := by unfold wd; rw [hr0]
  rw [← hr0] at e3
  have f1 := e3.c0 (hH.of_all HA.out)
  rw [Nat.add_zero] at f1
  have hrs : r0.size ≤ 1000000 := hs r0 (by
    have := get_getD empty (show 0 < p.length by omega)
    rw [← hr0] at this
    exact List.mem_of_getElem? this)
  have h1I : ¬ (p.length : Int) < 1 := by omega
  have h2I : ¬ (6 : Int) < p.length := by omega
  have h3I : (0 : Int) < p.length := by omega
  by_cases hw1 : 1 ≤ r0.size
  rotate_left
  · have hq := hid (show isPat p = false by unfold isPat; rw [hwd]; simp; omega)
    have h4I : (r0.size : Int) < 1 := by omega
    clear hr hs hH h1 h6 hwd hr0 hw1 e3 hrs
    go_enter Tryd.func33, Tryd.ntmps33
    go_wp2
    go_ret2
    exact ⟨none, by rw [hq.out]; rfl, ⟨fun M hM => hM.of_all HA.out, HEA.out⟩, fun h => by rw [hq.out] at h; cases h⟩
  by_cases hw6 : r0.size ≤ 6
  rotate_left
  · have hq := hid (show isPat p = false by unfold isPat; rw [hwd]; simp; omega)
    have h4I : ¬ (r0.size : Int) < 1 := by omega
    have h5I : (6 : Int) < r0.size := by omega
    clear hr hs hH h1 h6 hwd hr0 hw1 hw6 e3 hrs
    go_enter Tryd.func33, Tryd.ntmps33
    go_wp2
    go_ret2
    exact ⟨none, by rw [hq.out]; rfl, ⟨fun M hM => hM.of_all HA.out, HEA.out⟩, fun h => by rw [hq.out] at h; cases h⟩
  have h4I : ¬ (r0.size : Int) < 1 := by omega
  have h5I : ¬ (6 : Int) < r0.size := by omega
  obtain ⟨bx, hbx⟩ : ∃ bx, bx = w.heap.size := ⟨_, rfl⟩
  have J := HA.out
  rw [← hbx] at J
  have HJ := hid (show Has (w.alloc (.cells #[.slice (some ⟨b, o, none⟩) p.length c] 22)) (blk bx #[.slice (some ⟨b, o, none⟩) p.length c] 22 + MS.all w) from J)
  have Hx := hid (show (blk bx #[.slice (some ⟨b, o, none⟩) p.length c] 22 + MS.all w).at bx 0 (.slice (some ⟨b, o, none⟩) p.length c) from MS.at.less (blk_at (by rfl)) _)
  have He3 := hid (show (blk bx #[.slice (some ⟨b, o, none⟩) p.length c] 22 + MS.all w).at b o (.string r0) from by have := at_all e3 hH; rw [Nat.add_zero] at this; exact this.more _)
  have Hc := hid (contains_fn Hx.out (Hr.out.more _) h1 hl (by rw [hwd]; exact hw6) HJ.out hs)
  have hq := hid (show isPat p = !p.any (badRow (wd p)) by unfold isPat; rw [hwd]; simp; omega)
  have Hwd := hid hwd
  have h3N : 0 < p.length := by omega
  have hNI : p.length ≤ c := hNc
  generalize p.any (badRow (wd p)) = q at *
  have f2 := Hx.out.c0 HJ.out
  clear hr hs hH h1 h6 hr0 hw1 hw6 HA J hrs hl e3 hwd
  subst hbx
  cases q with
  | true =>
    go_enter Tryd.func33, Tryd.ntmps33
    go_wp2_with (go_at_call 58; refine Hc.out.mono ?_; rintro e5 w5 ⟨rfl, k1⟩; have K1 := hid k1; clear k1)
    go_ret2
    exact ⟨none, by rw [hq.out]; rfl, ⟨fun M hM => K1.out.1 _ (hM.of_all (HJ.out.eq (by ac_rfl))), HEA.out.trans K1.out.2⟩, fun h => by rw [hq.out] at h; cases h⟩
  | false =>
    go_enter Tryd.func33, Tryd.ntmps33
    go_wp2_with (go_at_call 58; refine Hc.out.mono ?_; rintro e5 w5 ⟨rfl, k1⟩; have K1 := hid k1; clear k1)
    have J5 := hid (K1.out.1 _ HJ.out)
    generalize w.heap.size = bx at *
    clear f1 f2
    have hS : w5.drew.cell? ⟨bx, 0, none⟩ = some (.slice (some ⟨b, o, none⟩) p.length c) ∧ w5.drew.cell? ⟨b, o, none⟩ = some (.string r0) := ⟨Hx.out.c0 J5.out.drew, He3.out.c0 J5.out.drew⟩
    refine wp_region_txt (fun W => W.cell? ⟨bx, 0, none⟩ = some (.slice (some ⟨b, o, none⟩) p.length c) ∧ W.cell? ⟨b, o, none⟩ = some (.string r0)) (some 10)
      [(0, true), (1, true), (2, true), (3, true), (4, true), (5, true), (6, true), (7, true), (8, false), (9, false), (10, false)] (by kernel_rfl) rfl (by kernel_rfl) (by kernel_rfl) (by repeat (first | with_reducible refine PanicOk.thn ?_ | with_reducible refine PanicOk.blk ?_ | exact PanicOk.body _ _ _)) ?_
    repeat
      (refine txt_quiet ?_ hS rfl rfl (fun W hW => ?_) ?_
       rotate_left 1
       · obtain ⟨hW1, hW2⟩ := hW
         go_simp
         exact rfl
       simp only [Act.put, List.setIfInBounds_toArray, List.set_cons_zero, List.set_cons_succ])
    refine txt_op rfl rfl ?_
    refine op_run (.pointer (some ⟨w5.drew.heap.size, 0, none⟩)) (w5.drew.alloc (.cells #[.int .i64 r0.size, .int .i64 p.length, .slice (some ⟨b, o, none⟩) p.length c] 79)) (by go_simp) ?_
    have J6 := hid (show Has (w5.drew.alloc (.cells #[.int .i64 r0.size, .int .i64 p.length, .slice (some ⟨b, o, none⟩) p.length c] 79)) (blk w5.drew.heap.size #[.int .i64 r0.size, .int .i64 p.length, .slice (some ⟨b, o, none⟩) p.length c] 79 + _) from J5.out.drew.alloc _)
    have E6 := hid (((HEA.out.trans K1.out.2).trans (Ext.drew _)).trans (Ext.alloc w5.drew (.cells #[.int .i64 r0.size, .int .i64 p.length, .slice (some ⟨b, o, none⟩) p.length c] 79)))
    generalize w5.drew.heap.size = fb at *
    generalize w5.drew.alloc _ = w6 at *
    have hS6 : w6.cell? ⟨bx, 0, none⟩ = some (.slice (some ⟨b, o, none⟩) p.length c) ∧ w6.cell? ⟨b, o, none⟩ = some (.string r0) := ⟨(Hx.out.more _).c0 J6.out, (He3.out.more _).c0 J6.out⟩
    refine ⟨fun _ => hS6, ?_⟩
    simp only [Act.put, List.setIfInBounds_toArray, List.set_cons_zero, List.set_cons_succ]
    clear hS
    refine txt_op rfl rfl ?_
    refine op_run (.pointer (some ⟨fb, 0, none⟩)) w6 (by go_simp) ?_
    refine ⟨fun _ => hS6, ?_⟩
    simp only [Act.put, List.setIfInBounds_toArray, List.set_cons_zero, List.set_cons_succ]
    refine txt_op rfl rfl ?_
    refine op_run (.bool true) w6 (by go_simp) ?_
    refine ⟨fun h => absurd rfl h, ?_⟩
    simp only [Act.put, List.setIfInBounds_toArray, List.set_cons_zero, List.set_cons_succ]
    refine txt_done ?_
    go_wp2
    go_ret2
    refine ⟨some ⟨fb, 0, none⟩, by rw [hq.out]; rfl, ⟨fun M hM => hM.of_all (X := blk fb #[.int .i64 r0.size, .int .i64 p.length, .slice (some ⟨b, o, none⟩) p.length c] 79 + blk bx #[.slice (some ⟨b, o, none⟩) p.length c] 22) (J6.out.eq (by ac_rfl)), E6.out⟩, fun _ => ⟨fb, _, rfl, J6.out, some ⟨b, o, none⟩, c, ?_, ?_, ?_, ((Hr.out.more _).more _)⟩⟩
    · rw [Hwd.out]; exact MS.at.less (blk_at rfl) _
    · exact MS.at.less (blk_at rfl) _
    · exact MS.at.less (blk_at rfl) _
end Go.Proofs.YteibbnmlmbhkpaaDoor

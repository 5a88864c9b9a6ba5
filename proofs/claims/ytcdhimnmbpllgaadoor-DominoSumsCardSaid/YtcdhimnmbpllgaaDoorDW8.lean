/-
  The walk of Of.
-/
import Derived.Test.YtcdhimnmbpllgaaDoorDW7
namespace Go.Proofs.YtcdhimnmbpllgaaDoor
open Go.RowKit
set_option linter.unusedVariables false
set_option linter.unusedSimpArgs false
set_option maxHeartbeats 1000000
set_option maxRecDepth 100000

/-- Is it a region? -/
def isReg (p : List ByteArray) : Bool := decide (1 ≤ p.length ∧ p.length ≤ 8 ∧ 1 ≤ wd p ∧ wd p ≤ 8) && !p.any (badRow (wd p))
theorem isReg.ok {p : List ByteArray} (h : isReg p = true) : RegOk p ∧ ∀ s ∈ p, abB s = true := by
  unfold isReg at h
  rw [Bool.and_eq_true, decide_eq_true_eq, Bool.not_eq_true', List.any_eq_false] at h
  obtain ⟨⟨h1, h2, h3, h4⟩, h5⟩ := h
  have hb : ∀ s ∈ p, s.size = wd p ∧ abB s = true := fun s hs => by
    have := h5 s hs
    unfold badRow at this
    simp at this
    exact this
  exact ⟨⟨h1, h2, h3, h4, fun s hs => (hb s hs).1⟩, fun s hs => (hb s hs).2⟩
theorem size51 : (Tryd.prog.info? 51).map (·.size) = some 3 := by kernel_rfl
def noReg : Value := .agg #[.int .i64 0, .int .i64 0, .slice none 0 0]
def regV (p : List ByteArray) (A : Option Addr) (c : Nat) : Value := if isReg p then rgV p A c else noReg
theorem of_any {F : MS} {p : List ByteArray} {A : Option Addr} {c : Nat} {w : World} (hr : RdS F RT.str p (.slice A p.length c)) (hl : p.length ≤ 1000) (hs : ∀ s ∈ p, s.size ≤ 1000000) (hH : Has w F) :
    Calls Tryd.prog 32 #[.slice A p.length c] w fun e w' => e = .returned (.tuple #[regV p A c, .bool (isReg p)]) ∧ Kp w w' := by
  have HA := hid ((Has.all w).alloc (.cells #[.slice A p.length c] 22))
  have HZ := hid (show Has ((w.alloc (.cells #[.slice A p.length c] 22)).alloc (.cells #[.int .i64 0, .int .i64 0, .slice none 0 0] 51)) (blk (w.heap.size + 1) #[.int .i64 0, .int .i64 0, .slice none 0 0] 51 + (blk w.heap.size #[.slice A p.length c] 22 + MS.all w)) by
    have := HA.out.alloc (.cells #[.int .i64 0, .int .i64 0, .slice none 0 0] 51)
    rw [show (w.alloc (.cells #[.slice A p.length c] 22)).heap.size = w.heap.size + 1 by simp] at this
    exact this)
  have HEZ := hid ((Ext.alloc w (.cells #[.slice A p.length c] 22)).trans (Ext.alloc _ (.cells #[.int .i64 0, .int .i64 0, .slice none 0 0] 51)))
  have Hr := hid (rd_all_str hr hH)
  have hlI : (p.length : Int) ≤ 1000 := by omega
  have hNc := hr.cells.2.1
  by_cases h1 : 1 ≤ p.length
  rotate_left
  · have hq := hid (show isReg p = false by unfold isReg; simp; omega)
    have h1I : (p.length : Int) < 1 := by omega
    clear hr hs hH h1
    go_enter Tryd.func32, Tryd.ntmps32
    go_wp2_with (refine wpList_store_whole rfl (.tmp 2) (.tmp 27) 51 rfl 3 size51 (w.heap.size + 1) noReg rfl rfl rfl (by simp [noReg, Value.cells, Value.oneCell']) #[.int .i64 0, .int .i64 0, .slice none 0 0] 51 _ HZ.out rfl ?_; intro w6 j1 j2; have HW6 := hid (show Has w6 (blk (w.heap.size + 1) #[.int .i64 0, .int .i64 0, .slice none 0 0] 51 + _) from j1); have HE6 := hid (HEZ.out.trans j2); have r0 := HW6.out.at_ (i := 0) rfl; have r1 := HW6.out.at_ (i := 1) rfl; have r2 := HW6.out.at_ (i := 2) rfl; clear j1 j2)
    exact bodyPost_ret (v := .tuple #[noReg, .bool false]) (by simp [results, Tryd.results32, go_sem, r0, r1, r2, noReg]) rfl ⟨by unfold regV; rw [hq.out]; rfl, fun M hM => hM.of_all HW6.out.right, HE6.out⟩
  by_cases h6 : p.length ≤ 8
  rotate_left
  · have hq := hid (show isReg p = false by unfold isReg; simp; omega)
    have h1I : ¬ (p.length : Int) < 1 := by omega
    have h2I : (8 : Int) < p.length := by omega
    clear hr hs hH h1 h6
    go_enter Tryd.func32, Tryd.ntmps32
    go_wp2_with (refine wpList_store_whole rfl (.tmp 2) (.tmp 27) 51 rfl 3 size51 (w.heap.size + 1) noReg rfl rfl rfl (by simp [noReg, Value.cells, Value.oneCell']) #[.int .i64 0, .int .i64 0, .slice none 0 0] 51 _ HZ.out rfl ?_; intro w6 j1 j2; have HW6 := hid (show Has w6 (blk (w.heap.size + 1) #[.int .i64 0, .int .i64 0, .slice none 0 0] 51 + _) from j1); have HE6 := hid (HEZ.out.trans j2); have r0 := HW6.out.at_ (i := 0) rfl; have r1 := HW6.out.at_ (i := 1) rfl; have r2 := HW6.out.at_ (i := 2) rfl; clear j1 j2)
    exact bodyPost_ret (v := .tuple #[noReg, .bool false]) (by simp [results, Tryd.results32, go_sem, r0, r1, r2, noReg]) rfl ⟨by unfold regV; rw [hq.out]; rfl, fun M hM => hM.of_all HW6.out.right, HE6.out⟩
  obtain ⟨b, o, hAe, e3⟩ := hr.getStr (i := 0) (a := p.getD 0 empty) (get_getD empty (by omega))
  subst hAe
  obtain ⟨r0, hr0⟩ : ∃ r0, r0 = p.getD 0 empty := ⟨_, rfl⟩
  have hwd : wd p = r0.size := by unfold wd; rw [hr0]
  rw [← hr0] at e3
  have f1 := e3.c0 (hH.of_all HZ.out.right)
  rw [Nat.add_zero] at f1
  have hrs : r0.size ≤ 1000000 := hs r0 (by
    have := get_getD empty (show 0 < p.length by omega)
    rw [← hr0] at this
    exact List.mem_of_getElem? this)
  have h1I : ¬ (p.length : Int) < 1 := by omega
  have h2I : ¬ (8 : Int) < p.length := by omega
  have h3I : (0 : Int) < p.length := by omega
  by_cases hw1 : 1 ≤ r0.size
  rotate_left
  · have hq := hid (show isReg p = false by unfold isReg; rw [hwd]; simp; omega)
    have h4I : (r0.size : Int) < 1 := by omega
    clear hr hs hH h1 h6 hwd hr0 hw1 e3 hrs
    go_enter Tryd.func32, Tryd.ntmps32
    go_wp2_with (refine wpList_store_whole rfl (.tmp 2) (.tmp 27) 51 rfl 3 size51 (w.heap.size + 1) noReg rfl rfl rfl (by simp [noReg, Value.cells, Value.oneCell']) #[.int .i64 0, .int .i64 0, .slice none 0 0] 51 _ HZ.out rfl ?_; intro w6 j1 j2; have HW6 := hid (show Has w6 (blk (w.heap.size + 1) #[.int .i64 0, .int .i64 0, .slice none 0 0] 51 + _) from j1); have HE6 := hid (HEZ.out.trans j2); have r0 := HW6.out.at_ (i := 0) rfl; have r1 := HW6.out.at_ (i := 1) rfl; have r2 := HW6.out.at_ (i := 2) rfl; clear j1 j2)
    exact bodyPost_ret (v := .tuple #[noReg, .bool false]) (by simp [results, Tryd.results32, go_sem, r0, r1, r2, noReg]) rfl ⟨by unfold regV; rw [hq.out]; rfl, fun M hM => hM.of_all HW6.out.right, HE6.out⟩
  by_cases hw6 : r0.size ≤ 8
  rotate_left
  · have hq := hid (show isReg p = false by unfold isReg; rw [hwd]; simp; omega)
    have h4I : ¬ (r0.size : Int) < 1 := by omega
    have h5I : (8 : Int) < r0.size := by omega
    clear hr hs hH h1 h6 hwd hr0 hw1 hw6 e3 hrs
    go_enter Tryd.func32, Tryd.ntmps32
    go_wp2_with (refine wpList_store_whole rfl (.tmp 2) (.tmp 27) 51 rfl 3 size51 (w.heap.size + 1) noReg rfl rfl rfl (by simp [noReg, Value.cells, Value.oneCell']) #[.int .i64 0, .int .i64 0, .slice none 0 0] 51 _ HZ.out rfl ?_; intro w6 j1 j2; have HW6 := hid (show Has w6 (blk (w.heap.size + 1) #[.int .i64 0, .int .i64 0, .slice none 0 0] 51 + _) from j1); have HE6 := hid (HEZ.out.trans j2); have r0 := HW6.out.at_ (i := 0) rfl; have r1 := HW6.out.at_ (i := 1) rfl; have r2 := HW6.out.at_ (i := 2) rfl; clear j1 j2)
    exact bodyPost_ret (v := .tuple #[noReg, .bool false]) (by simp [results, Tryd.results32, go_sem, r0, r1, r2, noReg]) rfl ⟨by unfold regV; rw [hq.out]; rfl, fun M hM => hM.of_all HW6.out.right, HE6.out⟩
  have h4I : ¬ (r0.size : Int) < 1 := by omega
  have h5I : ¬ (8 : Int) < r0.size := by omega
  have Hx := hid (show (blk w.heap.size #[.slice (some ⟨b, o, none⟩) p.length c] 22 + MS.all w).at w.heap.size 0 (.slice (some ⟨b, o, none⟩) p.length c) from MS.at.less (blk_at (by rfl)) _)
  have He3 := hid (show (blk w.heap.size #[.slice (some ⟨b, o, none⟩) p.length c] 22 + MS.all w).at b o (.string r0) from by have := at_all e3 hH; rw [Nat.add_zero] at this; exact this.more _)
  have Hc := hid (contains_fn Hx.out (Hr.out.more _) h1 hl (by rw [hwd]; exact hw6) HZ.out.right hs)
  have hq := hid (show isReg p = !p.any (badRow (wd p)) by unfold isReg; rw [hwd]; simp; omega)
  have Hwd := hid hwd
  have h3N : 0 < p.length := by omega
  have hNI : p.length ≤ c := hNc
  generalize p.any (badRow (wd p)) = q at *
  have f2 := Hx.out.c0 HZ.out.right
  clear hr hs hH h1 h6 hr0 hw1 hw6 hrs hl e3 hwd
  cases q with
  | true =>
    go_enter Tryd.func32, Tryd.ntmps32
    go_wp2_with (first
      | (go_at_call 73; refine Hc.out.mono ?_; rintro e5 w5 ⟨rfl, k1⟩; have HK := hid (k1.1 _ HZ.out); have HEK := hid (HEZ.out.trans k1.2); clear k1)
      | (refine wpList_store_whole rfl (.tmp 2) (.tmp 32) 51 rfl 3 size51 (w.heap.size + 1) noReg rfl rfl rfl (by simp [noReg, Value.cells, Value.oneCell']) #[.int .i64 0, .int .i64 0, .slice none 0 0] 51 _ HK.out rfl ?_; intro w6 j1 j2; have HW6 := hid (show Has w6 (blk (w.heap.size + 1) #[.int .i64 0, .int .i64 0, .slice none 0 0] 51 + _) from j1); have HE6 := hid (HEK.out.trans j2); have r0 := HW6.out.at_ (i := 0) rfl; have r1 := HW6.out.at_ (i := 1) rfl; have r2 := HW6.out.at_ (i := 2) rfl; clear j1 j2))
    exact bodyPost_ret (v := .tuple #[noReg, .bool false]) (by simp [results, Tryd.results32, go_sem, r0, r1, r2, noReg]) rfl ⟨by unfold regV; rw [hq.out]; rfl, fun M hM => hM.of_all HW6.out.right, HE6.out⟩
  | false =>
    go_enter Tryd.func32, Tryd.ntmps32
    go_wp2_with (go_at_call 73; refine Hc.out.mono ?_; rintro e5 w5 ⟨rfl, k1⟩; have HK := hid (k1.1 _ HZ.out); have HEK := hid (HEZ.out.trans k1.2); clear k1)
    clear f1 f2
    obtain ⟨bx, hbx⟩ : ∃ bx, bx = w.heap.size := ⟨_, rfl⟩
    rw [← hbx] at Hx He3 HK ⊢
    clear hbx
    have hS : w5.drew.cell? ⟨bx, 0, none⟩ = some (.slice (some ⟨b, o, none⟩) p.length c) ∧ w5.drew.cell? ⟨b, o, none⟩ = some (.string r0) := ⟨Hx.out.c0 HK.out.right.drew, He3.out.c0 HK.out.right.drew⟩
    refine wp_region_txt (fun W => W.cell? ⟨bx, 0, none⟩ = some (.slice (some ⟨b, o, none⟩) p.length c) ∧ W.cell? ⟨b, o, none⟩ = some (.string r0)) none
      [(0, true), (1, true), (2, true), (3, true), (4, true), (5, true), (6, true), (7, true), (8, false), (9, true)] (by kernel_rfl) rfl (by kernel_rfl) (by kernel_rfl) (by repeat (first | with_reducible refine PanicOk.thn ?_ | with_reducible refine PanicOk.blk ?_ | exact PanicOk.body _ _ _)) ?_
    repeat
      (refine txt_quiet ?_ hS rfl rfl (fun W hW => ?_) ?_
       rotate_left 1
       · obtain ⟨hW1, hW2⟩ := hW
         go_simp
         exact rfl
       simp only [Act.put, List.setIfInBounds_toArray, List.set_cons_zero, List.set_cons_succ])
    refine txt_op rfl rfl ?_
    refine op_store_whole (.tmp 2) (.tmp 40) 51 rfl 3 size51 (bx + 1) (.agg #[.int .i64 r0.size, .int .i64 p.length, .slice (some ⟨b, o, none⟩) p.length c]) rfl rfl rfl (by simp [Value.cells, Value.oneCell']) #[.int .i64 0, .int .i64 0, .slice none 0 0] 51 _ HK.out.drew rfl ?_
    intro w6 j1 j2
    have HW6 := hid (show Has w6 (blk (bx + 1) #[.int .i64 r0.size, .int .i64 p.length, .slice (some ⟨b, o, none⟩) p.length c] 51 + (blk bx #[.slice (some ⟨b, o, none⟩) p.length c] 22 + MS.all w)) from j1)
    have HE6 := hid ((HEK.out.trans (Ext.drew _)).trans j2)
    have z0 := HW6.out.at_ (i := 0) rfl
    have z1 := HW6.out.at_ (i := 1) rfl
    have z2 := HW6.out.at_ (i := 2) rfl
    clear j1 j2
    have hS6 : w6.cell? ⟨bx, 0, none⟩ = some (.slice (some ⟨b, o, none⟩) p.length c) ∧ w6.cell? ⟨b, o, none⟩ = some (.string r0) := ⟨Hx.out.c0 HW6.out.right, He3.out.c0 HW6.out.right⟩
    refine ⟨fun _ => hS6, ?_⟩
    simp only [Act.put, List.setIfInBounds_toArray, List.set_cons_zero, List.set_cons_succ]
    clear hS
    repeat
      (refine txt_quiet ?_ hS6 rfl rfl (fun W hW => ?_) ?_
       rotate_left 1
       · obtain ⟨hW1, hW2⟩ := hW
         go_simp
         exact rfl
       simp only [Act.put, List.setIfInBounds_toArray, List.set_cons_zero, List.set_cons_succ])
    refine txt_done ?_
    go_wp2
    exact bodyPost_ret (v := .tuple #[.agg #[.int .i64 r0.size, .int .i64 p.length, .slice (some ⟨b, o, none⟩) p.length c], .bool true]) (by simp [results, Tryd.results32, go_sem, z0, z1, z2]) rfl ⟨by unfold regV; rw [hq.out]; unfold rgV; rw [Hwd.out]; rfl, fun M hM => hM.of_all HW6.out.right, HE6.out⟩
end Go.Proofs.YtcdhimnmbpllgaaDoor

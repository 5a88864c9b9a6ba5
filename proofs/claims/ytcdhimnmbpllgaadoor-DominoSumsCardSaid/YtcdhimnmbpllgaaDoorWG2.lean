/-
  The walks of the specification's second (92) and fits (59) (printed by gen_fits.py).
-/
import Derived.Test.YtcdhimnmbpllgaaDoorWG1
import Derived.Test.YtcdhimnmbpllgaaDoorDD2
namespace Go.Proofs.YtcdhimnmbpllgaaDoor
open Go.RowKit
set_option linter.unusedVariables false
set_option linter.unusedSimpArgs false
set_option maxHeartbeats 4000000
set_option maxRecDepth 100000
theorem second_any (x y : Int) (d : Bool) (h1 : -1000 ≤ x ∧ x ≤ 1000) (h2 : -1000 ≤ y ∧ y ≤ 1000) (w : World) :
    Calls Tryd.prog 92 #[.agg #[.int .i64 x, .int .i64 y, .bool d]] w fun e w' => e = .returned (.agg #[.int .i64 (otX x d), .int .i64 (otY y d)]) ∧ Kp w w' := by
  have HZ := hid (show Has ((w.alloc (.cells #[.int .i64 x, .int .i64 y, .bool d] 40)).alloc (.cells #[.int .i64 0, .int .i64 0] 66)) (blk (w.heap.size + 1) #[.int .i64 0, .int .i64 0] 66 + (blk w.heap.size #[.int .i64 x, .int .i64 y, .bool d] 40 + MS.all w)) by
    have := ((Has.all w).alloc (.cells #[.int .i64 x, .int .i64 y, .bool d] 40)).alloc (.cells #[.int .i64 0, .int .i64 0] 66)
    rw [show (w.alloc (.cells #[.int .i64 x, .int .i64 y, .bool d] 40)).heap.size = w.heap.size + 1 by simp] at this
    exact this)
  have HE := hid ((Ext.alloc w (.cells #[.int .i64 x, .int .i64 y, .bool d] 40)).trans (Ext.alloc _ (.cells #[.int .i64 0, .int .i64 0] 66)))
  cases d with
  | true =>
    go_enter Tryd.func92, Tryd.ntmps92
    go_wp2_with (refine wpList_store_whole rfl (.tmp 2) (.tmp 10) 66 rfl 2 size66 (w.heap.size + 1) (.agg #[.int .i64 x, .int .i64 (y + 1)]) rfl rfl rfl (by simp [Value.cells, Value.oneCell']) #[.int .i64 0, .int .i64 0] 66 _ HZ.out rfl ?_; intro w6 j1 j2; have HW6 := hid (show Has w6 (blk (w.heap.size + 1) #[.int .i64 x, .int .i64 (y + 1)] 66 + _) from j1); have HE6 := hid (HE.out.trans j2); have r0 := HW6.out.at_ (i := 0) rfl; have r1 := HW6.out.at_ (i := 1) rfl; clear j1 j2)
    exact bodyPost_ret (v := .agg #[.int .i64 x, .int .i64 (y + 1)]) (by simp [results, Tryd.results92, go_sem, r0, r1]) rfl ⟨rfl, fun M hM => hM.of_all HW6.out.right, HE6.out⟩
  | false =>
    go_enter Tryd.func92, Tryd.ntmps92
    go_wp2_with (refine wpList_store_whole rfl (.tmp 2) (.tmp 16) 66 rfl 2 size66 (w.heap.size + 1) (.agg #[.int .i64 (x + 1), .int .i64 y]) rfl rfl rfl (by simp [Value.cells, Value.oneCell']) #[.int .i64 0, .int .i64 0] 66 _ HZ.out rfl ?_; intro w6 j1 j2; have HW6 := hid (show Has w6 (blk (w.heap.size + 1) #[.int .i64 (x + 1), .int .i64 y] 66 + _) from j1); have HE6 := hid (HE.out.trans j2); have r0 := HW6.out.at_ (i := 0) rfl; have r1 := HW6.out.at_ (i := 1) rfl; clear j1 j2)
    exact bodyPost_ret (v := .agg #[.int .i64 (x + 1), .int .i64 y]) (by simp [results, Tryd.results92, go_sem, r0, r1]) rfl ⟨rfl, fun M hM => hM.of_all HW6.out.right, HE6.out⟩
def onX (x : Nat) (d : Bool) : Nat := if d then x else x + 1
def onY (y : Nat) (d : Bool) : Nat := if d then y + 1 else y
theorem otX_n (x : Nat) (d : Bool) : otX (x : Int) d = ((onX x d : Nat) : Int) := by cases d <;> rfl
theorem otY_n (y : Nat) (d : Bool) : otY (y : Int) d = ((onY y d : Nat) : Int) := by cases d <;> rfl
def fitsB (f : Nat → Nat → Bool) (W H x y : Nat) (d : Bool) : Bool := decide (onY y d < H) && (decide (onX x d < W) && (f x y && f (onX x d) (onY y d)))
theorem fits_any {F : MS} {w : World} {f : Nat → Nat → Bool} {W H : Nat} {l : List (List Bool)} {A : Option Addr} {c : Nat} (hrd : RdS F (RT.sl RT.bool) l (.slice A H c)) (hg : GridB f W H l)
    (hW8 : W ≤ 8) (hH8 : H ≤ 8) {X Y : Nat} (hX : X < W) (hY : Y < H) (d : Bool) (hH : Has w F) :
    Calls Tryd.prog 59 #[.slice A H c, .agg #[.int .i64 (X : Int), .int .i64 (Y : Int), .bool d]] w fun e w' => e = .returned (.bool (fitsB f W H X Y d)) ∧ Kp w w' := by
  have hW1 : 1 ≤ W := by omega
  have hH1 : 1 ≤ H := by omega
  obtain ⟨b0, o0, hA⟩ : ∃ b0 o0, A = some ⟨b0, o0, none⟩ := by
    obtain ⟨r0, hr0⟩ : ∃ r, l[0]? = some r := ⟨_, List.getElem?_eq_getElem (by rw [hg.len]; exact hH1)⟩
    obtain ⟨b0, o0, A0, c0, hA, _⟩ := hrd.getSl hr0
    exact ⟨b0, o0, hA⟩
  subst hA
  have Hrow := hid (fun (y : Nat) (hy : y < H) => grid_row hrd hg hW1 hy)
  have HaF := hid (fun (W' : World) (X : MS) (h : Has W' (X + MS.all w)) => hH.of_all h)
  have hHc : H ≤ c := by have := hrd.cells.2.1; rw [hg.len] at this; exact this
  obtain ⟨OX, hOX⟩ : ∃ OX, OX = onX X d := ⟨_, rfl⟩
  obtain ⟨OY, hOY⟩ : ∃ OY, OY = onY Y d := ⟨_, rfl⟩
  have hOX9 : OX ≤ 8 := by rw [hOX]; unfold onX; split <;> omega
  have hOY9 : OY ≤ 8 := by rw [hOY]; unfold onY; split <;> omega
  have Hsec := hid (fun (W' : World) => show Calls Tryd.prog 92 #[.agg #[.int .i64 (X : Int), .int .i64 (Y : Int), .bool d]] W' fun e w' => e = .returned (.agg #[.int .i64 (OX : Int), .int .i64 (OY : Int)]) ∧ Kp W' w' from by
    have h := second_any (X : Int) (Y : Int) d (by omega) (by omega) W'
    rw [otX_n, otY_n, ← hOX, ← hOY] at h
    exact h)
  have HR := hid (show fitsB f W H X Y d = (decide (OY < H) && (decide (OX < W) && (f X Y && f OX OY))) by unfold fitsB; rw [← hOX, ← hOY])
  obtain ⟨bY, oY, cY, y0, yc, y1⟩ := Hrow.out Y hY
  obtain ⟨b1, o1, c1, z0, zc, z1⟩ := Hrow.out 0 hH1
  rw [Nat.add_zero] at z0
  have Y0 := hid y0
  have Y1 := hid (y1 X hX)
  have Z0 := hid z0
  have HA := hid ((Has.all w).alloc (.cells #[.int .i64 (X : Int), .int .i64 (Y : Int), .bool d] 40))
  have HEA := hid (Ext.alloc w (.cells #[.int .i64 (X : Int), .int .i64 (Y : Int), .bool d] 40))
  have hXI : (X : Int) < W := by omega
  have hYI : (Y : Int) < H := by omega
  have hHI : (0 : Int) < H := by omega
  have hH0 : 0 < H := hH1
  have hX8 : X ≤ 8 := by omega
  have hY8 : Y ≤ 8 := by omega
  rw [HR.out]
  clear hrd hg hOX hOY y0 y1 z0 z1 hH HR
  go_enter Tryd.func59, Tryd.ntmps59
  go_wp2_with (first
    | (go_at_call 92; refine (Hsec.out (w.alloc (.cells #[.int .i64 (X : Int), .int .i64 (Y : Int), .bool d] 40))).mono ?_; rintro e1 w1 ⟨rfl, k1⟩; have H1 := hid (k1.1 _ HA.out); have E1 := hid (HEA.out.trans k1.2); clear k1; obtain ⟨b5, hb5⟩ : ∃ b5, b5 = w1.heap.size := ⟨_, rfl⟩; have HAb5 := hid (show Has (w1.alloc (.cells #[.int .i64 0, .int .i64 0] 66)) (blk b5 #[.int .i64 0, .int .i64 0] 66 + (blk w.heap.size #[.int .i64 (X : Int), .int .i64 (Y : Int), .bool d] 40 + MS.all w)) by rw [hb5]; exact H1.out.alloc _); have Hb5 := hid hb5; clear hb5)
    | (rw [← Hb5.out]; refine wpList_store_whole rfl (.tmp 5) (.tmp 7) 66 rfl 2 size66 b5 (.agg #[.int .i64 (OX : Int), .int .i64 (OY : Int)]) rfl rfl rfl (by simp [Value.cells, Value.oneCell']) #[.int .i64 0, .int .i64 0] 66 _ HAb5.out rfl ?_; intro w2 j1 j2; have H2 := hid (show Has w2 (blk b5 #[.int .i64 (OX : Int), .int .i64 (OY : Int)] 66 + (blk w.heap.size #[.int .i64 (X : Int), .int .i64 (Y : Int), .bool d] 40 + MS.all w)) from j1.eq (by unfold blk; ac_rfl)); have E2 := hid ((E1.out.trans (Ext.alloc _ _)).trans j2); clear j1 j2))
  by_cases hv : OY < H
  · have hvI : (OY : Int) < H := by omega
    by_cases hu : OX < W
    · have huI : (OX : Int) < W := by omega
      obtain ⟨bV, oV, cV, v0, vc, v1⟩ := Hrow.out OY hv
      have V0 := hid v0
      have V1 := hid (v1 OX hu)
      clear v0 v1
      cases hf : f X Y with
      | false =>
        have Hf := hid hf
        have x0 := (H2.out.eq (b := (blk w.heap.size #[.int .i64 (X : Int), .int .i64 (Y : Int), .bool d] 40 + (blk b5 #[.int .i64 (OX : Int), .int .i64 (OY : Int)] 66 + MS.all w))) (by ac_rfl)).at_ (i := 0) rfl
        have x1 := (H2.out.eq (b := (blk w.heap.size #[.int .i64 (X : Int), .int .i64 (Y : Int), .bool d] 40 + (blk b5 #[.int .i64 (OX : Int), .int .i64 (OY : Int)] 66 + MS.all w))) (by ac_rfl)).at_ (i := 1) rfl
        have x2 := (H2.out.eq (b := (blk b5 #[.int .i64 (OX : Int), .int .i64 (OY : Int)] 66 + (blk w.heap.size #[.int .i64 (X : Int), .int .i64 (Y : Int), .bool d] 40 + MS.all w))) (by ac_rfl)).at_ (i := 0) rfl
        have x3 := (H2.out.eq (b := (blk b5 #[.int .i64 (OX : Int), .int .i64 (OY : Int)] 66 + (blk w.heap.size #[.int .i64 (X : Int), .int .i64 (Y : Int), .bool d] 40 + MS.all w))) (by ac_rfl)).at_ (i := 1) rfl
        have r0 := (Z0.out).c0 (HaF.out w2 _ (H2.out.eq (b := blk b5 #[.int .i64 (OX : Int), .int .i64 (OY : Int)] 66 + blk w.heap.size #[.int .i64 (X : Int), .int .i64 (Y : Int), .bool d] 40 + MS.all w) (by ac_rfl)))
        have r1 := (Y0.out).c0 (HaF.out w2 _ (H2.out.eq (b := blk b5 #[.int .i64 (OX : Int), .int .i64 (OY : Int)] 66 + blk w.heap.size #[.int .i64 (X : Int), .int .i64 (Y : Int), .bool d] 40 + MS.all w) (by ac_rfl)))
        have r2 := (Y1.out).c0 (HaF.out w2 _ (H2.out.eq (b := blk b5 #[.int .i64 (OX : Int), .int .i64 (OY : Int)] 66 + blk w.heap.size #[.int .i64 (X : Int), .int .i64 (Y : Int), .bool d] 40 + MS.all w) (by ac_rfl)))
        have r3 := (V0.out).c0 (HaF.out w2 _ (H2.out.eq (b := blk b5 #[.int .i64 (OX : Int), .int .i64 (OY : Int)] 66 + blk w.heap.size #[.int .i64 (X : Int), .int .i64 (Y : Int), .bool d] 40 + MS.all w) (by ac_rfl)))
        have r4 := (V1.out).c0 (HaF.out w2 _ (H2.out.eq (b := blk b5 #[.int .i64 (OX : Int), .int .i64 (OY : Int)] 66 + blk w.heap.size #[.int .i64 (X : Int), .int .i64 (Y : Int), .bool d] 40 + MS.all w) (by ac_rfl)))
        rw [hf] at r2
        have hS : (fun W' : World => W'.cell? ⟨w.heap.size, 0, none⟩ = some (.int .i64 (X : Int)) ∧ W'.cell? ⟨w.heap.size, 1, none⟩ = some (.int .i64 (Y : Int)) ∧ W'.cell? ⟨b5, 0, none⟩ = some (.int .i64 (OX : Int)) ∧ W'.cell? ⟨b5, 1, none⟩ = some (.int .i64 (OY : Int)) ∧ W'.cell? ⟨b0, o0, none⟩ = some (.slice (some ⟨b1, o1, none⟩) W c1) ∧ W'.cell? ⟨b0, o0 + Y, none⟩ = some (.slice (some ⟨bY, oY, none⟩) W cY) ∧ W'.cell? ⟨bY, oY + X, none⟩ = some ((.bool false)) ∧ W'.cell? ⟨b0, o0 + OY, none⟩ = some (.slice (some ⟨bV, oV, none⟩) W cV) ∧ W'.cell? ⟨bV, oV + OX, none⟩ = some (.bool (f OX OY))) w2.drew := ⟨x0, x1, x2, x3, r0, r1, r2, r3, r4⟩
        clear x0 x1 x2 x3 r0 r1 r2 r3 r4 hf
        refine wp_region_txt (fun W' => W'.cell? ⟨w.heap.size, 0, none⟩ = some (.int .i64 (X : Int)) ∧ W'.cell? ⟨w.heap.size, 1, none⟩ = some (.int .i64 (Y : Int)) ∧ W'.cell? ⟨b5, 0, none⟩ = some (.int .i64 (OX : Int)) ∧ W'.cell? ⟨b5, 1, none⟩ = some (.int .i64 (OY : Int)) ∧ W'.cell? ⟨b0, o0, none⟩ = some (.slice (some ⟨b1, o1, none⟩) W c1) ∧ W'.cell? ⟨b0, o0 + Y, none⟩ = some (.slice (some ⟨bY, oY, none⟩) W cY) ∧ W'.cell? ⟨bY, oY + X, none⟩ = some ((.bool false)) ∧ W'.cell? ⟨b0, o0 + OY, none⟩ = some (.slice (some ⟨bV, oV, none⟩) W cV) ∧ W'.cell? ⟨bV, oV + OX, none⟩ = some (.bool (f OX OY))) none
          [(0, true), (1, true), (2, true), (3, true), (4, true), (5, true), (6, true), (7, true), (8, true), (9, true), (10, true), (11, true), (12, true), (13, true), (14, true), (15, true), (16, true), (17, true), (18, true), (19, true), (20, true), (21, true), (22, true), (23, true), (24, true), (25, true), (26, true), (27, true), (28, true), (29, true), (30, true), (31, true), (32, true), (33, true), (34, true), (35, true), (36, true), (37, true), (38, true), (39, true), (40, true), (41, true), (42, true), (43, true), (44, true), (45, true), (46, true), (47, true), (48, true), (49, true), (50, true), (51, true), (52, true)] (by kernel_rfl) rfl (by kernel_rfl) (by kernel_rfl) (by repeat (first | with_reducible refine PanicOk.thn ?_ | with_reducible refine PanicOk.blk ?_ | exact PanicOk.body _ _ _)) ?_
        repeat (first
          | (refine txt_off hS rfl rfl ?_; simp only [Act.put, List.setIfInBounds_toArray, List.set_cons_zero, List.set_cons_succ])
          | (refine txt_quiet ?_ hS rfl rfl (fun W hW => ?_) ?_
             rotate_left 1
             · obtain ⟨hW1, hW2, hW3, hW4, hW5, hW6, hW7, hW8, hW9⟩ := hW
               go_simp
               exact rfl
             simp only [Act.put, List.setIfInBounds_toArray, List.set_cons_zero, List.set_cons_succ]))
        refine txt_done ?_
        try simp only [Act.put]
        go_wp2
        go_ret
        exact ⟨by first | rfl | (rw [Hf.out]; rfl) | (rw [decide_eq_true hv, decide_eq_true hu, Hf.out]; rfl), ⟨fun M hM => hM.of_all ((H2.out.eq (b := blk b5 #[.int .i64 (OX : Int), .int .i64 (OY : Int)] 66 + blk w.heap.size #[.int .i64 (X : Int), .int .i64 (Y : Int), .bool d] 40 + MS.all w) (by ac_rfl))), (E2.out.trans (Ext.drew _))⟩⟩
      | true =>
        have Hf := hid hf
        have x0 := (H2.out.eq (b := (blk w.heap.size #[.int .i64 (X : Int), .int .i64 (Y : Int), .bool d] 40 + (blk b5 #[.int .i64 (OX : Int), .int .i64 (OY : Int)] 66 + MS.all w))) (by ac_rfl)).at_ (i := 0) rfl
        have x1 := (H2.out.eq (b := (blk w.heap.size #[.int .i64 (X : Int), .int .i64 (Y : Int), .bool d] 40 + (blk b5 #[.int .i64 (OX : Int), .int .i64 (OY : Int)] 66 + MS.all w))) (by ac_rfl)).at_ (i := 1) rfl
        have x2 := (H2.out.eq (b := (blk b5 #[.int .i64 (OX : Int), .int .i64 (OY : Int)] 66 + (blk w.heap.size #[.int .i64 (X : Int), .int .i64 (Y : Int), .bool d] 40 + MS.all w))) (by ac_rfl)).at_ (i := 0) rfl
        have x3 := (H2.out.eq (b := (blk b5 #[.int .i64 (OX : Int), .int .i64 (OY : Int)] 66 + (blk w.heap.size #[.int .i64 (X : Int), .int .i64 (Y : Int), .bool d] 40 + MS.all w))) (by ac_rfl)).at_ (i := 1) rfl
        have r0 := (Z0.out).c0 (HaF.out w2 _ (H2.out.eq (b := blk b5 #[.int .i64 (OX : Int), .int .i64 (OY : Int)] 66 + blk w.heap.size #[.int .i64 (X : Int), .int .i64 (Y : Int), .bool d] 40 + MS.all w) (by ac_rfl)))
        have r1 := (Y0.out).c0 (HaF.out w2 _ (H2.out.eq (b := blk b5 #[.int .i64 (OX : Int), .int .i64 (OY : Int)] 66 + blk w.heap.size #[.int .i64 (X : Int), .int .i64 (Y : Int), .bool d] 40 + MS.all w) (by ac_rfl)))
        have r2 := (Y1.out).c0 (HaF.out w2 _ (H2.out.eq (b := blk b5 #[.int .i64 (OX : Int), .int .i64 (OY : Int)] 66 + blk w.heap.size #[.int .i64 (X : Int), .int .i64 (Y : Int), .bool d] 40 + MS.all w) (by ac_rfl)))
        have r3 := (V0.out).c0 (HaF.out w2 _ (H2.out.eq (b := blk b5 #[.int .i64 (OX : Int), .int .i64 (OY : Int)] 66 + blk w.heap.size #[.int .i64 (X : Int), .int .i64 (Y : Int), .bool d] 40 + MS.all w) (by ac_rfl)))
        have r4 := (V1.out).c0 (HaF.out w2 _ (H2.out.eq (b := blk b5 #[.int .i64 (OX : Int), .int .i64 (OY : Int)] 66 + blk w.heap.size #[.int .i64 (X : Int), .int .i64 (Y : Int), .bool d] 40 + MS.all w) (by ac_rfl)))
        rw [hf] at r2
        have hS : (fun W' : World => W'.cell? ⟨w.heap.size, 0, none⟩ = some (.int .i64 (X : Int)) ∧ W'.cell? ⟨w.heap.size, 1, none⟩ = some (.int .i64 (Y : Int)) ∧ W'.cell? ⟨b5, 0, none⟩ = some (.int .i64 (OX : Int)) ∧ W'.cell? ⟨b5, 1, none⟩ = some (.int .i64 (OY : Int)) ∧ W'.cell? ⟨b0, o0, none⟩ = some (.slice (some ⟨b1, o1, none⟩) W c1) ∧ W'.cell? ⟨b0, o0 + Y, none⟩ = some (.slice (some ⟨bY, oY, none⟩) W cY) ∧ W'.cell? ⟨bY, oY + X, none⟩ = some ((.bool true)) ∧ W'.cell? ⟨b0, o0 + OY, none⟩ = some (.slice (some ⟨bV, oV, none⟩) W cV) ∧ W'.cell? ⟨bV, oV + OX, none⟩ = some (.bool (f OX OY))) w2.drew := ⟨x0, x1, x2, x3, r0, r1, r2, r3, r4⟩
        clear x0 x1 x2 x3 r0 r1 r2 r3 r4 hf
        refine wp_region_txt (fun W' => W'.cell? ⟨w.heap.size, 0, none⟩ = some (.int .i64 (X : Int)) ∧ W'.cell? ⟨w.heap.size, 1, none⟩ = some (.int .i64 (Y : Int)) ∧ W'.cell? ⟨b5, 0, none⟩ = some (.int .i64 (OX : Int)) ∧ W'.cell? ⟨b5, 1, none⟩ = some (.int .i64 (OY : Int)) ∧ W'.cell? ⟨b0, o0, none⟩ = some (.slice (some ⟨b1, o1, none⟩) W c1) ∧ W'.cell? ⟨b0, o0 + Y, none⟩ = some (.slice (some ⟨bY, oY, none⟩) W cY) ∧ W'.cell? ⟨bY, oY + X, none⟩ = some ((.bool true)) ∧ W'.cell? ⟨b0, o0 + OY, none⟩ = some (.slice (some ⟨bV, oV, none⟩) W cV) ∧ W'.cell? ⟨bV, oV + OX, none⟩ = some (.bool (f OX OY))) none
          [(0, true), (1, true), (2, true), (3, true), (4, true), (5, true), (6, true), (7, true), (8, true), (9, true), (10, true), (11, true), (12, true), (13, true), (14, true), (15, true), (16, true), (17, true), (18, true), (19, true), (20, true), (21, true), (22, true), (23, true), (24, true), (25, true), (26, true), (27, true), (28, true), (29, true), (30, true), (31, true), (32, true), (33, true), (34, true), (35, true), (36, true), (37, true), (38, true), (39, true), (40, true), (41, true), (42, true), (43, true), (44, true), (45, true), (46, true), (47, true), (48, true), (49, true), (50, true), (51, true), (52, true)] (by kernel_rfl) rfl (by kernel_rfl) (by kernel_rfl) (by repeat (first | with_reducible refine PanicOk.thn ?_ | with_reducible refine PanicOk.blk ?_ | exact PanicOk.body _ _ _)) ?_
        repeat (first
          | (refine txt_off hS rfl rfl ?_; simp only [Act.put, List.setIfInBounds_toArray, List.set_cons_zero, List.set_cons_succ])
          | (refine txt_quiet ?_ hS rfl rfl (fun W hW => ?_) ?_
             rotate_left 1
             · obtain ⟨hW1, hW2, hW3, hW4, hW5, hW6, hW7, hW8, hW9⟩ := hW
               go_simp
               exact rfl
             simp only [Act.put, List.setIfInBounds_toArray, List.set_cons_zero, List.set_cons_succ]))
        refine txt_done ?_
        try simp only [Act.put]
        go_wp2
        go_ret
        exact ⟨by first | rfl | (rw [Hf.out]; rfl) | (rw [decide_eq_true hv, decide_eq_true hu, Hf.out]; rfl), ⟨fun M hM => hM.of_all ((H2.out.eq (b := blk b5 #[.int .i64 (OX : Int), .int .i64 (OY : Int)] 66 + blk w.heap.size #[.int .i64 (X : Int), .int .i64 (Y : Int), .bool d] 40 + MS.all w) (by ac_rfl))), (E2.out.trans (Ext.drew _))⟩⟩
    · have huI : ¬ ((OX : Int) < W) := by omega
      have x0 := (H2.out.eq (b := (blk w.heap.size #[.int .i64 (X : Int), .int .i64 (Y : Int), .bool d] 40 + (blk b5 #[.int .i64 (OX : Int), .int .i64 (OY : Int)] 66 + MS.all w))) (by ac_rfl)).at_ (i := 0) rfl
      have x1 := (H2.out.eq (b := (blk w.heap.size #[.int .i64 (X : Int), .int .i64 (Y : Int), .bool d] 40 + (blk b5 #[.int .i64 (OX : Int), .int .i64 (OY : Int)] 66 + MS.all w))) (by ac_rfl)).at_ (i := 1) rfl
      have x2 := (H2.out.eq (b := (blk b5 #[.int .i64 (OX : Int), .int .i64 (OY : Int)] 66 + (blk w.heap.size #[.int .i64 (X : Int), .int .i64 (Y : Int), .bool d] 40 + MS.all w))) (by ac_rfl)).at_ (i := 0) rfl
      have x3 := (H2.out.eq (b := (blk b5 #[.int .i64 (OX : Int), .int .i64 (OY : Int)] 66 + (blk w.heap.size #[.int .i64 (X : Int), .int .i64 (Y : Int), .bool d] 40 + MS.all w))) (by ac_rfl)).at_ (i := 1) rfl
      have r0 := (Z0.out).c0 (HaF.out w2 _ (H2.out.eq (b := blk b5 #[.int .i64 (OX : Int), .int .i64 (OY : Int)] 66 + blk w.heap.size #[.int .i64 (X : Int), .int .i64 (Y : Int), .bool d] 40 + MS.all w) (by ac_rfl)))
      have r1 := (Y0.out).c0 (HaF.out w2 _ (H2.out.eq (b := blk b5 #[.int .i64 (OX : Int), .int .i64 (OY : Int)] 66 + blk w.heap.size #[.int .i64 (X : Int), .int .i64 (Y : Int), .bool d] 40 + MS.all w) (by ac_rfl)))
      have r2 := (Y1.out).c0 (HaF.out w2 _ (H2.out.eq (b := blk b5 #[.int .i64 (OX : Int), .int .i64 (OY : Int)] 66 + blk w.heap.size #[.int .i64 (X : Int), .int .i64 (Y : Int), .bool d] 40 + MS.all w) (by ac_rfl)))
      have hS : (fun W' : World => W'.cell? ⟨w.heap.size, 0, none⟩ = some (.int .i64 (X : Int)) ∧ W'.cell? ⟨w.heap.size, 1, none⟩ = some (.int .i64 (Y : Int)) ∧ W'.cell? ⟨b5, 0, none⟩ = some (.int .i64 (OX : Int)) ∧ W'.cell? ⟨b5, 1, none⟩ = some (.int .i64 (OY : Int)) ∧ W'.cell? ⟨b0, o0, none⟩ = some (.slice (some ⟨b1, o1, none⟩) W c1) ∧ W'.cell? ⟨b0, o0 + Y, none⟩ = some (.slice (some ⟨bY, oY, none⟩) W cY) ∧ W'.cell? ⟨bY, oY + X, none⟩ = some (.bool (f X Y))) w2.drew := ⟨x0, x1, x2, x3, r0, r1, r2⟩
      clear x0 x1 x2 x3 r0 r1 r2
      refine wp_region_txt (fun W' => W'.cell? ⟨w.heap.size, 0, none⟩ = some (.int .i64 (X : Int)) ∧ W'.cell? ⟨w.heap.size, 1, none⟩ = some (.int .i64 (Y : Int)) ∧ W'.cell? ⟨b5, 0, none⟩ = some (.int .i64 (OX : Int)) ∧ W'.cell? ⟨b5, 1, none⟩ = some (.int .i64 (OY : Int)) ∧ W'.cell? ⟨b0, o0, none⟩ = some (.slice (some ⟨b1, o1, none⟩) W c1) ∧ W'.cell? ⟨b0, o0 + Y, none⟩ = some (.slice (some ⟨bY, oY, none⟩) W cY) ∧ W'.cell? ⟨bY, oY + X, none⟩ = some (.bool (f X Y))) none
        [(0, true), (1, true), (2, true), (3, true), (4, true), (5, true), (6, true), (7, true), (8, true), (9, true), (10, true), (11, true), (12, true), (13, true), (14, true), (15, true), (16, true), (17, true), (18, true), (19, true), (20, true), (21, true), (22, true), (23, true), (24, true), (25, true), (26, true), (27, true), (28, true), (29, true), (30, true), (31, true), (32, true), (33, true), (34, true), (35, true), (36, true), (37, true), (38, true), (39, true), (40, true), (41, true), (42, true), (43, true), (44, true), (45, true), (46, true), (47, true), (48, true), (49, true), (50, true), (51, true), (52, true)] (by kernel_rfl) rfl (by kernel_rfl) (by kernel_rfl) (by repeat (first | with_reducible refine PanicOk.thn ?_ | with_reducible refine PanicOk.blk ?_ | exact PanicOk.body _ _ _)) ?_
      repeat (first
        | (refine txt_off hS rfl rfl ?_; simp only [Act.put, List.setIfInBounds_toArray, List.set_cons_zero, List.set_cons_succ])
        | (refine txt_quiet ?_ hS rfl rfl (fun W hW => ?_) ?_
           rotate_left 1
           · obtain ⟨hW1, hW2, hW3, hW4, hW5, hW6, hW7⟩ := hW
             go_simp
             exact rfl
           simp only [Act.put, List.setIfInBounds_toArray, List.set_cons_zero, List.set_cons_succ]))
      refine txt_done ?_
      try simp only [Act.put]
      go_wp2
      go_ret
      exact ⟨by first | rfl | (rw [decide_eq_true hv, decide_eq_false hu]; rfl), ⟨fun M hM => hM.of_all ((H2.out.eq (b := blk b5 #[.int .i64 (OX : Int), .int .i64 (OY : Int)] 66 + blk w.heap.size #[.int .i64 (X : Int), .int .i64 (Y : Int), .bool d] 40 + MS.all w) (by ac_rfl))), (E2.out.trans (Ext.drew _))⟩⟩
  · have hvI : ¬ ((OY : Int) < H) := by omega
    have x0 := (H2.out.eq (b := (blk w.heap.size #[.int .i64 (X : Int), .int .i64 (Y : Int), .bool d] 40 + (blk b5 #[.int .i64 (OX : Int), .int .i64 (OY : Int)] 66 + MS.all w))) (by ac_rfl)).at_ (i := 0) rfl
    have x1 := (H2.out.eq (b := (blk w.heap.size #[.int .i64 (X : Int), .int .i64 (Y : Int), .bool d] 40 + (blk b5 #[.int .i64 (OX : Int), .int .i64 (OY : Int)] 66 + MS.all w))) (by ac_rfl)).at_ (i := 1) rfl
    have x2 := (H2.out.eq (b := (blk b5 #[.int .i64 (OX : Int), .int .i64 (OY : Int)] 66 + (blk w.heap.size #[.int .i64 (X : Int), .int .i64 (Y : Int), .bool d] 40 + MS.all w))) (by ac_rfl)).at_ (i := 0) rfl
    have x3 := (H2.out.eq (b := (blk b5 #[.int .i64 (OX : Int), .int .i64 (OY : Int)] 66 + (blk w.heap.size #[.int .i64 (X : Int), .int .i64 (Y : Int), .bool d] 40 + MS.all w))) (by ac_rfl)).at_ (i := 1) rfl
    have r0 := (Z0.out).c0 (HaF.out w2 _ (H2.out.eq (b := blk b5 #[.int .i64 (OX : Int), .int .i64 (OY : Int)] 66 + blk w.heap.size #[.int .i64 (X : Int), .int .i64 (Y : Int), .bool d] 40 + MS.all w) (by ac_rfl)))
    have r1 := (Y0.out).c0 (HaF.out w2 _ (H2.out.eq (b := blk b5 #[.int .i64 (OX : Int), .int .i64 (OY : Int)] 66 + blk w.heap.size #[.int .i64 (X : Int), .int .i64 (Y : Int), .bool d] 40 + MS.all w) (by ac_rfl)))
    have r2 := (Y1.out).c0 (HaF.out w2 _ (H2.out.eq (b := blk b5 #[.int .i64 (OX : Int), .int .i64 (OY : Int)] 66 + blk w.heap.size #[.int .i64 (X : Int), .int .i64 (Y : Int), .bool d] 40 + MS.all w) (by ac_rfl)))
    have hS : (fun W' : World => W'.cell? ⟨w.heap.size, 0, none⟩ = some (.int .i64 (X : Int)) ∧ W'.cell? ⟨w.heap.size, 1, none⟩ = some (.int .i64 (Y : Int)) ∧ W'.cell? ⟨b5, 0, none⟩ = some (.int .i64 (OX : Int)) ∧ W'.cell? ⟨b5, 1, none⟩ = some (.int .i64 (OY : Int)) ∧ W'.cell? ⟨b0, o0, none⟩ = some (.slice (some ⟨b1, o1, none⟩) W c1) ∧ W'.cell? ⟨b0, o0 + Y, none⟩ = some (.slice (some ⟨bY, oY, none⟩) W cY) ∧ W'.cell? ⟨bY, oY + X, none⟩ = some (.bool (f X Y))) w2.drew := ⟨x0, x1, x2, x3, r0, r1, r2⟩
    clear x0 x1 x2 x3 r0 r1 r2
    refine wp_region_txt (fun W' => W'.cell? ⟨w.heap.size, 0, none⟩ = some (.int .i64 (X : Int)) ∧ W'.cell? ⟨w.heap.size, 1, none⟩ = some (.int .i64 (Y : Int)) ∧ W'.cell? ⟨b5, 0, none⟩ = some (.int .i64 (OX : Int)) ∧ W'.cell? ⟨b5, 1, none⟩ = some (.int .i64 (OY : Int)) ∧ W'.cell? ⟨b0, o0, none⟩ = some (.slice (some ⟨b1, o1, none⟩) W c1) ∧ W'.cell? ⟨b0, o0 + Y, none⟩ = some (.slice (some ⟨bY, oY, none⟩) W cY) ∧ W'.cell? ⟨bY, oY + X, none⟩ = some (.bool (f X Y))) none
      [(0, true), (1, true), (2, true), (3, true), (4, true), (5, true), (6, true), (7, true), (8, true), (9, true), (10, true), (11, true), (12, true), (13, true), (14, true), (15, true), (16, true), (17, true), (18, true), (19, true), (20, true), (21, true), (22, true), (23, true), (24, true), (25, true), (26, true), (27, true), (28, true), (29, true), (30, true), (31, true), (32, true), (33, true), (34, true), (35, true), (36, true), (37, true), (38, true), (39, true), (40, true), (41, true), (42, true), (43, true), (44, true), (45, true), (46, true), (47, true), (48, true), (49, true), (50, true), (51, true), (52, true)] (by kernel_rfl) rfl (by kernel_rfl) (by kernel_rfl) (by repeat (first | with_reducible refine PanicOk.thn ?_ | with_reducible refine PanicOk.blk ?_ | exact PanicOk.body _ _ _)) ?_
    repeat (first
      | (refine txt_off hS rfl rfl ?_; simp only [Act.put, List.setIfInBounds_toArray, List.set_cons_zero, List.set_cons_succ])
      | (refine txt_quiet ?_ hS rfl rfl (fun W hW => ?_) ?_
         rotate_left 1
         · obtain ⟨hW1, hW2, hW3, hW4, hW5, hW6, hW7⟩ := hW
           go_simp
           exact rfl
         simp only [Act.put, List.setIfInBounds_toArray, List.set_cons_zero, List.set_cons_succ]))
    refine txt_done ?_
    try simp only [Act.put]
    go_wp2
    go_ret
    exact ⟨by first | rfl | (rw [decide_eq_false hv]; rfl), ⟨fun M hM => hM.of_all ((H2.out.eq (b := blk b5 #[.int .i64 (OX : Int), .int .i64 (OY : Int)] 66 + blk w.heap.size #[.int .i64 (X : Int), .int .i64 (Y : Int), .bool d] 40 + MS.all w) (by ac_rfl))), (E2.out.trans (Ext.drew _))⟩⟩
end Go.Proofs.YtcdhimnmbpllgaaDoor

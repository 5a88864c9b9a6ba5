/-
  The walks of cmp.isNaN (108), cmp.Compare (88), cmp.Or (87) of two, reading (48).
-/
import Derived.Test.YtcdhimnmbpllgaaDoorDC1
import Derived.Sort.Grow
import Derived.Deep.Draws
namespace Go.Proofs.YtcdhimnmbpllgaaDoor
open Go.RowKit
set_option linter.unusedVariables false
set_option linter.unusedSimpArgs false
set_option maxHeartbeats 1000000
set_option maxRecDepth 100000

theorem isNaN_any (x : Int) (w : World) : Calls Tryd.prog 108 #[.int .i64 x] w fun e w' => e = .returned (.bool false) ∧ w' = w := by
  go_enter Tryd.func108, Tryd.ntmps108
  go_wp2
  go_ret
  exact ⟨by simp, rfl⟩
def cmpI (a b : Int) : Int := if a < b then -1 else if b < a then 1 else 0
theorem compare_any (a b : Int) (w : World) : Calls Tryd.prog 88 #[.int .i64 a, .int .i64 b] w fun e w' => e = .returned (.int .i64 (cmpI a b)) ∧ w' = w := by
  have hn := isNaN_any
  obtain ⟨r, hr⟩ : ∃ r, r = cmpI a b := ⟨_, rfl⟩
  rw [← hr]
  by_cases h1 : a < b
  · have Hr := hid (show r = -1 by rw [hr]; unfold cmpI; rw [if_pos h1])
    clear hr
    go_enter Tryd.func88, Tryd.ntmps88
    go_wp2_with (go_at_call 108; refine (hn _ _).mono ?_; rintro e1 w1 ⟨rfl, rfl⟩)
    go_ret
    exact ⟨by rw [Hr.out]; rfl, rfl⟩
  · by_cases h2 : b < a
    · have Hr := hid (show r = 1 by rw [hr]; unfold cmpI; rw [if_neg h1, if_pos h2])
      clear hr
      go_enter Tryd.func88, Tryd.ntmps88
      go_wp2_with (go_at_call 108; refine (hn _ _).mono ?_; rintro e1 w1 ⟨rfl, rfl⟩)
      go_ret
      exact ⟨by rw [Hr.out]; rfl, rfl⟩
    · have Hr := hid (show r = 0 by rw [hr]; unfold cmpI; rw [if_neg h1, if_neg h2])
      clear hr
      go_enter Tryd.func88, Tryd.ntmps88
      go_wp2_with (go_at_call 108; refine (hn _ _).mono ?_; rintro e1 w1 ⟨rfl, rfl⟩)
      go_ret
      exact ⟨by rw [Hr.out]; rfl, rfl⟩
/-- Or of two numbers. -/
theorem or_any {g : Nat} {a b : Int} {w : World} (h0 : w.cell? ⟨g, 0, none⟩ = some (.int .i64 a)) (h1 : w.cell? ⟨g, 1, none⟩ = some (.int .i64 b)) :
    Calls Tryd.prog 87 #[.slice (some ⟨g, 0, none⟩) 2 2] w fun e w' => e = .returned (.int .i64 (if a ≠ 0 then a else b)) ∧ w' = w := by
  obtain ⟨r, hr⟩ : ∃ r, r = if a ≠ 0 then a else b := ⟨_, rfl⟩
  rw [← hr]
  have Hr := hid hr
  clear hr
  go_enter Tryd.func87, Tryd.ntmps87
  go_wp2
  go_loopw [8] (fun v8 wr => ∃ i : Nat, i ≤ 2 ∧ v8 = .int .i64 i ∧ (0 < i → a = 0) ∧ (1 < i → b = 0) ∧ wr = w) (fun v _ => 2 - (intOf v).toNat)
  case atStart => exact ⟨0, by omega, rfl, by omega, by omega, rfl⟩
  case round =>
    obtain ⟨i, hi, rfl, ha, hb, rfl⟩ := hrel
    by_cases hi0 : i = 0
    · subst hi0
      clear ha hb hi
      by_cases ha0 : a = 0
      · subst ha0
        go_wp2
        go_roundw
        case rel => exact ⟨1, by omega, by go_num, fun _ => by first | rfl | trivial, by omega, by first | rfl | trivial⟩
        case measure => simp [intOf]
      · have hne : (a != 0) = true := by rw [bne_iff_ne]; exact ha0
        have Hr2 := hid (show r = a by rw [Hr.out, if_pos ha0])
        go_wp2
        go_ret
        exact ⟨by rw [Hr2.out]; rfl, rfl⟩
    · by_cases hi1 : i = 1
      · subst hi1
        have ha0 := ha (by omega)
        have Hr2 := hid (show r = b by rw [Hr.out, if_neg (by simpa using ha0)])
        clear ha hb hi hi0 ha0
        by_cases hb0 : b = 0
        · subst hb0
          go_wp2
          go_roundw
          case rel => exact ⟨2, by omega, by go_num, fun _ => (by have := Hr.out; have h2 := Hr2.out; rw [h2] at this; by_cases h : a = 0; exact h; rw [if_pos h] at this; exact this.symm), fun _ => by first | rfl | trivial, by first | rfl | trivial⟩
          case measure => simp [intOf]
        · have hne : (b != 0) = true := by rw [bne_iff_ne]; exact hb0
          go_wp2
          go_ret
          exact ⟨by rw [Hr2.out]; rfl, rfl⟩
      · have hi2 : i = 2 := by omega
        subst hi2
        have ha0 := ha (by omega)
        have hb0 := hb (by omega)
        have Hr2 := hid (show r = 0 by rw [Hr.out, if_neg (by simpa using ha0)]; exact hb0)
        clear ha hb hi hi0 hi1 ha0 hb0
        go_wp2
        go_ret
        exact ⟨by rw [Hr2.out]; rfl, rfl⟩
/-- Two cells in reading order: -1, 0, 1. -/
def rdC (a b : Int × Int) : Int := if cmpI a.2 b.2 ≠ 0 then cmpI a.2 b.2 else cmpI a.1 b.1
theorem reading_any (a b : Int × Int) (w : World) : Calls Tryd.prog 48 #[.agg #[.int .i64 a.1, .int .i64 a.2], .agg #[.int .i64 b.1, .int .i64 b.2]] w fun e w' => e = .returned (.int .i64 (rdC a b)) ∧ ∃ q os', w' = Go.Sort.grow (w.drewN q) os' := by
  obtain ⟨ax, ay⟩ := a
  obtain ⟨bx, by'⟩ := b
  simp only
  have HA := hid (show Has ((w.alloc (.cells #[.int .i64 ax, .int .i64 ay] 66)).alloc (.cells #[.int .i64 bx, .int .i64 by'] 66)) (blk (w.heap.size + 1) #[.int .i64 bx, .int .i64 by'] 66 + (blk w.heap.size #[.int .i64 ax, .int .i64 ay] 66 + MS.all w)) by
    have := ((Has.all w).alloc (.cells #[.int .i64 ax, .int .i64 ay] 66)).alloc (.cells #[.int .i64 bx, .int .i64 by'] 66)
    rw [show (w.alloc (.cells #[.int .i64 ax, .int .i64 ay] 66)).heap.size = w.heap.size + 1 by simp] at this
    exact this)
  have hc1 := hid (fun W => compare_any ay by' W)
  have hc2 := hid (fun W => compare_any ax bx W)
  have HR := hid (show rdC (ax, ay) (bx, by') = if cmpI ay by' ≠ 0 then cmpI ay by' else cmpI ax bx from rfl)
  rw [HR.out]
  generalize cmpI ay by' = c1 at *
  generalize cmpI ax bx = c2 at *
  obtain ⟨r, hr⟩ : ∃ r, r = if c1 ≠ 0 then c1 else c2 := ⟨_, rfl⟩
  rw [← hr]
  have Hr := hid hr
  clear HR hr
  go_enter Tryd.func48, Tryd.ntmps48
  go_wp2
  obtain ⟨W0, hW0⟩ : ∃ W0, W0 = (w.alloc (.cells #[.int .i64 ax, .int .i64 ay] 66)).alloc (.cells #[.int .i64 bx, .int .i64 by'] 66) := ⟨_, rfl⟩
  have HW2 := hid hW0
  rw [← hW0] at HA ⊢
  clear hW0
  have hS : (fun W' : World => W'.cell? ⟨w.heap.size, 0, none⟩ = some (.int .i64 ax) ∧ W'.cell? ⟨w.heap.size, 1, none⟩ = some (.int .i64 ay) ∧ W'.cell? ⟨w.heap.size + 1, 0, none⟩ = some (.int .i64 bx) ∧ W'.cell? ⟨w.heap.size + 1, 1, none⟩ = some (.int .i64 by')) W0.drew :=
    ⟨HA.out.right.at_ rfl, HA.out.right.at_ rfl, HA.out.at_ rfl, HA.out.at_ rfl⟩
  refine wp_region_txt (fun W' : World => W'.cell? ⟨w.heap.size, 0, none⟩ = some (.int .i64 ax) ∧ W'.cell? ⟨w.heap.size, 1, none⟩ = some (.int .i64 ay) ∧ W'.cell? ⟨w.heap.size + 1, 0, none⟩ = some (.int .i64 bx) ∧ W'.cell? ⟨w.heap.size + 1, 1, none⟩ = some (.int .i64 by')) none
    [(0, true), (1, true), (2, true), (3, true), (5, true), (6, true), (7, true), (8, true), (4, false), (9, false), (10, false), (11, false), (12, true)] (by kernel_rfl) rfl (by kernel_rfl) (by kernel_rfl) (by repeat (first | with_reducible refine PanicOk.thn ?_ | with_reducible refine PanicOk.blk ?_ | exact PanicOk.body _ _ _)) ?_
  repeat
    (refine txt_quiet ?_ hS rfl rfl (fun W hW => ?_) ?_
     rotate_left 1
     · obtain ⟨hW1, hW2, hW3, hW4⟩ := hW
       go_simp
       exact rfl
     simp only [Act.put, List.setIfInBounds_toArray, List.set_cons_zero, List.set_cons_succ])
  refine txt_op rfl rfl ?_
  refine op_call 88 _ _ (by go_simp) _ (hc1.out W0.drew) ?_
  rintro e1 w1 ⟨rfl, rfl⟩
  refine ⟨_, rfl, fun _ => hS, ?_⟩
  simp only [Act.put, List.setIfInBounds_toArray, List.set_cons_zero, List.set_cons_succ]
  refine txt_op rfl rfl ?_
  refine op_call 88 _ _ (by go_simp) _ (hc2.out W0.drew) ?_
  rintro e2 w2 ⟨rfl, rfl⟩
  refine ⟨_, rfl, fun _ => hS, ?_⟩
  simp only [Act.put, List.setIfInBounds_toArray, List.set_cons_zero, List.set_cons_succ]
  obtain ⟨W2, hW2⟩ : ∃ W2, W2 = W0.drew := ⟨_, rfl⟩
  have HW3 := hid hW2
  rw [← hW2] at hS ⊢
  have HB := hid (show Has W2 (blk (w.heap.size + 1) #[.int .i64 bx, .int .i64 by'] 66 + (blk w.heap.size #[.int .i64 ax, .int .i64 ay] 66 + MS.all w)) by rw [hW2]; exact HA.out.drew)
  clear hW2
  have HC := hid (HB.out.alloc (.cells #[.int .i64 c1, .int .i64 c2] 3))
  refine txt_op rfl rfl ?_
  refine op_run (.slice (some ⟨W2.heap.size, 0, none⟩) 2 2) (W2.alloc (.cells #[.int .i64 c1, .int .i64 c2] 3)) (by go_simp) ?_
  have hS2 : (fun W' : World => W'.cell? ⟨w.heap.size, 0, none⟩ = some (.int .i64 ax) ∧ W'.cell? ⟨w.heap.size, 1, none⟩ = some (.int .i64 ay) ∧ W'.cell? ⟨w.heap.size + 1, 0, none⟩ = some (.int .i64 bx) ∧ W'.cell? ⟨w.heap.size + 1, 1, none⟩ = some (.int .i64 by')) (W2.alloc (.cells #[.int .i64 c1, .int .i64 c2] 3)) :=
    ⟨HC.out.right.right.at_ rfl, HC.out.right.right.at_ rfl, HC.out.right.at_ rfl, HC.out.right.at_ rfl⟩
  refine ⟨fun _ => hS2, ?_⟩
  clear hS
  simp only [Act.put, List.setIfInBounds_toArray, List.set_cons_zero, List.set_cons_succ]
  refine txt_op rfl rfl ?_
  have hq := or_any (g := W2.heap.size) (a := c1) (b := c2) (w := W2.alloc (.cells #[.int .i64 c1, .int .i64 c2] 3)) (HC.out.eq (b := blk W2.heap.size #[.int .i64 c1, .int .i64 c2] 3 + _) rfl |>.at_ rfl) (HC.out.eq (b := blk W2.heap.size #[.int .i64 c1, .int .i64 c2] 3 + _) rfl |>.at_ rfl)
  rw [← Hr.out] at hq
  refine op_call 87 _ _ (by go_simp) _ hq ?_
  rintro e3 w3 ⟨rfl, rfl⟩
  refine ⟨_, rfl, fun _ => hS2, ?_⟩
  simp only [Act.put, List.setIfInBounds_toArray, List.set_cons_zero, List.set_cons_succ]
  repeat
    (refine txt_quiet ?_ hS2 rfl rfl (fun W hW => ?_) ?_
     rotate_left 1
     · obtain ⟨hW1, hW2, hW3, hW4⟩ := hW
       go_simp
       exact rfl
     simp only [Act.put, List.setIfInBounds_toArray, List.set_cons_zero, List.set_cons_succ])
  refine txt_done ?_
  try simp only [Act.put]
  go_wp2
  go_ret
  refine ⟨rfl, 1, #[.cells #[.int .i64 ax, .int .i64 ay] 66, .cells #[.int .i64 bx, .int .i64 by'] 66, .cells #[.int .i64 c1, .int .i64 c2] 3], ?_⟩
  rw [HW3.out, HW2.out]
  rw [Go.Sort.alloc_eq_grow w, Go.Sort.alloc_eq_grow (Go.Sort.grow w _), Go.Sort.grow_grow, Go.Sort.alloc_eq_grow]
  show Go.Sort.grow (Go.Sort.grow (w.drewN 1) _) _ = _
  rw [Go.Sort.grow_grow]
  rfl
theorem reading_kp (a b : Int × Int) (w : World) : Calls Tryd.prog 48 #[.agg #[.int .i64 a.1, .int .i64 a.2], .agg #[.int .i64 b.1, .int .i64 b.2]] w fun e w' => e = .returned (.int .i64 (rdC a b)) ∧ Kp w w' := by
  refine (reading_any a b w).mono ?_
  rintro e w' ⟨h, q, os, rfl⟩
  refine ⟨h, fun M hM i => ?_, rfl, rfl, rfl, by simp [Go.Sort.grow, World.drewN]⟩
  obtain ⟨h1, h2, h3⟩ := hM i
  refine ⟨h1, fun hi => ?_, fun o ho => ?_⟩
  · have := h2 hi
    simp only [Go.Sort.grow, World.drewN, Array.size_append]
    omega
  · have h4 := h3 o ho
    have hi := (Array.getElem?_eq_some_iff.1 h4).1
    simp only [Go.Sort.grow, World.drewN]
    rw [Array.getElem?_append_left hi, h4]
end Go.Proofs.YtcdhimnmbpllgaaDoor

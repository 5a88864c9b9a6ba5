/-
  The walks of reduced, line.
-/
import Derived.Test.YteibbnmlmbhkpaaDoorPKind
namespace Go.Proofs.YteibbnmlmbhkpaaDoor
open Go.RowKit
set_option linter.unusedVariables false
set_option linter.unusedSimpArgs false
set_option maxHeartbeats 1000000
set_option maxRecDepth 100000

/-- A vector's own one. -/
def redX (g : Gd) (x : Int) : Int := x % g.A
def redY (g : Gd) (x y : Int) : Int := (y - x / g.A * g.B) % g.D
theorem reduced_any (g : Gd) (ha : 1 ≤ g.A) (ha6 : g.A ≤ 6) (hd : 1 ≤ g.D) (hd6 : g.D ≤ 6) (hb : g.B < g.D) (x y : Int) (hx : -1000 ≤ x ∧ x ≤ 1000) (hy : -1000 ≤ y ∧ y ≤ 1000) (w : World) :
    Calls Tryd.prog 79 #[.agg #[.int .i64 g.A, .int .i64 g.B, .int .i64 g.D], .int .i64 x, .int .i64 y] w fun e w' => e = .returned (.tuple #[.int .i64 (redX g x), .int .i64 (redY g x y)]) ∧ Kp w w' := by
  obtain ⟨A, B, D⟩ := g
  simp only at *
  obtain ⟨r, hr⟩ : ∃ r, r = x % (A : Int) := ⟨_, rfl⟩
  obtain ⟨q, hq⟩ : ∃ q, q = x / (A : Int) := ⟨_, rfl⟩
  obtain ⟨qb, hqb⟩ : ∃ qb, qb = q * (B : Int) := ⟨_, rfl⟩
  obtain ⟨s, hs⟩ : ∃ s, s = (y - qb) % (D : Int) := ⟨_, rfl⟩
  have e1 : redX ⟨A, B, D⟩ x = r := by unfold redX; exact hr.symm
  have e2 : redY ⟨A, B, D⟩ x y = s := by unfold redY; simp only; rw [← hq, ← hqb, ← hs]
  rw [e1, e2]
  have hr0 := Int.emod_nonneg x (show (A : Int) ≠ 0 by omega)
  have hr1 := Int.emod_lt_of_pos x (show (0 : Int) < A by omega)
  rw [← hr] at hr0 hr1
  have hxq : x - r = (A : Int) * q := by rw [hr, hq]; have := Int.emod_add_mul_ediv x A; omega
  have hq1 : -1000 ≤ q ∧ q ≤ 1000 := by
    have h6 : A = 1 ∨ A = 2 ∨ A = 3 ∨ A = 4 ∨ A = 5 ∨ A = 6 := by omega
    rw [hq]
    rcases h6 with rfl | rfl | rfl | rfl | rfl | rfl <;> omega
  have hqb1 : -6000 ≤ qb ∧ qb ≤ 6000 := by
    rw [hqb]
    have hB : (B : Int) ≤ 6 := by omega
    have hB0 : (0 : Int) ≤ B := by omega
    constructor
    · have h1 : -1000 * (B : Int) ≤ q * B := Int.mul_le_mul_of_nonneg_right hq1.1 hB0
      omega
    · have h1 : q * (B : Int) ≤ 1000 * B := Int.mul_le_mul_of_nonneg_right hq1.2 hB0
      omega
  have hA0 : ¬ (A : Int) = 0 := by omega
  have hA0N : ¬ A = 0 := by omega
  have hw1 : IntKind.i64.wrap (x - r) = x - r := by rw [IntKind.wrap_i64]; omega
  have hw2 : (x - r).tdiv A = q := by rw [hxq, Int.mul_tdiv_cancel_left _ hA0]
  have hw3 : IntKind.i64.wrap (q * B) = qb := by rw [← hqb, IntKind.wrap_i64]; omega
  have hw4 : IntKind.i64.wrap (y - qb) = y - qb := by rw [IntKind.wrap_i64]; omega
  have hw5 : IntKind.i64.wrap q = q := by rw [IntKind.wrap_i64]; omega
  have M1 := hid (fun (W : World) => mod_any x A W (by omega) (by omega))
  have M2 := hid (fun (W : World) => mod_any (y - qb) D W (by omega) (by omega))
  rw [← hr] at M1
  rw [← hs] at M2
  have HA := hid (show Has (w.alloc (.cells #[.int .i64 A, .int .i64 B, .int .i64 D] 26)) (blk w.heap.size #[.int .i64 A, .int .i64 B, .int .i64 D] 26 + MS.all w) from (Has.all w).alloc (.cells #[.int .i64 A, .int .i64 B, .int .i64 D] 26))
  have HE := hid (Ext.alloc w (.cells #[.int .i64 A, .int .i64 B, .int .i64 D] 26))
  clear hr hq hqb hs e1 e2 hxq ha ha6 hd hd6 hb hx hy hr0 hr1 hq1 hqb1
  go_enter Tryd.func79, Tryd.ntmps79
  go_wp2_with (go_at_call 76; go_loud (with_reducible refine (M1.out _).mono ?_; rintro e5 w5 ⟨rfl, q5, hq5⟩; have K5 := hid (show Has w5 (blk w.heap.size #[.int .i64 A, .int .i64 B, .int .i64 D] 26 + MS.all w) by rw [hq5]; exact HA.out.drewN _); have E5 := hid (show Ext w w5 by rw [hq5]; exact HE.out.trans (Ext.drewN _ _)); clear hq5 q5; have g0 : w5.cell? ⟨w.heap.size, 0, none⟩ = some (.int .i64 A) := K5.out.at_ rfl; have g1 : w5.cell? ⟨w.heap.size, 1, none⟩ = some (.int .i64 B) := K5.out.at_ rfl; have g2 : w5.cell? ⟨w.heap.size, 2, none⟩ = some (.int .i64 D) := K5.out.at_ rfl))
  go_quiet (first | (go_at_call 76; with_reducible refine Calls.quiet_of (M2.out _)))
  go_wp2
  go_ret2
  exact ⟨rfl, Kp.drewN ⟨fun M hM => hM.of_all K5.out, E5.out⟩ _⟩
/-- The line of a mirrored move, how far along. -/
def lineAt (k e f : Int) : Int := if k = 4 then f else if k = 5 then e else if k = 6 then e - f else e + f
def lineAlong (k e f : Int) : Int := if k = 4 then e else if k = 5 then f else if k = 6 then e + f else e - f
theorem line_any {F : MS} (h : KinOk F) (m : Mv) (w : World) (hH : Has w F) (he : -1000 ≤ m.e ∧ m.e ≤ 1000) (hf : -1000 ≤ m.f ∧ m.f ≤ 1000) :
    Calls Tryd.prog 90 #[m.v] w fun e w' => e = .returned (.tuple #[.int .i64 (lineAt (kindOf m) m.e m.f), .int .i64 (lineAlong (kindOf m) m.e m.f)]) ∧ Kp w w' := by
  have Hi := hid (fun (W : World) (hW : Has W F) => kind_any h m W hW)
  have HH := hid hH
  obtain ⟨a, b, c', d, e, f⟩ := m
  obtain ⟨r, hr⟩ : ∃ r, r = kindOf ⟨a, b, c', d, e, f⟩ := ⟨_, rfl⟩
  rw [← hr] at Hi ⊢
  simp only at he hf ⊢
  obtain ⟨W1, hW1⟩ : ∃ W1, W1 = w.alloc (.cells #[.int .i64 a, .int .i64 b, .int .i64 c', .int .i64 d, .int .i64 e, .int .i64 f] 41) := ⟨_, rfl⟩
  have HEA := hid (show Ext w W1 by rw [hW1]; exact Ext.alloc w _)
  obtain ⟨gm, hgm⟩ : ∃ gm, gm = w.heap.size := ⟨_, rfl⟩
  have HG := hid (show Has W1 (blk gm #[.int .i64 a, .int .i64 b, .int .i64 c', .int .i64 d, .int .i64 e, .int .i64 f] 41 + MS.all w) by rw [hW1, hgm]; exact (Has.all w).alloc _)
  have Hc := hid (Hi.out W1 (HH.out.of_all HG.out))
  have hw1 : IntKind.i64.wrap (e - f) = e - f := by rw [IntKind.wrap_i64]; omega
  have hw2 : IntKind.i64.wrap (e + f) = e + f := by rw [IntKind.wrap_i64]; omega
  clear h hH hr Hi he hf
  show Calls Tryd.prog 90 #[.agg #[.int .i64 a, .int .i64 b, .int .i64 c', .int .i64 d, .int .i64 e, .int .i64 f]] w _
  rw [hW1] at Hc
  subst hgm
  by_cases h4 : r = 4
  · have hk := hid (show lineAt r e f = f ∧ lineAlong r e f = e by unfold lineAt lineAlong; rw [if_pos h4, if_pos h4]; exact ⟨rfl, rfl⟩)
    rw [hk.out.1, hk.out.2]
    go_enter Tryd.func90, Tryd.ntmps90
    go_wp2_with (go_at_call 44; refine Hc.out.mono ?_; rintro e5 w5 ⟨rfl, k1⟩; rw [← hW1] at k1; have K1 := hid (k1.1 _ HG.out); have E1 := hid (HEA.out.trans k1.2); clear k1; have g4 : w5.cell? ⟨w.heap.size, 4, none⟩ = some (.int .i64 e) := K1.out.at_ rfl; have g5 : w5.cell? ⟨w.heap.size, 5, none⟩ = some (.int .i64 f) := K1.out.at_ rfl)
    go_quiet (fail)
    go_wp2
    go_ret2
    exact ⟨rfl, Kp.drewN ⟨fun M hM => hM.of_all K1.out, E1.out⟩ _⟩
  by_cases h5 : r = 5
  · have hk := hid (show lineAt r e f = e ∧ lineAlong r e f = f by unfold lineAt lineAlong; rw [if_neg h4, if_neg h4, if_pos h5, if_pos h5]; exact ⟨rfl, rfl⟩)
    rw [hk.out.1, hk.out.2]
    go_enter Tryd.func90, Tryd.ntmps90
    go_wp2_with (go_at_call 44; refine Hc.out.mono ?_; rintro e5 w5 ⟨rfl, k1⟩; rw [← hW1] at k1; have K1 := hid (k1.1 _ HG.out); have E1 := hid (HEA.out.trans k1.2); clear k1; have g4 : w5.cell? ⟨w.heap.size, 4, none⟩ = some (.int .i64 e) := K1.out.at_ rfl; have g5 : w5.cell? ⟨w.heap.size, 5, none⟩ = some (.int .i64 f) := K1.out.at_ rfl)
    go_quiet (fail)
    go_wp2
    go_ret2
    exact ⟨rfl, Kp.drewN ⟨fun M hM => hM.of_all K1.out, E1.out⟩ _⟩
  by_cases h6 : r = 6
  · have hk := hid (show lineAt r e f = e - f ∧ lineAlong r e f = e + f by unfold lineAt lineAlong; rw [if_neg h4, if_neg h4, if_neg h5, if_neg h5, if_pos h6, if_pos h6]; exact ⟨rfl, rfl⟩)
    rw [hk.out.1, hk.out.2]
    go_enter Tryd.func90, Tryd.ntmps90
    go_wp2_with (go_at_call 44; refine Hc.out.mono ?_; rintro e5 w5 ⟨rfl, k1⟩; rw [← hW1] at k1; have K1 := hid (k1.1 _ HG.out); have E1 := hid (HEA.out.trans k1.2); clear k1; have g4 : w5.cell? ⟨w.heap.size, 4, none⟩ = some (.int .i64 e) := K1.out.at_ rfl; have g5 : w5.cell? ⟨w.heap.size, 5, none⟩ = some (.int .i64 f) := K1.out.at_ rfl)
    go_quiet (fail)
    go_wp2
    go_ret2
    exact ⟨rfl, Kp.drewN ⟨fun M hM => hM.of_all K1.out, E1.out⟩ _⟩
  · have hk := hid (show lineAt r e f = e + f ∧ lineAlong r e f = e - f by unfold lineAt lineAlong; rw [if_neg h4, if_neg h4, if_neg h5, if_neg h5, if_neg h6, if_neg h6]; exact ⟨rfl, rfl⟩)
    rw [hk.out.1, hk.out.2]
    go_enter Tryd.func90, Tryd.ntmps90
    go_wp2_with (go_at_call 44; refine Hc.out.mono ?_; rintro e5 w5 ⟨rfl, k1⟩; rw [← hW1] at k1; have K1 := hid (k1.1 _ HG.out); have E1 := hid (HEA.out.trans k1.2); clear k1; have g4 : w5.cell? ⟨w.heap.size, 4, none⟩ = some (.int .i64 e) := K1.out.at_ rfl; have g5 : w5.cell? ⟨w.heap.size, 5, none⟩ = some (.int .i64 f) := K1.out.at_ rfl)
    go_quiet (fail)
    go_wp2
    go_ret2
    exact ⟨rfl, Kp.drewN ⟨fun M hM => hM.of_all K1.out, E1.out⟩ _⟩
end Go.Proofs.YteibbnmlmbhkpaaDoor

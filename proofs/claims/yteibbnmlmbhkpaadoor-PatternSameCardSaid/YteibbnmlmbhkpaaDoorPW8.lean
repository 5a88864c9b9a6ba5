/-
  The group as it is read; the walk of has.
-/
import Derived.Test.YteibbnmlmbhkpaaDoorPW7
namespace Go.Proofs.YteibbnmlmbhkpaaDoor
open Go.RowKit
set_option linter.unusedVariables false
set_option linter.unusedSimpArgs false
set_option maxHeartbeats 1000000
set_option maxRecDepth 100000

/-- A move of a kind. -/
def knd (k : Nat) (e f : Int) : Mv := { kinds.getD k ⟨0, 0, 0, 0, 0, 0⟩ with e := e, f := f }
/-- Is there a symmetry of a kind at these? -/
def ownB (p : List ByteArray) (g : Gd) (k e f : Nat) : Bool := decide (e < g.A ∧ f < g.D) && keepsB p (knd k e f)
/-- The symmetries, one for each class. -/
def symL (p : List ByteArray) (g : Gd) : List Mv := (List.range 8).flatMap fun k => (List.range g.A).flatMap fun (e : Nat) => (List.range g.D).filterMap fun (f : Nat) => if keepsB p (knd k e f) then some (knd k e f) else none
def RT.mv : RT Mv := ⟨6, fun _ m cs => cs = m.cells, fun _ _ _ h => by rw [h]; rfl, fun _ _ _ _ h => h⟩
structure PGr (F : MS) (p : List ByteArray) (g : Gd) (gb : Nat) : Prop where
  pok : PatOk p
  lat : IsLat p g
  c0 : F.at gb 0 (.int .i64 g.A)
  c1 : F.at gb 1 (.int .i64 g.B)
  c2 : F.at gb 2 (.int .i64 g.D)
  own : ∀ k e f, k < 8 → e < 6 → f < 6 → F.at gb (4 + k * 36 + e * 6 + f) (.bool (ownB p g k e f))
  all : ∃ A c, F.at gb 3 (.slice A (symL p g).length c) ∧ RdS F RT.mv (symL p g) (.slice A (symL p g).length c)
theorem PGr.more {F : MS} {p : List ByteArray} {g : Gd} {gb : Nat} (h : PGr F p g gb) (X : MS) : PGr (X + F) p g gb :=
  ⟨h.pok, h.lat, h.c0.more X, h.c1.more X, h.c2.more X, fun k e f h1 h2 h3 => (h.own k e f h1 h2 h3).more X, by
    obtain ⟨A, c, h1, h2⟩ := h.all
    exact ⟨A, c, h1.more X, h2.more X⟩⟩
/-- Is a move of a kind a symmetry? -/
def hasB (p : List ByteArray) (g : Gd) (k : Nat) (e f : Int) : Bool := ownB p g k (redX g e).toNat (redY g e f).toNat
theorem has_any {F : MS} {p : List ByteArray} {g : Gd} {gb : Nat} (h : PGr F p g gb) (k : Nat) (hk : k < 8) (m : Mv) (he : -1000 ≤ m.e ∧ m.e ≤ 1000) (hf : -1000 ≤ m.f ∧ m.f ≤ 1000) (w : World) (hH : Has w F) :
    Calls Tryd.prog 89 #[.pointer (some ⟨gb, 0, none⟩), .int .i64 k, m.v] w fun e w' => e = .returned (.bool (hasB p g k m.e m.f)) ∧ Kp w w' := by
  obtain ⟨a, b, c', d, e, f⟩ := m
  simp only at he hf ⊢
  have hA1 := h.lat.a1
  have hA6 : g.A ≤ 6 := by have := h.lat.aw; have := h.pok.w6; omega
  have hD1 := h.lat.d1
  have hD6 : g.D ≤ 6 := by have := h.lat.dh; have := h.pok.h6; omega
  have Hred := hid (fun (W : World) => reduced_any g hA1 hA6 hD1 hD6 h.lat.bd e f he hf W)
  have hx0 := Int.emod_nonneg e (show (g.A : Int) ≠ 0 by omega)
  have hx1 := Int.emod_lt_of_pos e (show (0 : Int) < g.A by omega)
  have hy0 := Int.emod_nonneg (f - e / g.A * g.B) (show (g.D : Int) ≠ 0 by omega)
  have hy1 := Int.emod_lt_of_pos (f - e / g.A * g.B) (show (0 : Int) < g.D by omega)
  obtain ⟨x, hx⟩ : ∃ x : Nat, redX g e = x := ⟨(redX g e).toNat, by unfold redX; omega⟩
  obtain ⟨y, hy⟩ : ∃ y : Nat, redY g e f = y := ⟨(redY g e f).toNat, by unfold redY; omega⟩
  have hx6 : x < 6 := by unfold redX at hx; omega
  have hy6 : y < 6 := by unfold redY at hy; omega
  have hq := hid (show hasB p g k e f = ownB p g k x y by unfold hasB; rw [hx, hy]; simp)
  rw [hx, hy] at Hred
  have hown := h.own k x y hk hx6 hy6
  generalize ownB p g k x y = q at *
  obtain ⟨W1, hW1⟩ : ∃ W1, W1 = w.alloc (.cells #[.int .i64 a, .int .i64 b, .int .i64 c', .int .i64 d, .int .i64 e, .int .i64 f] 41) := ⟨_, rfl⟩
  have HEA := hid (show Ext w W1 by rw [hW1]; exact Ext.alloc w _)
  obtain ⟨gm, hgm⟩ : ∃ gm, gm = w.heap.size := ⟨_, rfl⟩
  have HG := hid (show Has W1 (blk gm #[.int .i64 a, .int .i64 b, .int .i64 c', .int .i64 d, .int .i64 e, .int .i64 f] 41 + MS.all w) by rw [hW1, hgm]; exact (Has.all w).alloc _)
  have Hc0 := hid h.c0
  have Hc1 := hid h.c1
  have Hc2 := hid h.c2
  have Hown := hid hown
  have HF := hid (fun (W : World) (hW : Has W (blk gm #[.int .i64 a, .int .i64 b, .int .i64 c', .int .i64 d, .int .i64 e, .int .i64 f] 41 + MS.all w)) => hH.of_all hW)
  have hkI : (k : Int) < 8 := by omega
  have hxI : (x : Int) < 6 := by omega
  have hyI : (y : Int) < 6 := by omega
  rw [hq.out]
  clear hx0 hx1 hy0 hy1 hx hy h hown hH hA1 hA6 hD1 hD6 he hf
  show Calls Tryd.prog 89 #[.pointer (some ⟨gb, 0, none⟩), .int .i64 k, .agg #[.int .i64 a, .int .i64 b, .int .i64 c', .int .i64 d, .int .i64 e, .int .i64 f]] w _
  go_enter Tryd.func89, Tryd.ntmps89
  go_wp2
  rw [← hW1, ← hgm]
  clear hW1 hgm
  have keep : ∀ W, Has W (blk gm #[.int .i64 a, .int .i64 b, .int .i64 c', .int .i64 d, .int .i64 e, .int .i64 f] 41 + MS.all w) → W.cell? ⟨gm, 4, none⟩ = some (.int .i64 e) ∧ W.cell? ⟨gm, 5, none⟩ = some (.int .i64 f) ∧ W.cell? ⟨gb, 0, none⟩ = some (.int .i64 g.A) ∧ W.cell? ⟨gb, 1, none⟩ = some (.int .i64 g.B) ∧ W.cell? ⟨gb, 2, none⟩ = some (.int .i64 g.D) := fun W hW =>
    ⟨hW.at_ rfl, hW.at_ rfl, Hc0.out.c0 (HF.out W hW), Hc1.out.c0 (HF.out W hW), Hc2.out.c0 (HF.out W hW)⟩
  have Keep := hid keep
  have hS := keep _ HG.out.drew
  clear keep
  refine wp_region_txt (fun W => W.cell? ⟨gm, 4, none⟩ = some (.int .i64 e) ∧ W.cell? ⟨gm, 5, none⟩ = some (.int .i64 f) ∧ W.cell? ⟨gb, 0, none⟩ = some (.int .i64 g.A) ∧ W.cell? ⟨gb, 1, none⟩ = some (.int .i64 g.B) ∧ W.cell? ⟨gb, 2, none⟩ = some (.int .i64 g.D)) none
    [(0, true), (1, true), (2, true), (3, true), (4, true), (5, true), (6, true), (7, true), (8, false), (9, true), (10, true), (11, true), (12, true), (13, true)] (by kernel_rfl) rfl (by kernel_rfl) (by kernel_rfl) (by repeat (first | with_reducible refine PanicOk.thn ?_ | with_reducible refine PanicOk.blk ?_ | exact PanicOk.body _ _ _)) ?_
  repeat
    (refine txt_quiet ?_ hS rfl rfl (fun W hW => ?_) ?_
     rotate_left 1
     · obtain ⟨hW1, hW2, hW3, hW4, hW5⟩ := hW
       go_simp
       exact rfl
     simp only [Act.put, List.setIfInBounds_toArray, List.set_cons_zero, List.set_cons_succ])
  refine txt_op rfl rfl ?_
  refine op_call 79 #[.agg #[.int .i64 g.A, .int .i64 g.B, .int .i64 g.D], .int .i64 e, .int .i64 f] W1.drew (by go_simp) _ (Hred.out W1.drew) ?_
  rintro e1 w1 ⟨rfl, k1⟩
  have HW1 := hid (k1.1 _ HG.out.drew)
  refine ⟨_, rfl, fun _ => Keep.out w1 HW1.out, ?_⟩
  have HE1 := hid ((HEA.out.trans (Ext.drew _)).trans k1.2)
  clear k1 hS
  simp only [Act.put, List.setIfInBounds_toArray, List.set_cons_zero, List.set_cons_succ]
  have hS := Keep.out w1 HW1.out
  repeat
    (refine txt_quiet ?_ hS rfl rfl (fun W hW => ?_) ?_
     rotate_left 1
     · obtain ⟨hW1, hW2, hW3, hW4, hW5⟩ := hW
       go_simp
       exact rfl
     simp only [Act.put, List.setIfInBounds_toArray, List.set_cons_zero, List.set_cons_succ])
  refine txt_done ?_
  have g0 := Hown.out.c0 (HF.out _ HW1.out)
  go_wp2
  go_ret
  exact ⟨rfl, fun M hM => hM.of_all HW1.out, HE1.out⟩
end Go.Proofs.YteibbnmlmbhkpaaDoor

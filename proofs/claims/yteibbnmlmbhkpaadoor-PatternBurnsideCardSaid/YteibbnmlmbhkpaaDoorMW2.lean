/-
  The walk of undone.
-/
import Derived.Test.YteibbnmlmbhkpaaDoorMW1
namespace Go.Proofs.YteibbnmlmbhkpaaDoor
open Go.RowKit
set_option linter.unusedVariables false
set_option linter.unusedSimpArgs false
set_option maxHeartbeats 2000000
set_option maxRecDepth 100000

/-- The move that undoes one, as the machine computes it. -/
def backM (m : Mv) : Mv := ⟨m.a, m.c, m.b, m.d, wrap64 (-(Mv.toX ⟨m.a, m.c, m.b, m.d, 0, 0⟩ m.e m.f)), wrap64 (-(Mv.toY ⟨m.a, m.c, m.b, m.d, 0, 0⟩ m.e m.f))⟩
theorem undone_any (m : Mv) (w : World) :
    Calls Tryd.prog 45 #[m.v] w fun e w' => e = .returned (backM m).v ∧ Kp w w' := by
  obtain ⟨aa, ab, ac, ad, ae, af⟩ := m
  have Hto := hid (fun W => to_any ⟨aa, ac, ab, ad, 0, 0⟩ ae af W)
  obtain ⟨sx, hsx⟩ : ∃ sx, sx = Mv.toX ⟨aa, ac, ab, ad, 0, 0⟩ ae af := ⟨_, rfl⟩
  obtain ⟨sy, hsy⟩ : ∃ sy, sy = Mv.toY ⟨aa, ac, ab, ad, 0, 0⟩ ae af := ⟨_, rfl⟩
  rw [← hsx, ← hsy] at Hto
  have Hb := hid (show backM ⟨aa, ab, ac, ad, ae, af⟩ = ⟨aa, ac, ab, ad, wrap64 (-sx), wrap64 (-sy)⟩ by rw [hsx, hsy]; rfl)
  clear hsx hsy
  have HA := hid (show Has (((w.alloc (.cells #[.int .i64 aa, .int .i64 ab, .int .i64 ac, .int .i64 ad, .int .i64 ae, .int .i64 af] 41)).alloc (.cells #[.int .i64 0, .int .i64 0, .int .i64 0, .int .i64 0, .int .i64 0, .int .i64 0] 41)).alloc (.cells #[.int .i64 aa, .int .i64 ac, .int .i64 ab, .int .i64 ad, .int .i64 0, .int .i64 0] 41)) (blk (w.heap.size + 1 + 1) #[.int .i64 aa, .int .i64 ac, .int .i64 ab, .int .i64 ad, .int .i64 0, .int .i64 0] 41 + (blk (w.heap.size + 1) #[.int .i64 0, .int .i64 0, .int .i64 0, .int .i64 0, .int .i64 0, .int .i64 0] 41 + (blk w.heap.size #[.int .i64 aa, .int .i64 ab, .int .i64 ac, .int .i64 ad, .int .i64 ae, .int .i64 af] 41 + MS.all w))) by
    have h1 := (Has.all w).alloc (.cells #[.int .i64 aa, .int .i64 ab, .int .i64 ac, .int .i64 ad, .int .i64 ae, .int .i64 af] 41)
    have h2 := h1.alloc (.cells #[.int .i64 0, .int .i64 0, .int .i64 0, .int .i64 0, .int .i64 0, .int .i64 0] 41)
    rw [show (w.alloc (.cells #[.int .i64 aa, .int .i64 ab, .int .i64 ac, .int .i64 ad, .int .i64 ae, .int .i64 af] 41)).heap.size = w.heap.size + 1 by simp] at h2
    have h3 := h2.alloc (.cells #[.int .i64 aa, .int .i64 ac, .int .i64 ab, .int .i64 ad, .int .i64 0, .int .i64 0] 41)
    rw [show ((w.alloc (.cells #[.int .i64 aa, .int .i64 ab, .int .i64 ac, .int .i64 ad, .int .i64 ae, .int .i64 af] 41)).alloc (.cells #[.int .i64 0, .int .i64 0, .int .i64 0, .int .i64 0, .int .i64 0, .int .i64 0] 41)).heap.size = w.heap.size + 1 + 1 by simp] at h3
    exact h3)
  have HE := hid (show Ext w (((w.alloc (.cells #[.int .i64 aa, .int .i64 ab, .int .i64 ac, .int .i64 ad, .int .i64 ae, .int .i64 af] 41)).alloc (.cells #[.int .i64 0, .int .i64 0, .int .i64 0, .int .i64 0, .int .i64 0, .int .i64 0] 41)).alloc (.cells #[.int .i64 aa, .int .i64 ac, .int .i64 ab, .int .i64 ad, .int .i64 0, .int .i64 0] 41)) from ((Ext.alloc _ _).trans (Ext.alloc _ _)).trans (Ext.alloc _ _))
  show Calls Tryd.prog 45 #[.agg #[.int .i64 aa, .int .i64 ab, .int .i64 ac, .int .i64 ad, .int .i64 ae, .int .i64 af]] w _
  have a4 : (((w.alloc (.cells #[.int .i64 aa, .int .i64 ab, .int .i64 ac, .int .i64 ad, .int .i64 ae, .int .i64 af] 41)).alloc (.cells #[.int .i64 0, .int .i64 0, .int .i64 0, .int .i64 0, .int .i64 0, .int .i64 0] 41)).alloc (.cells #[.int .i64 aa, .int .i64 ac, .int .i64 ab, .int .i64 ad, .int .i64 0, .int .i64 0] 41)).cell? ⟨w.heap.size, 4, none⟩ = some (.int .i64 ae) := HA.out.right.right.at_ rfl
  have a5 : (((w.alloc (.cells #[.int .i64 aa, .int .i64 ab, .int .i64 ac, .int .i64 ad, .int .i64 ae, .int .i64 af] 41)).alloc (.cells #[.int .i64 0, .int .i64 0, .int .i64 0, .int .i64 0, .int .i64 0, .int .i64 0] 41)).alloc (.cells #[.int .i64 aa, .int .i64 ac, .int .i64 ab, .int .i64 ad, .int .i64 0, .int .i64 0] 41)).cell? ⟨w.heap.size, 5, none⟩ = some (.int .i64 af) := HA.out.right.right.at_ rfl
  go_enter Tryd.func45, Tryd.ntmps45
  go_wp2_with (first
    | (go_at_call 42; refine (Hto.out _).mono ?_; rintro e1 w1 ⟨rfl, k1⟩; have K1 := hid (k1.1 _ HA.out); have E1 := hid (HE.out.trans k1.2); clear k1 a4 a5)
    | (refine wpList_store_blk rfl (.tmp 28) (.tmp 25) 3 rfl size3 (w.heap.size + 1 + 1) 4 (.int .i64 (wrap64 (-sx))) rfl rfl rfl #[.int .i64 aa, .int .i64 ac, .int .i64 ab, .int .i64 ad, .int .i64 0, .int .i64 0] 41 _ K1.out (by simp) ?_; intro w2 j1 j2; have K2 := hid (show Has w2 (blk (w.heap.size + 1 + 1) #[.int .i64 aa, .int .i64 ac, .int .i64 ab, .int .i64 ad, .int .i64 (wrap64 (-sx)), .int .i64 0] 41 + (blk (w.heap.size + 1) #[.int .i64 0, .int .i64 0, .int .i64 0, .int .i64 0, .int .i64 0, .int .i64 0] 41 + (blk w.heap.size #[.int .i64 aa, .int .i64 ab, .int .i64 ac, .int .i64 ad, .int .i64 ae, .int .i64 af] 41 + MS.all w))) from j1); have E2 := hid (E1.out.trans j2); clear j1 j2)
    | (refine wpList_store_blk rfl (.tmp 29) (.tmp 27) 3 rfl size3 (w.heap.size + 1 + 1) 5 (.int .i64 (wrap64 (-sy))) rfl rfl rfl #[.int .i64 aa, .int .i64 ac, .int .i64 ab, .int .i64 ad, .int .i64 (wrap64 (-sx)), .int .i64 0] 41 _ K2.out (by simp) ?_; intro w3 j1 j2; have K3 := hid (show Has w3 (blk (w.heap.size + 1 + 1) #[.int .i64 aa, .int .i64 ac, .int .i64 ab, .int .i64 ad, .int .i64 (wrap64 (-sx)), .int .i64 (wrap64 (-sy))] 41 + (blk (w.heap.size + 1) #[.int .i64 0, .int .i64 0, .int .i64 0, .int .i64 0, .int .i64 0, .int .i64 0] 41 + (blk w.heap.size #[.int .i64 aa, .int .i64 ab, .int .i64 ac, .int .i64 ad, .int .i64 ae, .int .i64 af] 41 + MS.all w))) from j1); have E3 := hid (E2.out.trans j2); clear j1 j2; have n0 : w3.cell? ⟨(w.heap.size + 1 + 1), 0, none⟩ = some (.int .i64 aa) := K3.out.at_ rfl; have n1 : w3.cell? ⟨(w.heap.size + 1 + 1), 1, none⟩ = some (.int .i64 ac) := K3.out.at_ rfl; have n2 : w3.cell? ⟨(w.heap.size + 1 + 1), 2, none⟩ = some (.int .i64 ab) := K3.out.at_ rfl; have n3 : w3.cell? ⟨(w.heap.size + 1 + 1), 3, none⟩ = some (.int .i64 ad) := K3.out.at_ rfl; have n4 : w3.cell? ⟨(w.heap.size + 1 + 1), 4, none⟩ = some (.int .i64 (wrap64 (-sx))) := K3.out.at_ rfl; have n5 : w3.cell? ⟨(w.heap.size + 1 + 1), 5, none⟩ = some (.int .i64 (wrap64 (-sy))) := K3.out.at_ rfl)
    | (refine wpList_store_whole rfl (.tmp 2) (.tmp 30) 41 rfl 6 size41 (w.heap.size + 1) (.agg #[.int .i64 aa, .int .i64 ac, .int .i64 ab, .int .i64 ad, .int .i64 (wrap64 (-sx)), .int .i64 (wrap64 (-sy))]) rfl rfl rfl (by simp [Value.cells, Value.oneCell']) #[.int .i64 0, .int .i64 0, .int .i64 0, .int .i64 0, .int .i64 0, .int .i64 0] 41 (blk (w.heap.size + 1 + 1) #[.int .i64 aa, .int .i64 ac, .int .i64 ab, .int .i64 ad, .int .i64 (wrap64 (-sx)), .int .i64 (wrap64 (-sy))] 41 + (blk w.heap.size #[.int .i64 aa, .int .i64 ab, .int .i64 ac, .int .i64 ad, .int .i64 ae, .int .i64 af] 41 + MS.all w)) (K3.out.eq (by ac_rfl)) rfl ?_; intro w6 j1 j2; have K6 := hid (show Has w6 (blk (w.heap.size + 1) #[.int .i64 aa, .int .i64 ac, .int .i64 ab, .int .i64 ad, .int .i64 (wrap64 (-sx)), .int .i64 (wrap64 (-sy))] 41 + (blk (w.heap.size + 1 + 1) #[.int .i64 aa, .int .i64 ac, .int .i64 ab, .int .i64 ad, .int .i64 (wrap64 (-sx)), .int .i64 (wrap64 (-sy))] 41 + (blk w.heap.size #[.int .i64 aa, .int .i64 ab, .int .i64 ac, .int .i64 ad, .int .i64 ae, .int .i64 af] 41 + MS.all w))) from j1); have E6 := hid (E3.out.trans j2); clear j1 j2))
  have q0 : w6.cell? ⟨w.heap.size + 1, 0, none⟩ = some (.int .i64 aa) := K6.out.at_ rfl
  have q1 : w6.cell? ⟨w.heap.size + 1, 1, none⟩ = some (.int .i64 ac) := K6.out.at_ rfl
  have q2 : w6.cell? ⟨w.heap.size + 1, 2, none⟩ = some (.int .i64 ab) := K6.out.at_ rfl
  have q3 : w6.cell? ⟨w.heap.size + 1, 3, none⟩ = some (.int .i64 ad) := K6.out.at_ rfl
  have q4 : w6.cell? ⟨w.heap.size + 1, 4, none⟩ = some (.int .i64 (wrap64 (-sx))) := K6.out.at_ rfl
  have q5 : w6.cell? ⟨w.heap.size + 1, 5, none⟩ = some (.int .i64 (wrap64 (-sy))) := K6.out.at_ rfl
  exact bodyPost_ret (v := .agg #[.int .i64 aa, .int .i64 ac, .int .i64 ab, .int .i64 ad, .int .i64 (wrap64 (-sx)), .int .i64 (wrap64 (-sy))]) (by simp [results, Tryd.results45, go_sem, q0, q1, q2, q3, q4, q5]) rfl
    ⟨by rw [Hb.out]; rfl, fun M hM => hM.of_all (X := blk (w.heap.size + 1) #[.int .i64 aa, .int .i64 ac, .int .i64 ab, .int .i64 ad, .int .i64 (wrap64 (-sx)), .int .i64 (wrap64 (-sy))] 41 + (blk (w.heap.size + 1 + 1) #[.int .i64 aa, .int .i64 ac, .int .i64 ab, .int .i64 ad, .int .i64 (wrap64 (-sx)), .int .i64 (wrap64 (-sy))] 41 + blk w.heap.size #[.int .i64 aa, .int .i64 ab, .int .i64 ac, .int .i64 ad, .int .i64 ae, .int .i64 af] 41)) (K6.out.eq (by ac_rfl)), E6.out⟩
end Go.Proofs.YteibbnmlmbhkpaaDoor

/-
  The walks of Then (both), undone.
-/
import Derived.Test.YteibbnmlmbhkpaaDoorRW4
namespace Go.Proofs.YteibbnmlmbhkpaaDoor
open Go.RowKit
set_option linter.unusedVariables false
set_option linter.unusedSimpArgs false
set_option maxHeartbeats 2000000
set_option maxRecDepth 100000

/-- A move followed by another one, as the machine computes it. -/
def thenM (a b : Mv) : Mv := ⟨wrap64 (wrap64 (b.a * a.a) + wrap64 (b.b * a.c)), wrap64 (wrap64 (b.a * a.b) + wrap64 (b.b * a.d)), wrap64 (wrap64 (b.c * a.a) + wrap64 (b.d * a.c)), wrap64 (wrap64 (b.c * a.b) + wrap64 (b.d * a.d)), b.toX a.e a.f, b.toY a.e a.f⟩
theorem then_any (a b : Mv) (w : World) :
    Calls Tryd.prog 21 #[a.v, b.v] w fun e w' => e = .returned (thenM a b).v ∧ Kp w w' := by
  have Hto := hid (fun W => to_any b a.e a.f W)
  obtain ⟨aa, ab, ac, ad, ae, af⟩ := a
  obtain ⟨ba, bb, bc, bd, be, bf⟩ := b
  obtain ⟨tx, htx⟩ : ∃ tx, tx = Mv.toX ⟨ba, bb, bc, bd, be, bf⟩ ae af := ⟨_, rfl⟩
  obtain ⟨ty, hty⟩ : ∃ ty, ty = Mv.toY ⟨ba, bb, bc, bd, be, bf⟩ ae af := ⟨_, rfl⟩
  simp only at Hto
  rw [← htx, ← hty] at Hto
  have Hth := hid (show thenM ⟨aa, ab, ac, ad, ae, af⟩ ⟨ba, bb, bc, bd, be, bf⟩ = ⟨wrap64 (wrap64 (ba * aa) + wrap64 (bb * ac)), wrap64 (wrap64 (ba * ab) + wrap64 (bb * ad)), wrap64 (wrap64 (bc * aa) + wrap64 (bd * ac)), wrap64 (wrap64 (bc * ab) + wrap64 (bd * ad)), tx, ty⟩ by rw [htx, hty]; rfl)
  clear htx hty
  have HA := hid (show Has (((w.alloc (.cells #[.int .i64 aa, .int .i64 ab, .int .i64 ac, .int .i64 ad, .int .i64 ae, .int .i64 af] 41)).alloc (.cells #[.int .i64 ba, .int .i64 bb, .int .i64 bc, .int .i64 bd, .int .i64 be, .int .i64 bf] 41)).alloc (.cells #[.int .i64 0, .int .i64 0, .int .i64 0, .int .i64 0, .int .i64 0, .int .i64 0] 41)) (blk (w.heap.size + 1 + 1) #[.int .i64 0, .int .i64 0, .int .i64 0, .int .i64 0, .int .i64 0, .int .i64 0] 41 + (blk (w.heap.size + 1) #[.int .i64 ba, .int .i64 bb, .int .i64 bc, .int .i64 bd, .int .i64 be, .int .i64 bf] 41 + (blk w.heap.size #[.int .i64 aa, .int .i64 ab, .int .i64 ac, .int .i64 ad, .int .i64 ae, .int .i64 af] 41 + MS.all w))) by
    have h1 := (Has.all w).alloc (.cells #[.int .i64 aa, .int .i64 ab, .int .i64 ac, .int .i64 ad, .int .i64 ae, .int .i64 af] 41)
    have h2 := h1.alloc (.cells #[.int .i64 ba, .int .i64 bb, .int .i64 bc, .int .i64 bd, .int .i64 be, .int .i64 bf] 41)
    rw [show (w.alloc (.cells #[.int .i64 aa, .int .i64 ab, .int .i64 ac, .int .i64 ad, .int .i64 ae, .int .i64 af] 41)).heap.size = w.heap.size + 1 by simp] at h2
    have h3 := h2.alloc (.cells #[.int .i64 0, .int .i64 0, .int .i64 0, .int .i64 0, .int .i64 0, .int .i64 0] 41)
    rw [show ((w.alloc (.cells #[.int .i64 aa, .int .i64 ab, .int .i64 ac, .int .i64 ad, .int .i64 ae, .int .i64 af] 41)).alloc (.cells #[.int .i64 ba, .int .i64 bb, .int .i64 bc, .int .i64 bd, .int .i64 be, .int .i64 bf] 41)).heap.size = w.heap.size + 1 + 1 by simp] at h3
    exact h3)
  have HE := hid (show Ext w (((w.alloc (.cells #[.int .i64 aa, .int .i64 ab, .int .i64 ac, .int .i64 ad, .int .i64 ae, .int .i64 af] 41)).alloc (.cells #[.int .i64 ba, .int .i64 bb, .int .i64 bc, .int .i64 bd, .int .i64 be, .int .i64 bf] 41)).alloc (.cells #[.int .i64 0, .int .i64 0, .int .i64 0, .int .i64 0, .int .i64 0, .int .i64 0] 41)) from ((Ext.alloc _ _).trans (Ext.alloc _ _)).trans (Ext.alloc _ _))
  have Keep := hid (show ∀ W, Has W (blk (w.heap.size + 1 + 1) #[.int .i64 0, .int .i64 0, .int .i64 0, .int .i64 0, .int .i64 0, .int .i64 0] 41 + (blk (w.heap.size + 1) #[.int .i64 ba, .int .i64 bb, .int .i64 bc, .int .i64 bd, .int .i64 be, .int .i64 bf] 41 + (blk w.heap.size #[.int .i64 aa, .int .i64 ab, .int .i64 ac, .int .i64 ad, .int .i64 ae, .int .i64 af] 41 + MS.all w))) → (W.cell? ⟨w.heap.size + 1, 0, none⟩ = some (.int .i64 ba) ∧ W.cell? ⟨w.heap.size + 1, 1, none⟩ = some (.int .i64 bb) ∧ W.cell? ⟨w.heap.size + 1, 2, none⟩ = some (.int .i64 bc) ∧ W.cell? ⟨w.heap.size + 1, 3, none⟩ = some (.int .i64 bd) ∧ W.cell? ⟨w.heap.size + 1, 4, none⟩ = some (.int .i64 be) ∧ W.cell? ⟨w.heap.size + 1, 5, none⟩ = some (.int .i64 bf) ∧ W.cell? ⟨w.heap.size, 0, none⟩ = some (.int .i64 aa) ∧ W.cell? ⟨w.heap.size, 1, none⟩ = some (.int .i64 ab) ∧ W.cell? ⟨w.heap.size, 2, none⟩ = some (.int .i64 ac) ∧ W.cell? ⟨w.heap.size, 3, none⟩ = some (.int .i64 ad) ∧ W.cell? ⟨w.heap.size, 4, none⟩ = some (.int .i64 ae) ∧ W.cell? ⟨w.heap.size, 5, none⟩ = some (.int .i64 af)) from fun W h => by
    have h' := h.right
    have h'' := h'.right
    exact ⟨h'.at_ rfl, h'.at_ rfl, h'.at_ rfl, h'.at_ rfl, h'.at_ rfl, h'.at_ rfl, h''.at_ rfl, h''.at_ rfl, h''.at_ rfl, h''.at_ rfl, h''.at_ rfl, h''.at_ rfl⟩)
  show Calls Tryd.prog 21 #[.agg #[.int .i64 aa, .int .i64 ab, .int .i64 ac, .int .i64 ad, .int .i64 ae, .int .i64 af], .agg #[.int .i64 ba, .int .i64 bb, .int .i64 bc, .int .i64 bd, .int .i64 be, .int .i64 bf]] w _
  obtain ⟨c0, c1, c2, c3, c4, c5, d0, d1, d2, d3, d4, d5⟩ := Keep.out _ HA.out
  go_enter Tryd.func21, Tryd.ntmps21
  go_wp2_with (first
    | (go_at_call 42; refine (Hto.out _).mono ?_; rintro e1 w1 ⟨rfl, k1⟩; have K1 := hid (k1.1 _ HA.out); have E1 := hid (HE.out.trans k1.2); clear k1 c0 c1 c2 c3 c4 c5 d0 d1 d2 d3 d4 d5; obtain ⟨c0, c1, c2, c3, c4, c5, d0, d1, d2, d3, d4, d5⟩ := Keep.out w1 K1.out)
    | (refine wpList_store_whole rfl (.tmp 4) (.tmp 62) 41 rfl 6 size41 (w.heap.size + 1 + 1) (.agg #[.int .i64 (wrap64 (wrap64 (ba * aa) + wrap64 (bb * ac))), .int .i64 (wrap64 (wrap64 (ba * ab) + wrap64 (bb * ad))), .int .i64 (wrap64 (wrap64 (bc * aa) + wrap64 (bd * ac))), .int .i64 (wrap64 (wrap64 (bc * ab) + wrap64 (bd * ad))), .int .i64 tx, .int .i64 ty]) rfl rfl rfl (by simp [Value.cells, Value.oneCell']) #[.int .i64 0, .int .i64 0, .int .i64 0, .int .i64 0, .int .i64 0, .int .i64 0] 41 _ K1.out rfl ?_; intro w6 j1 j2; have K6 := hid (show Has w6 (blk (w.heap.size + 1 + 1) #[.int .i64 (wrap64 (wrap64 (ba * aa) + wrap64 (bb * ac))), .int .i64 (wrap64 (wrap64 (ba * ab) + wrap64 (bb * ad))), .int .i64 (wrap64 (wrap64 (bc * aa) + wrap64 (bd * ac))), .int .i64 (wrap64 (wrap64 (bc * ab) + wrap64 (bd * ad))), .int .i64 tx, .int .i64 ty] 41 + (blk (w.heap.size + 1) #[.int .i64 ba, .int .i64 bb, .int .i64 bc, .int .i64 bd, .int .i64 be, .int .i64 bf] 41 + (blk w.heap.size #[.int .i64 aa, .int .i64 ab, .int .i64 ac, .int .i64 ad, .int .i64 ae, .int .i64 af] 41 + MS.all w))) from j1); have E6 := hid (E1.out.trans j2); clear j1 j2))
  have q0 : w6.cell? ⟨w.heap.size + 1 + 1, 0, none⟩ = some (.int .i64 (wrap64 (wrap64 (ba * aa) + wrap64 (bb * ac)))) := K6.out.at_ rfl
  have q1 : w6.cell? ⟨w.heap.size + 1 + 1, 1, none⟩ = some (.int .i64 (wrap64 (wrap64 (ba * ab) + wrap64 (bb * ad)))) := K6.out.at_ rfl
  have q2 : w6.cell? ⟨w.heap.size + 1 + 1, 2, none⟩ = some (.int .i64 (wrap64 (wrap64 (bc * aa) + wrap64 (bd * ac)))) := K6.out.at_ rfl
  have q3 : w6.cell? ⟨w.heap.size + 1 + 1, 3, none⟩ = some (.int .i64 (wrap64 (wrap64 (bc * ab) + wrap64 (bd * ad)))) := K6.out.at_ rfl
  have q4 : w6.cell? ⟨w.heap.size + 1 + 1, 4, none⟩ = some (.int .i64 tx) := K6.out.at_ rfl
  have q5 : w6.cell? ⟨w.heap.size + 1 + 1, 5, none⟩ = some (.int .i64 ty) := K6.out.at_ rfl
  exact bodyPost_ret (v := .agg #[.int .i64 (wrap64 (wrap64 (ba * aa) + wrap64 (bb * ac))), .int .i64 (wrap64 (wrap64 (ba * ab) + wrap64 (bb * ad))), .int .i64 (wrap64 (wrap64 (bc * aa) + wrap64 (bd * ac))), .int .i64 (wrap64 (wrap64 (bc * ab) + wrap64 (bd * ad))), .int .i64 tx, .int .i64 ty]) (by simp [results, Tryd.results21, go_sem, q0, q1, q2, q3, q4, q5]) rfl
    ⟨by rw [Hth.out]; rfl, fun M hM => hM.of_all (X := blk (w.heap.size + 1 + 1) #[.int .i64 (wrap64 (wrap64 (ba * aa) + wrap64 (bb * ac))), .int .i64 (wrap64 (wrap64 (ba * ab) + wrap64 (bb * ad))), .int .i64 (wrap64 (wrap64 (bc * aa) + wrap64 (bd * ac))), .int .i64 (wrap64 (wrap64 (bc * ab) + wrap64 (bd * ad))), .int .i64 tx, .int .i64 ty] 41 + (blk (w.heap.size + 1) #[.int .i64 ba, .int .i64 bb, .int .i64 bc, .int .i64 bd, .int .i64 be, .int .i64 bf] 41 + blk w.heap.size #[.int .i64 aa, .int .i64 ab, .int .i64 ac, .int .i64 ad, .int .i64 ae, .int .i64 af] 41)) (K6.out.eq (by ac_rfl)), E6.out⟩
theorem refThen_any (a b : Mv) (w : World) :
    Calls Tryd.prog 26 #[a.v, b.v] w fun e w' => e = .returned (thenM a b).v ∧ Kp w w' := by
  have Hto := hid (fun W => to_any b a.e a.f W)
  obtain ⟨aa, ab, ac, ad, ae, af⟩ := a
  obtain ⟨ba, bb, bc, bd, be, bf⟩ := b

  have HA := hid (show Has (((w.alloc (.cells #[.int .i64 aa, .int .i64 ab, .int .i64 ac, .int .i64 ad, .int .i64 ae, .int .i64 af] 41)).alloc (.cells #[.int .i64 ba, .int .i64 bb, .int .i64 bc, .int .i64 bd, .int .i64 be, .int .i64 bf] 41)).alloc (.cells #[.int .i64 0, .int .i64 0, .int .i64 0, .int .i64 0, .int .i64 0, .int .i64 0] 41)) (blk (w.heap.size + 1 + 1) #[.int .i64 0, .int .i64 0, .int .i64 0, .int .i64 0, .int .i64 0, .int .i64 0] 41 + (blk (w.heap.size + 1) #[.int .i64 ba, .int .i64 bb, .int .i64 bc, .int .i64 bd, .int .i64 be, .int .i64 bf] 41 + (blk w.heap.size #[.int .i64 aa, .int .i64 ab, .int .i64 ac, .int .i64 ad, .int .i64 ae, .int .i64 af] 41 + MS.all w))) by
    have h1 := (Has.all w).alloc (.cells #[.int .i64 aa, .int .i64 ab, .int .i64 ac, .int .i64 ad, .int .i64 ae, .int .i64 af] 41)
    have h2 := h1.alloc (.cells #[.int .i64 ba, .int .i64 bb, .int .i64 bc, .int .i64 bd, .int .i64 be, .int .i64 bf] 41)
    rw [show (w.alloc (.cells #[.int .i64 aa, .int .i64 ab, .int .i64 ac, .int .i64 ad, .int .i64 ae, .int .i64 af] 41)).heap.size = w.heap.size + 1 by simp] at h2
    have h3 := h2.alloc (.cells #[.int .i64 0, .int .i64 0, .int .i64 0, .int .i64 0, .int .i64 0, .int .i64 0] 41)
    rw [show ((w.alloc (.cells #[.int .i64 aa, .int .i64 ab, .int .i64 ac, .int .i64 ad, .int .i64 ae, .int .i64 af] 41)).alloc (.cells #[.int .i64 ba, .int .i64 bb, .int .i64 bc, .int .i64 bd, .int .i64 be, .int .i64 bf] 41)).heap.size = w.heap.size + 1 + 1 by simp] at h3
    exact h3)
  have HE := hid (show Ext w (((w.alloc (.cells #[.int .i64 aa, .int .i64 ab, .int .i64 ac, .int .i64 ad, .int .i64 ae, .int .i64 af] 41)).alloc (.cells #[.int .i64 ba, .int .i64 bb, .int .i64 bc, .int .i64 bd, .int .i64 be, .int .i64 bf] 41)).alloc (.cells #[.int .i64 0, .int .i64 0, .int .i64 0, .int .i64 0, .int .i64 0, .int .i64 0] 41)) from ((Ext.alloc _ _).trans (Ext.alloc _ _)).trans (Ext.alloc _ _))
  have Keep := hid (show ∀ W, Has W (blk (w.heap.size + 1 + 1) #[.int .i64 0, .int .i64 0, .int .i64 0, .int .i64 0, .int .i64 0, .int .i64 0] 41 + (blk (w.heap.size + 1) #[.int .i64 ba, .int .i64 bb, .int .i64 bc, .int .i64 bd, .int .i64 be, .int .i64 bf] 41 + (blk w.heap.size #[.int .i64 aa, .int .i64 ab, .int .i64 ac, .int .i64 ad, .int .i64 ae, .int .i64 af] 41 + MS.all w))) → (W.cell? ⟨w.heap.size + 1, 0, none⟩ = some (.int .i64 ba) ∧ W.cell? ⟨w.heap.size + 1, 1, none⟩ = some (.int .i64 bb) ∧ W.cell? ⟨w.heap.size + 1, 2, none⟩ = some (.int .i64 bc) ∧ W.cell? ⟨w.heap.size + 1, 3, none⟩ = some (.int .i64 bd) ∧ W.cell? ⟨w.heap.size + 1, 4, none⟩ = some (.int .i64 be) ∧ W.cell? ⟨w.heap.size + 1, 5, none⟩ = some (.int .i64 bf) ∧ W.cell? ⟨w.heap.size, 0, none⟩ = some (.int .i64 aa) ∧ W.cell? ⟨w.heap.size, 1, none⟩ = some (.int .i64 ab) ∧ W.cell? ⟨w.heap.size, 2, none⟩ = some (.int .i64 ac) ∧ W.cell? ⟨w.heap.size, 3, none⟩ = some (.int .i64 ad) ∧ W.cell? ⟨w.heap.size, 4, none⟩ = some (.int .i64 ae) ∧ W.cell? ⟨w.heap.size, 5, none⟩ = some (.int .i64 af)) from fun W h => by
    have h' := h.right
    have h'' := h'.right
    exact ⟨h'.at_ rfl, h'.at_ rfl, h'.at_ rfl, h'.at_ rfl, h'.at_ rfl, h'.at_ rfl, h''.at_ rfl, h''.at_ rfl, h''.at_ rfl, h''.at_ rfl, h''.at_ rfl, h''.at_ rfl⟩)
  show Calls Tryd.prog 26 #[.agg #[.int .i64 aa, .int .i64 ab, .int .i64 ac, .int .i64 ad, .int .i64 ae, .int .i64 af], .agg #[.int .i64 ba, .int .i64 bb, .int .i64 bc, .int .i64 bd, .int .i64 be, .int .i64 bf]] w _
  obtain ⟨c0, c1, c2, c3, c4, c5, d0, d1, d2, d3, d4, d5⟩ := Keep.out _ HA.out
  go_enter Tryd.func26, Tryd.ntmps26
  go_wp2_with (refine wpList_store_whole rfl (.tmp 4) (.tmp 77) 41 rfl 6 size41 (w.heap.size + 1 + 1) (.agg #[.int .i64 (wrap64 (wrap64 (ba * aa) + wrap64 (bb * ac))), .int .i64 (wrap64 (wrap64 (ba * ab) + wrap64 (bb * ad))), .int .i64 (wrap64 (wrap64 (bc * aa) + wrap64 (bd * ac))), .int .i64 (wrap64 (wrap64 (bc * ab) + wrap64 (bd * ad))), .int .i64 (wrap64 (wrap64 (wrap64 (ba * ae) + wrap64 (bb * af)) + be)), .int .i64 (wrap64 (wrap64 (wrap64 (bc * ae) + wrap64 (bd * af)) + bf))]) rfl rfl rfl (by simp [Value.cells, Value.oneCell']) #[.int .i64 0, .int .i64 0, .int .i64 0, .int .i64 0, .int .i64 0, .int .i64 0] 41 _ HA.out rfl ?_; intro w6 j1 j2; have K6 := hid (show Has w6 (blk (w.heap.size + 1 + 1) #[.int .i64 (wrap64 (wrap64 (ba * aa) + wrap64 (bb * ac))), .int .i64 (wrap64 (wrap64 (ba * ab) + wrap64 (bb * ad))), .int .i64 (wrap64 (wrap64 (bc * aa) + wrap64 (bd * ac))), .int .i64 (wrap64 (wrap64 (bc * ab) + wrap64 (bd * ad))), .int .i64 (wrap64 (wrap64 (wrap64 (ba * ae) + wrap64 (bb * af)) + be)), .int .i64 (wrap64 (wrap64 (wrap64 (bc * ae) + wrap64 (bd * af)) + bf))] 41 + (blk (w.heap.size + 1) #[.int .i64 ba, .int .i64 bb, .int .i64 bc, .int .i64 bd, .int .i64 be, .int .i64 bf] 41 + (blk w.heap.size #[.int .i64 aa, .int .i64 ab, .int .i64 ac, .int .i64 ad, .int .i64 ae, .int .i64 af] 41 + MS.all w))) from j1); have E6 := hid (HE.out.trans j2); clear j1 j2)
  have q0 : w6.cell? ⟨w.heap.size + 1 + 1, 0, none⟩ = some (.int .i64 (wrap64 (wrap64 (ba * aa) + wrap64 (bb * ac)))) := K6.out.at_ rfl
  have q1 : w6.cell? ⟨w.heap.size + 1 + 1, 1, none⟩ = some (.int .i64 (wrap64 (wrap64 (ba * ab) + wrap64 (bb * ad)))) := K6.out.at_ rfl
  have q2 : w6.cell? ⟨w.heap.size + 1 + 1, 2, none⟩ = some (.int .i64 (wrap64 (wrap64 (bc * aa) + wrap64 (bd * ac)))) := K6.out.at_ rfl
  have q3 : w6.cell? ⟨w.heap.size + 1 + 1, 3, none⟩ = some (.int .i64 (wrap64 (wrap64 (bc * ab) + wrap64 (bd * ad)))) := K6.out.at_ rfl
  have q4 : w6.cell? ⟨w.heap.size + 1 + 1, 4, none⟩ = some (.int .i64 (wrap64 (wrap64 (wrap64 (ba * ae) + wrap64 (bb * af)) + be))) := K6.out.at_ rfl
  have q5 : w6.cell? ⟨w.heap.size + 1 + 1, 5, none⟩ = some (.int .i64 (wrap64 (wrap64 (wrap64 (bc * ae) + wrap64 (bd * af)) + bf))) := K6.out.at_ rfl
  exact bodyPost_ret (v := .agg #[.int .i64 (wrap64 (wrap64 (ba * aa) + wrap64 (bb * ac))), .int .i64 (wrap64 (wrap64 (ba * ab) + wrap64 (bb * ad))), .int .i64 (wrap64 (wrap64 (bc * aa) + wrap64 (bd * ac))), .int .i64 (wrap64 (wrap64 (bc * ab) + wrap64 (bd * ad))), .int .i64 (wrap64 (wrap64 (wrap64 (ba * ae) + wrap64 (bb * af)) + be)), .int .i64 (wrap64 (wrap64 (wrap64 (bc * ae) + wrap64 (bd * af)) + bf))]) (by simp [results, Tryd.results26, go_sem, q0, q1, q2, q3, q4, q5]) rfl
    ⟨by rfl, fun M hM => hM.of_all (X := blk (w.heap.size + 1 + 1) #[.int .i64 (wrap64 (wrap64 (ba * aa) + wrap64 (bb * ac))), .int .i64 (wrap64 (wrap64 (ba * ab) + wrap64 (bb * ad))), .int .i64 (wrap64 (wrap64 (bc * aa) + wrap64 (bd * ac))), .int .i64 (wrap64 (wrap64 (bc * ab) + wrap64 (bd * ad))), .int .i64 (wrap64 (wrap64 (wrap64 (ba * ae) + wrap64 (bb * af)) + be)), .int .i64 (wrap64 (wrap64 (wrap64 (bc * ae) + wrap64 (bd * af)) + bf))] 41 + (blk (w.heap.size + 1) #[.int .i64 ba, .int .i64 bb, .int .i64 bc, .int .i64 bd, .int .i64 be, .int .i64 bf] 41 + blk w.heap.size #[.int .i64 aa, .int .i64 ab, .int .i64 ac, .int .i64 ad, .int .i64 ae, .int .i64 af] 41)) (K6.out.eq (by ac_rfl)), E6.out⟩
end Go.Proofs.YteibbnmlmbhkpaaDoor

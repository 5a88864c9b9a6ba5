/-
  The walks of Then (both), undone. The walk of undone. Plain: a pattern after a move; builders and what is kept below a block. The walk of Apply.
-/
import Derived.Test.YteibbnmlmbhkpaaDoorRW4
import Derived.Test.YteibbnmlmbhkpaaDoorLawP1
import Derived.Below
import Derived.Lib.Builder
namespace Go.Proofs.YteibbnmlmbhkpaaDoor
open Go.RowKit
set_option linter.unusedVariables false
set_option linter.unusedSimpArgs false
set_option maxHeartbeats 2000000
set_option maxRecDepth 100000

/-- A move followed by another one, as the machine computes it. -/
def thenM (a b : Mv) : Mv := ⟨wrap64 (wrap64 (b.a * a.a) + wrap64 (b.b * a.c)), wrap64 (wrap64 (b.a * a.b) + wrap64 (b.b * a.d)), wrap64 (wrap64 (b.c * a.a) + wrap64 (b.d * a.c)), wrap64 (wrap64 (b.c * a.b) + wrap64 (b.d * a.d)), b.toX a.e a.f, b.toY a.e a.f⟩
theorem then_any (a b : Mv) (w : World) :
    Calls Tryd.prog 21 #[a.v, b.v] w fun e w' => e = .returned (thenM a b).v ∧ Kp w w' := by
  have Hto := hid (fun W => to_any b a.e a.f W)
  obtain ⟨aa, ab, ac, ad, ae, af⟩ := a
  obtain ⟨ba, bb, bc, bd, be, bf⟩ := b
  obtain ⟨tx, htx⟩ : ∃ tx, tx = Mv.toX ⟨ba, bb, bc, bd, be, bf⟩ ae af := ⟨_, rfl⟩
  obtain ⟨ty, hty⟩ : ∃ ty, ty = Mv.toY ⟨ba, bb, bc, bd, be, bf⟩ ae af := ⟨_, rfl⟩
  simp only at Hto
  rw [← htx, ← hty] at Hto
  have Hth := hid (show thenM ⟨aa, ab, ac, ad, ae, af⟩ ⟨ba, bb, bc, bd, be, bf⟩ = ⟨wrap64 (wrap64 (ba * aa) + wrap64 (bb * ac)), wrap64 (wrap64 (ba * ab) + wrap64 (bb * ad)), wrap64 (wrap64 (bc * aa) + wrap64 (bd * ac)), wrap64 (wrap64 (bc * ab) + wrap64 (bd * ad)), tx, ty⟩ by rw [htx, hty]; rfl)
  clear htx hty
  have HA := hid (show Has (((w.alloc (.cells #[.int .i64 aa, .int .i64 ab, .int .i64 ac, .int .i64 ad, .int .i64 ae, .int .i64 af] 41)).alloc (.cells #[.int .i64 ba, .int .i64 bb, .int .i64 bc, .int .i64 bd, .int .i64 be, .int .i64 bf] 41)).alloc (.cells #[.int .i64 0, .int .i64 0, .int .i64 0, .int .i64 0, .int .i64 0, .int .i64 0] 41)) (blk (w.heap.size + 1 + 1) #[.int .i64 0, .int .i64 0, .int .i64 0, .int .i64 0, .int .i64 0, .int .i64 0] 41 + (blk (w.heap.size + 1) #[.int .i64 ba, .int .i64 bb, .int .i64 bc, .int .i64 bd, .int .i64 be, .int .i64 bf] 41 + (blk w.heap.size #[.int .i64 aa, .int .i64 ab, .int .i64 ac, .int .i64 ad, .int .i64 ae, .int .i64 af] 41 + MS.all w))) by
    have h1 := (Has.all w).alloc (.cells #[.int .i64 aa, .int .i64 ab, .int .i64 ac, .int .i64 ad, .int .i64 ae, .int .i64 af] 41)
    have h2 := h1.alloc (.cells #[.int .i64 ba, .int .i64 bb, .int .i64 bc, .int .i64 bd, .int .i64 be, .int .i64 bf] 41)
    rw [show (w.alloc (.cells #[.int .i64 aa, .int .i64 ab, .int .i64 ac, .int .i64 ad, .int .i64 ae, .int .i64 af] 41)).heap.size = w.heap.size + 1 by simp] at h2
    have h3 := h2.alloc (.cells #[.int .i64 0, .int .i64 0, .int .i64 0, .int .i64 0, .int .i64 0, .int .i64 0] 41)
    rw [show ((w.alloc (.cells #[.int .i64 aa, .int .i64 ab, .int .i64 ac, .int .i64 ad, .int .i64 ae, .int .i64 af] 41)).alloc (.cells #[.int .i64 ba, .int .i64 bb, .int .i64 bc, .int .i64 bd, .int .i64 be, .int .i64 bf] 41)).heap.size = w.heap.size + 1 + 1 by simp] at h3
    exact h3)
  have HE := hid (show Ext w (((w.alloc (.cells #[.int .i64 aa, .int .i64 ab, .int .i64 ac, .int .i64 ad, .int .i64 ae, .int .i64 af] 41)).alloc (.cells #[.int .i64 ba, .int .i64 bb, .int .i64 bc, .int .i64 bd, .int .i64 be, .int .i64 bf] 41)).alloc (.cells #[.int .i64 0, .int .i64 0, .int .i64 0, .int .i64 0, .int .i64 0, .int .i64 0] 41)) from ((Ext.alloc _ _).trans (Ext.alloc _ _)).trans (Ext.alloc _ _))
  have Keep := hid (show ∀ W, Has W (blk (w.heap.size + 1 + 1) #[.int .i64 0, .int .i64 0, .int .i64 0, .int .i64 0, .int .i64 0, .int .i64 0] 41 + (blk (w.heap.size + 1) #[.int .i64 ba, .int .i64 bb, .int .i64 bc, .int .i64 bd, .int .i64 be, .int .i64 bf] 41 + (blk w.heap.size #[.int .i64 aa, .int .i64 ab, .int .i64 ac, .int .i64 ad, .int .i64 ae, .int .i64 af] 41 + MS.all w))) → (W.cell? ⟨w.heap.size + 1, 0, none⟩ = some (.int .i64 ba) ∧ W.cell? ⟨w.heap.size + 1, 1, none⟩ = some (.int .i64 bb) ∧ W.cell? ⟨w.heap.size + 1, 2, none⟩ = some (.int .i64 bc) ∧ W.cell? ⟨w.heap.size + 1, 3, none⟩ = some (.int .i64 bd) ∧ W.cell? ⟨w.heap.size + 1, 4, none⟩ = some (.int .i64 be) ∧ W.cell? ⟨w.heap.size + 1, 5, none⟩ = some (.int .i64 bf) ∧ W.cell? ⟨w.heap.size, 0, none⟩ = some (.int .i64 aa) ∧ W.cell? ⟨w.heap.size, 1, none⟩ = some (.int .i64 ab) ∧ W.cell? ⟨w.heap.size, 2, none⟩ = some (.int .i64 ac) ∧ W.cell? ⟨w.heap.size, 3, none⟩ = some (.int .i64 ad) ∧ W.cell? ⟨w.heap.size, 4, none⟩ = some (.int .i64 ae) ∧ W.cell? ⟨w.heap.size, 5, none⟩ = some (.int .i64 af)) from fun W h => by
    have h' := h.right
    have h'' := h'.right
    exact ⟨h'.at_ rfl, h'.at_ rfl, h'.at_ rfl, h'.at_ rfl, h'.at_ rfl, h'.at_ rfl, h''.at_ rfl, h''.at_ rfl, h''.at_ rfl, h''.at_ rfl, h''.at_ rfl, h''.at_ rfl⟩)
  show Calls Tryd.prog 21 #[.agg #[.int .i64 aa, .int .i64 ab, .int .i64 ac, .int .i64 ad, .int .i64 ae, .int .i64 af], .agg #[.int .i64 ba, .int .i64 bb, .int .i64 bc, .int .i64 bd, .int .i64 be, .int .i64 bf]] w _
  obtain ⟨c0, c1, c2, c3, c4, c5, d0, d1, d2, d3, d4, d5⟩ := Keep.out _ HA.out
  go_enter Tryd.func21, Tryd.ntmps21
  go_wp2_with (first
    | (go_at_call 42; refine (Hto.out _).mono ?_; rintro e1 w1 ⟨rfl, k1⟩; have K1 := hid (k1.1 _ HA.out); have E1 := hid (HE.out.trans k1.2); clear k1 c0 c1 c2 c3 c4 c5 d0 d1 d2 d3 d4 d5; obtain ⟨c0, c1, c2, c3, c4, c5, d0, d1, d2, d3, d4, d5⟩ := Keep.out w1 K1.out)
    | (refine wpList_store_whole rfl (.tmp 4) (.tmp 62) 41 rfl 6 size41 (w.heap.size + 1 + 1) (.agg #[.int .i64 (wrap64 (wrap64 (ba * aa) + wrap64 (bb * ac))), .int .i64 (wrap64 (wrap64 (ba * ab) + wrap64 (bb * ad))), .int .i64 (wrap64 (wrap64 (bc * aa) + wrap64 (bd * ac))), .int .i64 (wrap64 (wrap64 (bc * ab) + wrap64 (bd * ad))), .int .i64 tx, .int .i64 ty]) rfl rfl rfl (by simp [Value.cells, Value.oneCell']) #[.int .i64 0, .int .i64 0, .int .i64 0, .int .i64 0, .int .i64 0, .int .i64 0] 41 _ K1.out rfl ?_; intro w6 j1 j2; have K6 := hid (show Has w6 (blk (w.heap.size + 1 + 1) #[.int .i64 (wrap64 (wrap64 (ba * aa) + wrap64 (bb * ac))), .int .i64 (wrap64 (wrap64 (ba * ab) + wrap64 (bb * ad))), .int .i64 (wrap64 (wrap64 (bc * aa) + wrap64 (bd * ac))), .int .i64 (wrap64 (wrap64 (bc * ab) + wrap64 (bd * ad))), .int .i64 tx, .int .i64 ty] 41 + (blk (w.heap.size + 1) #[.int .i64 ba, .int .i64 bb, .int .i64 bc, .int .i64 bd, .int .i64 be, .int .i64 bf] 41 + (blk w.heap.size #[.int .i64 aa, .int .i64 ab, .int .i64 ac, .int .i64 ad, .int .i64 ae, .int .i64 af] 41 + MS.all w))) from j1); have E6 := hid (E1.out.trans j2); clear j1 j2))
  have q0 : w6.cell? ⟨w.heap.size + 1 + 1, 0, none⟩ = some (.int .i64 (wrap64 (wrap64 (ba * aa) + wrap64 (bb * ac)))) := K6.out.at_ rfl
  have q1 : w6.cell? ⟨w.heap.size + 1 + 1, 1, none⟩ = some (.int .i64 (wrap64 (wrap64 (ba * ab) + wrap64 (bb * ad)))) := K6.out.at_ rfl
  have q2 : w6.cell? ⟨w.heap.size + 1 + 1, 2, none⟩ = some (.int .i64 (wrap64 (wrap64 (bc * aa) + wrap64 (bd * ac)))) := K6.out.at_ rfl
  have q3 : w6.cell? ⟨w.heap.size + 1 + 1, 3, none⟩ = some (.int .i64 (wrap64 (wrap64 (bc * ab) + wrap64 (bd * ad)))) := K6.out.at_ rfl
  have q4 : w6.cell? ⟨w.heap.size + 1 + 1, 4, none⟩ = some (.int .i64 tx) := K6.out.at_ rfl
  have q5 : w6.cell? ⟨w.heap.size + 1 + 1, 5, none⟩ = some (.int .i64 ty) := K6.out.at_ rfl
  exact bodyPost_ret (v := .agg #[.int .i64 (wrap64 (wrap64 (ba * aa) + wrap64 (bb * ac))), .int .i64 (wrap64 (wrap64 (ba * ab) + wrap64 (bb * ad))), .int .i64 (wrap64 (wrap64 (bc * aa) + wrap64 (bd * ac))), .int .i64 (wrap64 (wrap64 (bc * ab) + wrap64 (bd * ad))), .int .i64 tx, .int .i64 ty]) (by simp [results, Tryd.results21, go_sem, q0, q1, q2, q3, q4, q5]) rfl
    ⟨by rw [Hth.out]; rfl, fun M hM => hM.of_all (X := blk (w.heap.size + 1 + 1) #[.int .i64 (wrap64 (wrap64 (ba * aa) + wrap64 (bb * ac))), .int .i64 (wrap64 (wrap64 (ba * ab) + wrap64 (bb * ad))), .int .i64 (wrap64 (wrap64 (bc * aa) + wrap64 (bd * ac))), .int .i64 (wrap64 (wrap64 (bc * ab) + wrap64 (bd * ad))), .int .i64 tx, .int .i64 ty] 41 + (blk (w.heap.size + 1) #[.int .i64 ba, .int .i64 bb, .int .i64 bc, .int .i64 bd, .int .i64 be, .int .i64 bf] 41 + blk w.heap.size #[.int .i64 aa, .int .i64 ab, .int .i64 ac, .int .i64 ad, .int .i64 ae, .int .i64 af] 41)) (K6.out.eq (by ac_rfl)), E6.out⟩
theorem refThen_any (a b : Mv) (w : World) :
    Calls Tryd.prog 26 #[a.v, b.v] w fun e w' => e = .returned (thenM a b).v ∧ Kp w w' := by
  have Hto := hid (fun W => to_any b a.e a.f W)
  obtain ⟨aa, ab, ac, ad, ae, af⟩ := a
  obtain ⟨ba, bb, bc, bd, be, bf⟩ := b

  have HA := hid (show Has (((w.alloc (.cells #[.int .i64 aa, .int .i64 ab, .int .i64 ac, .int .i64 ad, .int .i64 ae, .int .i64 af] 41)).alloc (.cells #[.int .i64 ba, .int .i64 bb, .int .i64 bc, .int .i64 bd, .int .i64 be, .int .i64 bf] 41)).alloc (.cells #[.int .i64 0, .int .i64 0, .int .i64 0, .int .i64 0, .int .i64 0, .int .i64 0] 41)) (blk (w.heap.size + 1 + 1) #[.int .i64 0, .int .i64 0, .int .i64 0, .int .i64 0, .int .i64 0, .int .i64 0] 41 + (blk (w.heap.size + 1) #[.int .i64 ba, .int .i64 bb, .int .i64 bc, .int .i64 bd, .int .i64 be, .int .i64 bf] 41 + (blk w.heap.size #[.int .i64 aa, .int .i64 ab, .int .i64 ac, .int .i64 ad, .int .i64 ae, .int .i64 af] 41 + MS.all w))) by
    have h1 := (Has.all w).alloc (.cells #[.int .i64 aa, .int .i64 ab, .int .i64 ac, .int .i64 ad, .int .i64 ae, .int .i64 af] 41)
    have h2 := h1.alloc (.cells #[.int .i64 ba, .int .i64 bb, .int .i64 bc, .int .i64 bd, .int .i64 be, .int .i64 bf] 41)
    rw [show (w.alloc (.cells #[.int .i64 aa, .int .i64 ab, .int .i64 ac, .int .i64 ad, .int .i64 ae, .int .i64 af] 41)).heap.size = w.heap.size + 1 by simp] at h2
    have h3 := h2.alloc (.cells #[.int .i64 0, .int .i64 0, .int .i64 0, .int .i64 0, .int .i64 0, .int .i64 0] 41)
    rw [show ((w.alloc (.cells #[.int .i64 aa, .int .i64 ab, .int .i64 ac, .int .i64 ad, .int .i64 ae, .int .i64 af] 41)).alloc (.cells #[.int .i64 ba, .int .i64 bb, .int .i64 bc, .int .i64 bd, .int .i64 be, .int .i64 bf] 41)).heap.size = w.heap.size + 1 + 1 by simp] at h3
    exact h3)
  have HE := hid (show Ext w (((w.alloc (.cells #[.int .i64 aa, .int .i64 ab, .int .i64 ac, .int .i64 ad, .int .i64 ae, .int .i64 af] 41)).alloc (.cells #[.int .i64 ba, .int .i64 bb, .int .i64 bc, .int .i64 bd, .int .i64 be, .int .i64 bf] 41)).alloc (.cells #[.int .i64 0, .int .i64 0, .int .i64 0, .int .i64 0, .int .i64 0, .int .i64 0] 41)) from ((Ext.alloc _ _).trans (Ext.alloc _ _)).trans (Ext.alloc _ _))
  have Keep := hid (show ∀ W, Has W (blk (w.heap.size + 1 + 1) #[.int .i64 0, .int .i64 0, .int .i64 0, .int .i64 0, .int .i64 0, .int .i64 0] 41 + (blk (w.heap.size + 1) #[.int .i64 ba, .int .i64 bb, .int .i64 bc, .int .i64 bd, .int .i64 be, .int .i64 bf] 41 + (blk w.heap.size #[.int .i64 aa, .int .i64 ab, .int .i64 ac, .int .i64 ad, .int .i64 ae, .int .i64 af] 41 + MS.all w))) → (W.cell? ⟨w.heap.size + 1, 0, none⟩ = some (.int .i64 ba) ∧ W.cell? ⟨w.heap.size + 1, 1, none⟩ = some (.int .i64 bb) ∧ W.cell? ⟨w.heap.size + 1, 2, none⟩ = some (.int .i64 bc) ∧ W.cell? ⟨w.heap.size + 1, 3, none⟩ = some (.int .i64 bd) ∧ W.cell? ⟨w.heap.size + 1, 4, none⟩ = some (.int .i64 be) ∧ W.cell? ⟨w.heap.size + 1, 5, none⟩ = some (.int .i64 bf) ∧ W.cell? ⟨w.heap.size, 0, none⟩ = some (.int .i64 aa) ∧ W.cell? ⟨w.heap.size, 1, none⟩ = some (.int .i64 ab) ∧ W.cell? ⟨w.heap.size, 2, none⟩ = some (.int .i64 ac) ∧ W.cell? ⟨w.heap.size, 3, none⟩ = some (.int .i64 ad) ∧ W.cell? ⟨w.heap.size, 4, none⟩ = some (.int .i64 ae) ∧ W.cell? ⟨w.heap.size, 5, none⟩ = some (.int .i64 af)) from fun W h => by
    have h' := h.right
    have h'' := h'.right
    exact ⟨h'.at_ rfl, h'.at_ rfl, h'.at_ rfl, h'.at_ rfl, h'.at_ rfl, h'.at_ rfl, h''.at_ rfl, h''.at_ rfl, h''.at_ rfl, h''.at_ rfl, h''.at_ rfl, h''.at_ rfl⟩)
  show Calls Tryd.prog 26 #[.agg #[.int .i64 aa, .int .i64 ab, .int .i64 ac, .int .i64 ad, .int .i64 ae, .int .i64 af], .agg #[.int .i64 ba, .int .i64 bb, .int .i64 bc, .int .i64 bd, .int .i64 be, .int .i64 bf]] w _
  obtain ⟨c0, c1, c2, c3, c4, c5, d0, d1, d2, d3, d4, d5⟩ := Keep.out _ HA.out
  go_enter Tryd.func26, Tryd.ntmps26
  go_wp2_with (refine wpList_store_whole rfl (.tmp 4) (.tmp 77) 41 rfl 6 size41 (w.heap.size + 1 + 1) (.agg #[.int .i64 (wrap64 (wrap64 (ba * aa) + wrap64 (bb * ac))), .int .i64 (wrap64 (wrap64 (ba * ab) + wrap64 (bb * ad))), .int .i64 (wrap64 (wrap64 (bc * aa) + wrap64 (bd * ac))), .int .i64 (wrap64 (wrap64 (bc * ab) + wrap64 (bd * ad))), .int .i64 (wrap64 (wrap64 (wrap64 (ba * ae) + wrap64 (bb * af)) + be)), .int .i64 (wrap64 (wrap64 (wrap64 (bc * ae) + wrap64 (bd * af)) + bf))]) rfl rfl rfl (by simp [Value.cells, Value.oneCell']) #[.int .i64 0, .int .i64 0, .int .i64 0, .int .i64 0, .int .i64 0, .int .i64 0] 41 _ HA.out rfl ?_; intro w6 j1 j2; have K6 := hid (show Has w6 (blk (w.heap.size + 1 + 1) #[.int .i64 (wrap64 (wrap64 (ba * aa) + wrap64 (bb * ac))), .int .i64 (wrap64 (wrap64 (ba * ab) + wrap64 (bb * ad))), .int .i64 (wrap64 (wrap64 (bc * aa) + wrap64 (bd * ac))), .int .i64 (wrap64 (wrap64 (bc * ab) + wrap64 (bd * ad))), .int .i64 (wrap64 (wrap64 (wrap64 (ba * ae) + wrap64 (bb * af)) + be)), .int .i64 (wrap64 (wrap64 (wrap64 (bc * ae) + wrap64 (bd * af)) + bf))] 41 + (blk (w.heap.size + 1) #[.int .i64 ba, .int .i64 bb, .int .i64 bc, .int .i64 bd, .int .i64 be, .int .i64 bf] 41 + (blk w.heap.size #[.int .i64 aa, .int .i64 ab, .int .i64 ac, .int .i64 ad, .int .i64 ae, .int .i64 af] 41 + MS.all w))) from j1); have E6 := hid (HE.out.trans j2); clear j1 j2)
  have q0 : w6.cell? ⟨w.heap.size + 1 + 1, 0, none⟩ = some (.int .i64 (wrap64 (wrap64 (ba * aa) + wrap64 (bb * ac)))) := K6.out.at_ rfl
  have q1 : w6.cell? ⟨w.heap.size + 1 + 1, 1, none⟩ = some (.int .i64 (wrap64 (wrap64 (ba * ab) + wrap64 (bb * ad)))) := K6.out.at_ rfl
  have q2 : w6.cell? ⟨w.heap.size + 1 + 1, 2, none⟩ = some (.int .i64 (wrap64 (wrap64 (bc * aa) + wrap64 (bd * ac)))) := K6.out.at_ rfl
  have q3 : w6.cell? ⟨w.heap.size + 1 + 1, 3, none⟩ = some (.int .i64 (wrap64 (wrap64 (bc * ab) + wrap64 (bd * ad)))) := K6.out.at_ rfl
  have q4 : w6.cell? ⟨w.heap.size + 1 + 1, 4, none⟩ = some (.int .i64 (wrap64 (wrap64 (wrap64 (ba * ae) + wrap64 (bb * af)) + be))) := K6.out.at_ rfl
  have q5 : w6.cell? ⟨w.heap.size + 1 + 1, 5, none⟩ = some (.int .i64 (wrap64 (wrap64 (wrap64 (bc * ae) + wrap64 (bd * af)) + bf))) := K6.out.at_ rfl
  exact bodyPost_ret (v := .agg #[.int .i64 (wrap64 (wrap64 (ba * aa) + wrap64 (bb * ac))), .int .i64 (wrap64 (wrap64 (ba * ab) + wrap64 (bb * ad))), .int .i64 (wrap64 (wrap64 (bc * aa) + wrap64 (bd * ac))), .int .i64 (wrap64 (wrap64 (bc * ab) + wrap64 (bd * ad))), .int .i64 (wrap64 (wrap64 (wrap64 (ba * ae) + wrap64 (bb * af)) + be)), .int .i64 (wrap64 (wrap64 (wrap64 (bc * ae) + wrap64 (bd * af)) + bf))]) (by simp [results, Tryd.results26, go_sem, q0, q1, q2, q3, q4, q5]) rfl
    ⟨by rfl, fun M hM => hM.of_all (X := blk (w.heap.size + 1 + 1) #[.int .i64 (wrap64 (wrap64 (ba * aa) + wrap64 (bb * ac))), .int .i64 (wrap64 (wrap64 (ba * ab) + wrap64 (bb * ad))), .int .i64 (wrap64 (wrap64 (bc * aa) + wrap64 (bd * ac))), .int .i64 (wrap64 (wrap64 (bc * ab) + wrap64 (bd * ad))), .int .i64 (wrap64 (wrap64 (wrap64 (ba * ae) + wrap64 (bb * af)) + be)), .int .i64 (wrap64 (wrap64 (wrap64 (bc * ae) + wrap64 (bd * af)) + bf))] 41 + (blk (w.heap.size + 1) #[.int .i64 ba, .int .i64 bb, .int .i64 bc, .int .i64 bd, .int .i64 be, .int .i64 bf] 41 + blk w.heap.size #[.int .i64 aa, .int .i64 ab, .int .i64 ac, .int .i64 ad, .int .i64 ae, .int .i64 af] 41)) (K6.out.eq (by ac_rfl)), E6.out⟩
end Go.Proofs.YteibbnmlmbhkpaaDoor

namespace Go.Proofs.YteibbnmlmbhkpaaDoor
open Go.RowKit
set_option linter.unusedVariables false
set_option linter.unusedSimpArgs false
set_option maxHeartbeats 2000000
set_option maxRecDepth 100000

/-- The move that undoes one, as the machine computes it. -/
def backM (m : Mv) : Mv := ⟨m.a, m.c, m.b, m.d, wrap64 (-(Mv.toX ⟨m.a, m.c, m.b, m.d, 0, 0⟩ m.e m.f)), wrap64 (-(Mv.toY ⟨m.a, m.c, m.b, m.d, 0, 0⟩ m.e m.f))⟩
theorem undone_any (m : Mv) (w : World) :
    Calls Tryd.prog 45 #[m.v] w fun e w' => e = .returned (backM m).v ∧ Kp w w' := by
  obtain ⟨aa, ab, ac, ad, ae, af⟩ := m
  have Hto := hid (fun W => to_any ⟨aa, ac, ab, ad, 0, 0⟩ ae af W)
  obtain ⟨sx, hsx⟩ : ∃ sx, sx = Mv.toX ⟨aa, ac, ab, ad, 0, 0⟩ ae af := ⟨_, rfl⟩
  obtain ⟨sy, hsy⟩ : ∃ sy, sy = Mv.toY ⟨aa, ac, ab, ad, 0, 0⟩ ae af := ⟨_, rfl⟩
  rw [← hsx, ← hsy] at Hto
  have Hb := hid (show backM ⟨aa, ab, ac, ad, ae, af⟩ = ⟨aa, ac, ab, ad, wrap64 (-sx), wrap64 (-sy)⟩ by rw [hsx, hsy]; rfl)
  clear hsx hsy
  have HA := hid (show Has (((w.alloc (.cells #[.int .i64 aa, .int .i64 ab, .int .i64 ac, .int .i64 ad, .int .i64 ae, .int .i64 af] 41)).alloc (.cells #[.int .i64 0, .int .i64 0, .int .i64 0, .int .i64 0, .int .i64 0, .int .i64 0] 41)).alloc (.cells #[.int .i64 aa, .int .i64 ac, .int .i64 ab, .int .i64 ad, .int .i64 0, .int .i64 0] 41)) (blk (w.heap.size + 1 + 1) #[.int .i64 aa, .int .i64 ac, .int .i64 ab, .int .i64 ad, .int .i64 0, .int .i64 0] 41 + (blk (w.heap.size + 1) #[.int .i64 0, .int .i64 0, .int .i64 0, .int .i64 0, .int .i64 0, .int .i64 0] 41 + (blk w.heap.size #[.int .i64 aa, .int .i64 ab, .int .i64 ac, .int .i64 ad, .int .i64 ae, .int .i64 af] 41 + MS.all w))) by
    have h1 := (Has.all w).alloc (.cells #[.int .i64 aa, .int .i64 ab, .int .i64 ac, .int .i64 ad, .int .i64 ae, .int .i64 af] 41)
    have h2 := h1.alloc (.cells #[.int .i64 0, .int .i64 0, .int .i64 0, .int .i64 0, .int .i64 0, .int .i64 0] 41)
    rw [show (w.alloc (.cells #[.int .i64 aa, .int .i64 ab, .int .i64 ac, .int .i64 ad, .int .i64 ae, .int .i64 af] 41)).heap.size = w.heap.size + 1 by simp] at h2
    have h3 := h2.alloc (.cells #[.int .i64 aa, .int .i64 ac, .int .i64 ab, .int .i64 ad, .int .i64 0, .int .i64 0] 41)
    rw [show ((w.alloc (.cells #[.int .i64 aa, .int .i64 ab, .int .i64 ac, .int .i64 ad, .int .i64 ae, .int .i64 af] 41)).alloc (.cells #[.int .i64 0, .int .i64 0, .int .i64 0, .int .i64 0, .int .i64 0, .int .i64 0] 41)).heap.size = w.heap.size + 1 + 1 by simp] at h3
    exact h3)
  have HE := hid (show Ext w (((w.alloc (.cells #[.int .i64 aa, .int .i64 ab, .int .i64 ac, .int .i64 ad, .int .i64 ae, .int .i64 af] 41)).alloc (.cells #[.int .i64 0, .int .i64 0, .int .i64 0, .int .i64 0, .int .i64 0, .int .i64 0] 41)).alloc (.cells #[.int .i64 aa, .int .i64 ac, .int .i64 ab, .int .i64 ad, .int .i64 0, .int .i64 0] 41)) from ((Ext.alloc _ _).trans (Ext.alloc _ _)).trans (Ext.alloc _ _))
  show Calls Tryd.prog 45 #[.agg #[.int .i64 aa, .int .i64 ab, .int .i64 ac, .int .i64 ad, .int .i64 ae, .int .i64 af]] w _
  have a4 : (((w.alloc (.cells #[.int .i64 aa, .int .i64 ab, .int .i64 ac, .int .i64 ad, .int .i64 ae, .int .i64 af] 41)).alloc (.cells #[.int .i64 0, .int .i64 0, .int .i64 0, .int .i64 0, .int .i64 0, .int .i64 0] 41)).alloc (.cells #[.int .i64 aa, .int .i64 ac, .int .i64 ab, .int .i64 ad, .int .i64 0, .int .i64 0] 41)).cell? ⟨w.heap.size, 4, none⟩ = some (.int .i64 ae) := HA.out.right.right.at_ rfl
  have a5 : (((w.alloc (.cells #[.int .i64 aa, .int .i64 ab, .int .i64 ac, .int .i64 ad, .int .i64 ae, .int .i64 af] 41)).alloc (.cells #[.int .i64 0, .int .i64 0, .int .i64 0, .int .i64 0, .int .i64 0, .int .i64 0] 41)).alloc (.cells #[.int .i64 aa, .int .i64 ac, .int .i64 ab, .int .i64 ad, .int .i64 0, .int .i64 0] 41)).cell? ⟨w.heap.size, 5, none⟩ = some (.int .i64 af) := HA.out.right.right.at_ rfl
  go_enter Tryd.func45, Tryd.ntmps45
  go_wp2_with (first
    | (go_at_call 42; refine (Hto.out _).mono ?_; rintro e1 w1 ⟨rfl, k1⟩; have K1 := hid (k1.1 _ HA.out); have E1 := hid (HE.out.trans k1.2); clear k1 a4 a5)
    | (refine wpList_store_blk rfl (.tmp 28) (.tmp 25) 3 rfl size3 (w.heap.size + 1 + 1) 4 (.int .i64 (wrap64 (-sx))) rfl rfl rfl #[.int .i64 aa, .int .i64 ac, .int .i64 ab, .int .i64 ad, .int .i64 0, .int .i64 0] 41 _ K1.out (by simp) ?_; intro w2 j1 j2; have K2 := hid (show Has w2 (blk (w.heap.size + 1 + 1) #[.int .i64 aa, .int .i64 ac, .int .i64 ab, .int .i64 ad, .int .i64 (wrap64 (-sx)), .int .i64 0] 41 + (blk (w.heap.size + 1) #[.int .i64 0, .int .i64 0, .int .i64 0, .int .i64 0, .int .i64 0, .int .i64 0] 41 + (blk w.heap.size #[.int .i64 aa, .int .i64 ab, .int .i64 ac, .int .i64 ad, .int .i64 ae, .int .i64 af] 41 + MS.all w))) from j1); have E2 := hid (E1.out.trans j2); clear j1 j2)
    | (refine wpList_store_blk rfl (.tmp 29) (.tmp 27) 3 rfl size3 (w.heap.size + 1 + 1) 5 (.int .i64 (wrap64 (-sy))) rfl rfl rfl #[.int .i64 aa, .int .i64 ac, .int .i64 ab, .int .i64 ad, .int .i64 (wrap64 (-sx)), .int .i64 0] 41 _ K2.out (by simp) ?_; intro w3 j1 j2; have K3 := hid (show Has w3 (blk (w.heap.size + 1 + 1) #[.int .i64 aa, .int .i64 ac, .int .i64 ab, .int .i64 ad, .int .i64 (wrap64 (-sx)), .int .i64 (wrap64 (-sy))] 41 + (blk (w.heap.size + 1) #[.int .i64 0, .int .i64 0, .int .i64 0, .int .i64 0, .int .i64 0, .int .i64 0] 41 + (blk w.heap.size #[.int .i64 aa, .int .i64 ab, .int .i64 ac, .int .i64 ad, .int .i64 ae, .int .i64 af] 41 + MS.all w))) from j1); have E3 := hid (E2.out.trans j2); clear j1 j2; have n0 : w3.cell? ⟨(w.heap.size + 1 + 1), 0, none⟩ = some (.int .i64 aa) := K3.out.at_ rfl; have n1 : w3.cell? ⟨(w.heap.size + 1 + 1), 1, none⟩ = some (.int .i64 ac) := K3.out.at_ rfl; have n2 : w3.cell? ⟨(w.heap.size + 1 + 1), 2, none⟩ = some (.int .i64 ab) := K3.out.at_ rfl; have n3 : w3.cell? ⟨(w.heap.size + 1 + 1), 3, none⟩ = some (.int .i64 ad) := K3.out.at_ rfl; have n4 : w3.cell? ⟨(w.heap.size + 1 + 1), 4, none⟩ = some (.int .i64 (wrap64 (-sx))) := K3.out.at_ rfl; have n5 : w3.cell? ⟨(w.heap.size + 1 + 1), 5, none⟩ = some (.int .i64 (wrap64 (-sy))) := K3.out.at_ rfl)
    | (refine wpList_store_whole rfl (.tmp 2) (.tmp 30) 41 rfl 6 size41 (w.heap.size + 1) (.agg #[.int .i64 aa, .int .i64 ac, .int .i64 ab, .int .i64 ad, .int .i64 (wrap64 (-sx)), .int .i64 (wrap64 (-sy))]) rfl rfl rfl (by simp [Value.cells, Value.oneCell']) #[.int .i64 0, .int .i64 0, .int .i64 0, .int .i64 0, .int .i64 0, .int .i64 0] 41 (blk (w.heap.size + 1 + 1) #[.int .i64 aa, .int .i64 ac, .int .i64 ab, .int .i64 ad, .int .i64 (wrap64 (-sx)), .int .i64 (wrap64 (-sy))] 41 + (blk w.heap.size #[.int .i64 aa, .int .i64 ab, .int .i64 ac, .int .i64 ad, .int .i64 ae, .int .i64 af] 41 + MS.all w)) (K3.out.eq (by ac_rfl)) rfl ?_; intro w6 j1 j2; have K6 := hid (show Has w6 (blk (w.heap.size + 1) #[.int .i64 aa, .int .i64 ac, .int .i64 ab, .int .i64 ad, .int .i64 (wrap64 (-sx)), .int .i64 (wrap64 (-sy))] 41 + (blk (w.heap.size + 1 + 1) #[.int .i64 aa, .int .i64 ac, .int .i64 ab, .int .i64 ad, .int .i64 (wrap64 (-sx)), .int .i64 (wrap64 (-sy))] 41 + (blk w.heap.size #[.int .i64 aa, .int .i64 ab, .int .i64 ac, .int .i64 ad, .int .i64 ae, .int .i64 af] 41 + MS.all w))) from j1); have E6 := hid (E3.out.trans j2); clear j1 j2))
  have q0 : w6.cell? ⟨w.heap.size + 1, 0, none⟩ = some (.int .i64 aa) := K6.out.at_ rfl
  have q1 : w6.cell? ⟨w.heap.size + 1, 1, none⟩ = some (.int .i64 ac) := K6.out.at_ rfl
  have q2 : w6.cell? ⟨w.heap.size + 1, 2, none⟩ = some (.int .i64 ab) := K6.out.at_ rfl
  have q3 : w6.cell? ⟨w.heap.size + 1, 3, none⟩ = some (.int .i64 ad) := K6.out.at_ rfl
  have q4 : w6.cell? ⟨w.heap.size + 1, 4, none⟩ = some (.int .i64 (wrap64 (-sx))) := K6.out.at_ rfl
  have q5 : w6.cell? ⟨w.heap.size + 1, 5, none⟩ = some (.int .i64 (wrap64 (-sy))) := K6.out.at_ rfl
  exact bodyPost_ret (v := .agg #[.int .i64 aa, .int .i64 ac, .int .i64 ab, .int .i64 ad, .int .i64 (wrap64 (-sx)), .int .i64 (wrap64 (-sy))]) (by simp [results, Tryd.results45, go_sem, q0, q1, q2, q3, q4, q5]) rfl
    ⟨by rw [Hb.out]; rfl, fun M hM => hM.of_all (X := blk (w.heap.size + 1) #[.int .i64 aa, .int .i64 ac, .int .i64 ab, .int .i64 ad, .int .i64 (wrap64 (-sx)), .int .i64 (wrap64 (-sy))] 41 + (blk (w.heap.size + 1 + 1) #[.int .i64 aa, .int .i64 ac, .int .i64 ab, .int .i64 ad, .int .i64 (wrap64 (-sx)), .int .i64 (wrap64 (-sy))] 41 + blk w.heap.size #[.int .i64 aa, .int .i64 ab, .int .i64 ac, .int .i64 ad, .int .i64 ae, .int .i64 af] 41)) (K6.out.eq (by ac_rfl)), E6.out⟩
end Go.Proofs.YteibbnmlmbhkpaaDoor

namespace Go.Proofs.YteibbnmlmbhkpaaDoor
open Go.RowKit
set_option linter.unusedVariables false
set_option linter.unusedSimpArgs false
set_option maxRecDepth 100000

def col8 (p : List ByteArray) (x y : Int) : UInt8 := (p.getD (y % p.length).toNat empty).data.getD (x % wd p).toNat 0
theorem col_col8 (p : List ByteArray) (x y : Int) : col p x y = (col8 p x y).toNat := rfl
/-- Where the cell was that a move takes to a cell. -/
def unX (m : Mv) (x y : Int) : Int := m.a * (x - m.e) + m.c * (y - m.f)
def unY (m : Mv) (x y : Int) : Int := m.b * (x - m.e) + m.d * (y - m.f)
def apW (p : List ByteArray) (m : Mv) : Nat := if m.a = 0 then p.length else wd p
def apH (p : List ByteArray) (m : Mv) : Nat := if m.a = 0 then wd p else p.length
def apRow (p : List ByteArray) (m : Mv) (y n : Nat) : List UInt8 := (List.range n).map fun (x : Nat) => col8 p (unX m x y) (unY m x y)
def apS (p : List ByteArray) (m : Mv) (y : Nat) : ByteArray := ⟨(apRow p m y (apW p m)).toArray⟩
def apL (p : List ByteArray) (m : Mv) (n : Nat) : List ByteArray := (List.range n).map (apS p m)
theorem apRow_succ (p : List ByteArray) (m : Mv) (y n : Nat) : apRow p m y (n + 1) = apRow p m y n ++ [col8 p (unX m n y) (unY m n y)] := by
  unfold apRow; rw [List.range_succ, List.map_append]; rfl
theorem apRow_len (p : List ByteArray) (m : Mv) (y n : Nat) : (apRow p m y n).length = n := by simp [apRow]
theorem apL_succ (p : List ByteArray) (m : Mv) (n : Nat) : apL p m (n + 1) = apL p m n ++ [apS p m n] := by
  unfold apL; rw [List.range_succ, List.map_append]; rfl
theorem apL_len (p : List ByteArray) (m : Mv) (n : Nat) : (apL p m n).length = n := by simp [apL]
theorem apWH {p : List ByteArray} (hp : PatOk p) (m : Mv) : (1 ≤ apW p m ∧ apW p m ≤ 6) ∧ (1 ≤ apH p m ∧ apH p m ≤ 6) := by
  have := hp.h1; have := hp.h6; have := hp.w1; have := hp.w6
  unfold apW apH
  split <;> omega
/-- May a move be applied? -/
def apOk (p : List ByteArray) (m : Mv) : Bool := isPat p && decide (0 ≤ kindOf m ∧ (-1000 ≤ m.e ∧ m.e ≤ 1000) ∧ (-1000 ≤ m.f ∧ m.f ≤ 1000))
theorem kindOf_kn {m : Mv} (h : 0 ≤ kindOf m) : ∃ k : Nat, k < 8 ∧ m = knd k m.e m.f := by
  unfold kindOf kindIx at h
  split at h
  · rename_i i hi
    rw [List.findIdx?_eq_some_iff_getElem] at hi
    obtain ⟨hl, h1, _⟩ := hi
    have hl8 : i < 8 := by simpa [kinds] using hl
    rw [decide_eq_true_eq] at h1
    refine ⟨i, hl8, ?_⟩
    have h2 := kinds_at i hl8
    rw [List.getElem?_eq_getElem hl] at h2
    injection h2 with h2
    rw [h2] at h1
    obtain ⟨a, b, c, d, e, f⟩ := m
    have h3 : knd i 0 0 = ⟨a, b, c, d, 0, 0⟩ := h1
    show (⟨a, b, c, d, e, f⟩ : Mv) = { knd i 0 0 with e := e, f := f }
    rw [h3]
  · omega
theorem kindOf_small {m : Mv} (h : 0 ≤ kindOf m) : SmallM m := by
  obtain ⟨k, hk, he⟩ := kindOf_kn h
  have := (okM_knd hk (e := 0) (f := 0) (by omega) (by omega)).1
  rw [he]
  exact this
theorem back_to {m : Mv} (hm : SmallM m) (he : -1000 ≤ m.e ∧ m.e ≤ 1000) (hf : -1000 ≤ m.f ∧ m.f ≤ 1000) {x y : Int} (hx : 0 ≤ x ∧ x ≤ 100) (hy : 0 ≤ y ∧ y ≤ 100) : (backM m).toX x y = unX m x y ∧ (backM m).toY x y = unY m x y := by
  obtain ⟨a, b, c, d, e, f⟩ := m
  obtain ⟨ha, hb, hc, hd⟩ := hm
  simp only at ha hb hc hd he hf
  have h3 : ∀ z : Int, -1 ≤ z ∧ z ≤ 1 → z = -1 ∨ z = 0 ∨ z = 1 := fun z hz => by omega
  constructor
  · show wrap64 (wrap64 (wrap64 (a * x) + wrap64 (c * y)) + wrap64 (-(wrap64 (wrap64 (wrap64 (a * e) + wrap64 (c * f)) + 0)))) = a * (x - e) + c * (y - f)
    rcases h3 a ha with rfl | rfl | rfl <;> rcases h3 c hc with rfl | rfl | rfl <;> unfold wrap64 <;> omega
  · show wrap64 (wrap64 (wrap64 (b * x) + wrap64 (d * y)) + wrap64 (-(wrap64 (wrap64 (wrap64 (b * e) + wrap64 (d * f)) + 0)))) = b * (x - e) + d * (y - f)
    rcases h3 b hb with rfl | rfl | rfl <;> rcases h3 d hd with rfl | rfl | rfl <;> unfold wrap64 <;> omega

/-! ### Below -/
theorem Has.keepB {w w' : World} {M : MS} {B : Nat} (h : Has w M) (hs : w.heap.size ≤ B) (hb : Below B w w') : Has w' M := fun i => by
  obtain ⟨h1, h2, h3⟩ := h i
  refine ⟨h1, fun hi => Nat.lt_of_lt_of_le (h2 hi) hb.size, fun o ho => ?_⟩
  have h4 := h3 o ho
  have hi : i < w.heap.size := (Array.getElem?_eq_some_iff.1 h4).1
  rw [hb.block i (by omega), h4]
theorem Below.ext {B : Nat} {w w' : World} (h : Below B w w') : Ext w w' := ⟨h.os, h.tape, h.output, h.size⟩
theorem Kp.blk {w w' : World} (h : Kp w w') {i : Nat} {o : Obj} (ho : w.heap[i]? = some o) : w'.heap[i]? = some o := (h.1 _ (Has.all w) i).2.2 o (.inl ho)
theorem Kp.below {w w' : World} (h : Kp w w') (B : Nat) (hB : B ≤ w.heap.size) : Below B w w' :=
  ⟨h.2.os, h.2.tape, h.2.output, h.2.size, fun k hk => by
    obtain ⟨o, ho⟩ : ∃ o, w.heap[k]? = some o := ⟨w.heap[k]'(by omega), by simp [show k < w.heap.size by omega]⟩
    rw [ho, h.blk ho]⟩
theorem bat_kp {w w' : World} {T e : TypeId} {B b : Nat} {p : Value} {bs : List Value} (k : Kp w w') (h : Lib.BuilderAt T e B b p bs w) : Lib.BuilderAt T e B b p bs w' := by
  obtain ⟨h1, v, h2, ⟨h3, h4⟩, h5⟩ := h
  refine ⟨h1, v, k.blk h2, ⟨h3, ?_⟩, h5⟩
  rcases h4 with h4 | ⟨g, cap, cur, r1, r2, r3, r4⟩
  · exact .inl h4
  · exact .inr ⟨g, cap, cur, r1, r2, k.blk r3, r4⟩
theorem isb_kp {w w' : World} {T e : TypeId} {B b : Nat} {bs : List Value} (k : Kp w w') (h : Lib.IsBuilder T e B b bs w) : Lib.IsBuilder T e B b bs w' := h.elim (fun h => .inl (bat_kp k h)) (fun h => .inr (bat_kp k h))
theorem isb_new (w : World) : Lib.IsBuilder 83 5 w.heap.size w.heap.size [] (w.alloc (.cells #[.pointer none, .slice none 0 0] 83)) :=
  .inl ⟨Nat.le_refl _, .slice none 0 0, heap_alloc_new _ _, ⟨by simp, .inl ⟨rfl, rfl⟩⟩, by simp [Value.ownBlock]⟩
theorem below_alloc (w : World) (o : Obj) : Below w.heap.size w (w.alloc o) := (show Kp w (w.alloc o) from ⟨fun M hM => hM.of_all ((Has.all w).alloc o), Ext.alloc _ _⟩).below _ (Nat.le_refl _)
end Go.Proofs.YteibbnmlmbhkpaaDoor

namespace Go.Proofs.YteibbnmlmbhkpaaDoor
open Go.RowKit
set_option linter.unusedVariables false
set_option linter.unusedSimpArgs false
set_option maxHeartbeats 2000000
set_option maxRecDepth 100000

theorem size83 : (Tryd.prog.info? 83).map (·.size) = some 2 := by kernel_rfl
theorem row22 : RowTy Tryd.prog 22 9 (.string ⟨#[]⟩) 1 16 := ⟨Tryd.underlying22, by kernel_rfl, rfl⟩
theorem StrR.one : ∀ a cs m, StrR a cs m → ∀ u ∈ cs, u.oneCell' = true := fun a cs m h u hu => by
  rw [h.1] at hu; simp at hu; rw [hu]; rfl
theorem StrR.len : ∀ a cs m, StrR a cs m → cs.length = 1 := fun a cs m h => by rw [h.1]; rfl
/-- What Apply hands back. -/
def ApRes (p : List ByteArray) (m : Mv) (w : World) (e : Ending) (w' : World) : Prop :=
  ∃ A' c' l er X, e = .returned (.tuple #[.slice A' l.length c', .int .i64 er]) ∧ Kp w w' ∧ Has w' X ∧ RdS X RT.str l (.slice A' l.length c') ∧ (apOk p m = true → l = apL p m (apH p m) ∧ er = 0) ∧ (apOk p m = false → l = [] ∧ er = 2)
theorem ApRes.no {p : List ByteArray} {m : Mv} {w w' : World} (h : apOk p m = false) (k : Kp w w') : ApRes p m w (.returned (.tuple #[.slice none 0 0, .int .i64 2])) w' :=
  ⟨none, 0, [], 2, MS.all w', rfl, k, Has.all _, RdS.nil _ _, fun h' => (by rw [h] at h'; cases h'), fun _ => ⟨rfl, rfl⟩⟩
theorem apply_any {F : MS} {p : List ByteArray} {A : Option Addr} {c : Nat} {w : World} (h : Giv F p A c) (hk : KinOk F) (hH : Has w F) (m : Mv) :
    Calls Tryd.prog 24 #[.slice A p.length c, m.v] w (ApRes p m w) := by
  have Hkind := hid (fun (W : World) (hW : Has W F) => kind_any hk m W hW)
  have Hund := hid (fun W => undone_any m W)
  obtain ⟨kk, hkk⟩ : ∃ kk, kk = kindOf m := ⟨_, rfl⟩
  rw [← hkk] at Hkind
  have Hno := hid (show (isPat p = false ∨ kk < 0 ∨ m.e < -1000 ∨ 1000 < m.e ∨ m.f < -1000 ∨ 1000 < m.f) → apOk p m = false from fun h => by
    unfold apOk
    rcases h with h | h
    · rw [h]; rfl
    · rw [decide_eq_false (by rw [← hkk]; omega), Bool.and_false])
  have Hyes := hid (show isPat p = true → 0 ≤ kk → (-1000 ≤ m.e ∧ m.e ≤ 1000) → (-1000 ≤ m.f ∧ m.f ≤ 1000) → apOk p m = true from fun h1 h2 h3 h4 => by
    unfold apOk; rw [h1, decide_eq_true ⟨by rw [← hkk]; exact h2, h3, h4⟩]; rfl)
  have Hsm := hid (show 0 ≤ kk → SmallM m from fun h => kindOf_small (by rw [← hkk]; exact h))
  obtain ⟨a, b, cc, d, e, f⟩ := m
  simp only at Hno Hyes
  obtain ⟨bm, hbm⟩ : ∃ bm, bm = w.heap.size := ⟨_, rfl⟩
  obtain ⟨W1, hW1⟩ : ∃ W1, W1 = w.alloc (.cells #[.int .i64 a, .int .i64 b, .int .i64 cc, .int .i64 d, .int .i64 e, .int .i64 f] 41) := ⟨_, rfl⟩
  have HA := hid (show Has W1 (blk bm #[.int .i64 a, .int .i64 b, .int .i64 cc, .int .i64 d, .int .i64 e, .int .i64 f] 41 + MS.all w) by rw [hW1, hbm]; exact (Has.all w).alloc _)
  have HE := hid (show Ext w W1 by rw [hW1]; exact Ext.alloc w _)
  have HKp := hid (show ∀ W X, Has W (X + MS.all w) → Ext w W → Kp w W from fun W X h hE => ⟨fun M hM => hM.of_all h, hE⟩)
  have Hof := hid (of_any h.rd h.l h.s (hH.of_all HA.out))
  have HFW := hid (show ∀ W X, Has W (X + MS.all w) → Has W F from fun W X hW => hH.of_all hW)
  have Hcells := hid (show ∀ W, Has W (blk bm #[.int .i64 a, .int .i64 b, .int .i64 cc, .int .i64 d, .int .i64 e, .int .i64 f] 41 + MS.all w) → (W.cell? ⟨bm, 0, none⟩ = some (.int .i64 a) ∧ W.cell? ⟨bm, 1, none⟩ = some (.int .i64 b) ∧ W.cell? ⟨bm, 2, none⟩ = some (.int .i64 cc) ∧ W.cell? ⟨bm, 3, none⟩ = some (.int .i64 d) ∧ W.cell? ⟨bm, 4, none⟩ = some (.int .i64 e) ∧ W.cell? ⟨bm, 5, none⟩ = some (.int .i64 f)) from fun W h => ⟨h.at_ rfl, h.at_ rfl, h.at_ rfl, h.at_ rfl, h.at_ rfl, h.at_ rfl⟩)
  show Calls Tryd.prog 24 #[.slice A p.length c, .agg #[.int .i64 a, .int .i64 b, .int .i64 cc, .int .i64 d, .int .i64 e, .int .i64 f]] w _
  obtain ⟨mn, hmn⟩ : ∃ mn : Int, mn = min e f := ⟨_, rfl⟩
  obtain ⟨mx, hmx⟩ : ∃ mx : Int, mx = max e f := ⟨_, rfl⟩
  have mn1 : min e f = mn := hmn.symm
  have mn2 : (if e ≤ f then e else f) = mn := by rw [hmn]; omega
  have mn3 : (if f < e then f else e) = mn := by rw [hmn]; omega
  have mn4 : (if e < f then e else f) = mn := by rw [hmn]; omega
  have mx1 : max e f = mx := hmx.symm
  have mx2 : (if e ≤ f then f else e) = mx := by rw [hmx]; omega
  have mx3 : (if f < e then e else f) = mx := by rw [hmx]; omega
  have mx4 : (if e < f then f else e) = mx := by rw [hmx]; omega
  have mx5 : (if f ≤ e then e else f) = mx := by rw [hmx]; omega
  have Hmn := hid (show mn ≤ e ∧ mn ≤ f ∧ (mn = e ∨ mn = f) by rw [hmn]; omega)
  have Hmx := hid (show e ≤ mx ∧ f ≤ mx ∧ (mx = e ∨ mx = f) by rw [hmx]; omega)
  clear h hk hH hkk hmn hmx
  cases hp : isPat p with
  | false =>
    have hq := hid (Hno.out (.inl hp))
    rw [hp] at Hof
    clear hp
    go_enter Tryd.func24, Tryd.ntmps24
    go_wp2_with (go_at_call 33; rw [← hW1]; refine Hof.out.mono ?_; rintro e1 w1 ⟨r, rfl, k1, _⟩; have K1 := hid (k1.1 _ HA.out); have E1 := hid (HE.out.trans k1.2); clear k1)
    go_ret2
    exact ApRes.no hq.out (HKp.out _ _ K1.out E1.out)
  | true =>
    have Hp := hid (isPat.ok hp).1
    have Hpt := hid hp
    rw [hp] at Hof
    clear hp
    by_cases hkn : kk < 0
    · have hq := hid (Hno.out (.inr (.inl hkn)))
      go_enter Tryd.func24, Tryd.ntmps24
      go_wp2_with (first
        | (go_at_call 33; rw [← hW1, ← hbm]; clear hW1 hbm; refine Hof.out.mono ?_; rintro e1 w1 ⟨r, rfl, k1, _⟩; have K1 := hid (k1.1 _ HA.out); have E1 := hid (HE.out.trans k1.2); clear k1; obtain ⟨n0, n1, n2, n3, n4, n5⟩ := Hcells.out w1 K1.out)
        | (go_at_call 44; refine (Hkind.out _ (HFW.out _ _ K1.out)).mono ?_; rintro e2 w2 ⟨rfl, k2⟩; have K2 := hid (k2.1 _ K1.out); have E2 := hid (E1.out.trans k2.2); clear k2; obtain ⟨p0, p1, p2, p3, p4, p5⟩ := Hcells.out w2 K2.out))
      go_ret2
      exact ApRes.no hq.out (HKp.out _ _ K2.out E2.out)
    by_cases hmin : mn < -1000
    · have hq := hid (Hno.out (by have := Hmn.out; omega))
      go_enter Tryd.func24, Tryd.ntmps24
      go_wp2_with (first
        | (go_at_call 33; rw [← hW1, ← hbm]; clear hW1 hbm; refine Hof.out.mono ?_; rintro e1 w1 ⟨r, rfl, k1, _⟩; have K1 := hid (k1.1 _ HA.out); have E1 := hid (HE.out.trans k1.2); clear k1; obtain ⟨n0, n1, n2, n3, n4, n5⟩ := Hcells.out w1 K1.out)
        | (go_at_call 44; refine (Hkind.out _ (HFW.out _ _ K1.out)).mono ?_; rintro e2 w2 ⟨rfl, k2⟩; have K2 := hid (k2.1 _ K1.out); have E2 := hid (E1.out.trans k2.2); clear k2; obtain ⟨p0, p1, p2, p3, p4, p5⟩ := Hcells.out w2 K2.out))
      go_ret2
      exact ApRes.no hq.out (HKp.out _ _ K2.out E2.out)
    by_cases hmax : 1000 < mx
    · have hq := hid (Hno.out (by have := Hmx.out; omega))
      go_enter Tryd.func24, Tryd.ntmps24
      go_wp2_with (first
        | (go_at_call 33; rw [← hW1, ← hbm]; clear hW1 hbm; refine Hof.out.mono ?_; rintro e1 w1 ⟨r, rfl, k1, _⟩; have K1 := hid (k1.1 _ HA.out); have E1 := hid (HE.out.trans k1.2); clear k1; obtain ⟨n0, n1, n2, n3, n4, n5⟩ := Hcells.out w1 K1.out)
        | (go_at_call 44; refine (Hkind.out _ (HFW.out _ _ K1.out)).mono ?_; rintro e2 w2 ⟨rfl, k2⟩; have K2 := hid (k2.1 _ K1.out); have E2 := hid (E1.out.trans k2.2); clear k2; obtain ⟨p0, p1, p2, p3, p4, p5⟩ := Hcells.out w2 K2.out))
      go_ret2
      exact ApRes.no hq.out (HKp.out _ _ K2.out E2.out)
    have hoff : (-1000 ≤ e ∧ e ≤ 1000) ∧ (-1000 ≤ f ∧ f ≤ 1000) := by have := Hmn.out; have := Hmx.out; omega
    have hq := hid (Hyes.out Hpt.out (by omega) hoff.1 hoff.2)
    have Hsm' := hid (Hsm.out (by omega))
    have Hback := hid (fun (x y : Int) hx hy => back_to (m := ⟨a, b, cc, d, e, f⟩) Hsm'.out hoff.1 hoff.2 (x := x) (y := y) hx hy)
    obtain ⟨bk, hbk⟩ : ∃ bk, bk = backM ⟨a, b, cc, d, e, f⟩ := ⟨_, rfl⟩
    rw [← hbk] at Hund Hback
    clear hbk hoff
    obtain ⟨ba, bb, bc, bd, be, bf⟩ := bk
    have Hund2 := hid (show ∀ W, Calls Tryd.prog 45 #[.agg #[.int .i64 a, .int .i64 b, .int .i64 cc, .int .i64 d, .int .i64 e, .int .i64 f]] W fun e w' => e = .returned (.agg #[.int .i64 ba, .int .i64 bb, .int .i64 bc, .int .i64 bd, .int .i64 be, .int .i64 bf]) ∧ Kp W w' from Hund.out)
    obtain ⟨wp, hwp⟩ : ∃ wp, wp = apW p ⟨a, b, cc, d, e, f⟩ := ⟨_, rfl⟩
    obtain ⟨hp', hhp⟩ : ∃ hh, hh = apH p ⟨a, b, cc, d, e, f⟩ := ⟨_, rfl⟩
    have Hwp := hid hwp
    have Hhp := hid hhp
    have Hwh := hid (show (1 ≤ wp ∧ wp ≤ 6) ∧ (1 ≤ hp' ∧ hp' ≤ 6) by rw [hwp, hhp]; exact apWH Hp.out _)
    clear hwp hhp
    go_enter Tryd.func24, Tryd.ntmps24
    go_wp2_with (first
      | (go_at_call 33; rw [← hW1, ← hbm]; clear hW1 hbm; refine Hof.out.mono ?_; rintro e1 w1 ⟨r, rfl, k1, kf⟩; obtain ⟨fb, X, rfl, kX, kF⟩ := kf rfl; have KX := hid kX; have KF := hid kF; have K1 := hid (k1.1 _ HA.out); have E1 := hid (HE.out.trans k1.2); clear k1 kf kX kF; obtain ⟨n0, n1, n2, n3, n4, n5⟩ := Hcells.out w1 K1.out)
      | (go_at_call 44; refine (Hkind.out _ (HFW.out _ _ K1.out)).mono ?_; rintro e2 w2 ⟨rfl, k2⟩; have K2 := hid (k2.1 _ K1.out); have E2 := hid (E1.out.trans k2.2); have KX2 := hid (k2.1 _ KX.out); clear k2; obtain ⟨p0, p1, p2, p3, p4, p5⟩ := Hcells.out w2 K2.out))
    obtain ⟨Af, cf, fe0, fe1, fe2, fer⟩ := KF.out
    have f0 := fe0.c0 KX2.out
    have f1 := fe1.c0 KX2.out
    clear fe0 fe1 fe2 fer n0 n1 n2 n3 n4 n5
    go_quiet (fail)
    go_simp
    generalize hwd : w2.drewN _ = wd
    have K3 := hid (show Has wd (blk bm #[.int .i64 a, .int .i64 b, .int .i64 cc, .int .i64 d, .int .i64 e, .int .i64 f] 41 + MS.all w) by rw [← hwd]; exact K2.out.drewN _)
    have E3 := hid (show Ext w wd by rw [← hwd]; exact E2.out.trans (Ext.drewN _ _))
    have KX3 := hid (show Has wd X by rw [← hwd]; exact KX2.out.drewN _)
    clear hwd p0 p1 p2 p3 p4 p5 f0 f1
    obtain ⟨n0, n1, n2, n3, n4, n5⟩ := Hcells.out wd K3.out
    have hcase := Decidable.em (a = 0)
    rcases hcase with ha | ha
    · have hab : (a == 0) = true := by rw [ha]; rfl
      have hw1 : p.length = wp := by rw [Hwp.out]; unfold apW; rw [if_pos ha]
      have hh1 : YteibbnmlmbhkpaaDoor.wd p = hp' := by rw [Hhp.out]; unfold apH; rw [if_pos ha]
      have Hw1 := hid hw1
      have Hh1 := hid hh1
      clear hw1 hh1 ha
      go_wp2_with (go_at_call 45; refine (Hund2.out _).mono ?_; rintro e4 w4 ⟨rfl, k4⟩; have K4 := hid (k4.1 _ K3.out); have E4 := hid (E3.out.trans k4.2); have KX4 := hid (k4.1 _ KX3.out); clear k4)
      rw [Hw1.out, Hh1.out]
      clear n0 n1 n2 n3 n4 n5 K3 E3 KX3 K2 E2 KX2 K1 E1 KX
      have HB := hid (show Has (w4.alloc (.cells #[.int .i64 ba, .int .i64 bb, .int .i64 bc, .int .i64 bd, .int .i64 be, .int .i64 bf] 41)) (blk w4.heap.size #[.int .i64 ba, .int .i64 bb, .int .i64 bc, .int .i64 bd, .int .i64 be, .int .i64 bf] 41 + MS.all w4) from (Has.all w4).alloc _)
      have E5 := hid (E4.out.trans (Ext.alloc w4 (.cells #[.int .i64 ba, .int .i64 bb, .int .i64 bc, .int .i64 bd, .int .i64 be, .int .i64 bf] 41)))
      have KX5 := hid (KX4.out.of_all HB.out)
      have K5 := hid (show Kp w (w4.alloc (.cells #[.int .i64 ba, .int .i64 bb, .int .i64 bc, .int .i64 bd, .int .i64 be, .int .i64 bf] 41)) from (HKp.out _ _ K4.out E4.out).trans ⟨fun M hM => hM.of_all HB.out, Ext.alloc _ _⟩)
      generalize w4.heap.size = bkb at *
      generalize w4.alloc _ = w5 at *
      have HG := hid (Has.all w5)
      have HGB := hid (show ∀ W X, Has W (X + MS.all w5) → (W.cell? ⟨bkb, 0, none⟩ = some (.int .i64 ba) ∧ W.cell? ⟨bkb, 1, none⟩ = some (.int .i64 bb) ∧ W.cell? ⟨bkb, 2, none⟩ = some (.int .i64 bc) ∧ W.cell? ⟨bkb, 3, none⟩ = some (.int .i64 bd) ∧ W.cell? ⟨bkb, 4, none⟩ = some (.int .i64 be) ∧ W.cell? ⟨bkb, 5, none⟩ = some (.int .i64 bf)) from fun W X hW => by
        have h := HB.out.of_all hW
        exact ⟨h.at_ rfl, h.at_ rfl, h.at_ rfl, h.at_ rfl, h.at_ rfl, h.at_ rfl⟩)
      have HGX := hid (show ∀ W Y, Has W (Y + MS.all w5) → Has W X from fun W Y hW => KX5.out.of_all hW)
      have HGK := hid (show ∀ W Y, Has W (Y + MS.all w5) → Ext w5 W → Kp w W from fun W Y hW hE => K5.out.trans ⟨fun M hM => hM.of_all hW, hE⟩)
      have EG := hid (Ext.refl w5)
      generalize MS.all w5 = G at *
      have hhI : (hp' : Int) ≤ 6 := by have := Hwh.out; omega
      have hwI : (wp : Int) ≤ 6 := by have := Hwh.out; omega
      clear HB E5 KX5 K5 KX4 K4 E4
      go_loopw [11, 59] (fun vo v wr => ∃ y : Nat, ∃ B dd ms, y ≤ hp' ∧ v = .int .i64 y ∧ vo = .slice B y dd ∧ SlR 9 1 StrR (apL p ⟨a, b, cc, d, e, f⟩ y) (.slice B y dd) ms ∧ Has wr (ms + G) ∧ Ext w5 wr) (fun _ v _ => hp' - (intOf v).toNat)
      case atStart => exact ⟨0, none, 0, 0, Nat.zero_le _, rfl, rfl, ⟨[], 0, 0, Sl.nil _ _, RowsR.nil, by rw [MS.zero_add]⟩, HG.out.eq (by rw [MS.zero_add]), EG.out⟩
      case round =>
        obtain ⟨y, B, dd, ms, hy, rfl, rfl, hS, hW, hE⟩ := hrel
        have HS := hid hS
        have HW := hid hW
        have HE' := hid hE
        clear hS hW hE HG EG
        by_cases hlt : y < hp'
        · have hltI : (y : Int) < hp' := by omega
          have Hlt := hid hlt
          have HI0 := hid (isb_new wr)
          have HB0 := hid (below_alloc wr (.cells #[.pointer none, .slice none 0 0] 83))
          clear hlt hy
          go_wp2
          obtain ⟨b8, hb8⟩ : ∃ b8, b8 = wr.heap.size := ⟨_, rfl⟩
          rw [← hb8] at HI0 HB0 ⊢
          have Hb8 := hid hb8
          clear hb8
          have HKB := hid (show ∀ W, Below b8 wr W → Has W (ms + G) from fun W hb => HW.out.keepB (by rw [Hb8.out]; exact Nat.le_refl _) hb)
          go_loopw [63] (fun v wq => ∃ x : Nat, x ≤ wp ∧ v = .int .i64 x ∧ Lib.IsBuilder 83 5 b8 b8 (Lib.byteCells (apRow p ⟨a, b, cc, d, e, f⟩ y x)) wq ∧ Below b8 wr wq) (fun v _ => wp - (intOf v).toNat)
          case atStart => exact ⟨0, Nat.zero_le _, rfl, HI0.out, HB0.out⟩
          case round =>
            rename_i wo _ _
            obtain ⟨x, hx, rfl, hI, hB⟩ := hrel
            have HI := hid hI
            have HBl := hid hB
            have HWq := hid (HKB.out wr hB)
            have Hsz := hid (show b8 ≤ wr.heap.size by rw [Hb8.out]; exact hB.size)
            clear hI hB HI0 HB0
            by_cases hlx : x < wp
            · have hlxI : (x : Int) < wp := by omega
              have Hlx := hid hlx
              obtain ⟨n0, n1, n2, n3, n4, n5⟩ := HGB.out wr _ HWq.out
              obtain ⟨u, hu⟩ : ∃ u, u = unX ⟨a, b, cc, d, e, f⟩ x y := ⟨_, rfl⟩
              obtain ⟨v, hv⟩ : ∃ v, v = unY ⟨a, b, cc, d, e, f⟩ x y := ⟨_, rfl⟩
              have Hto := hid (fun W => to_any ⟨ba, bb, bc, bd, be, bf⟩ x y W)
              have hbt := Hback.out x y (by omega) (by have := Hlt.out; omega)
              rw [hbt.1, hbt.2, ← hu, ← hv] at Hto
              have Hcol := hid (fun (W : World) (hW : Has W X) => colour_any KF.out Hp.out hW u v)
              have Hc8 := hid (show col p u v = ((col8 p (unX ⟨a, b, cc, d, e, f⟩ x y) (unY ⟨a, b, cc, d, e, f⟩ x y)).toNat : Int) by rw [hu, hv]; rfl)
              obtain ⟨cl, hcl⟩ : ∃ cl, cl = col p u v := ⟨_, rfl⟩
              rw [← hcl] at Hcol Hc8
              have Hlen := hid (show (Lib.byteCells (apRow p ⟨a, b, cc, d, e, f⟩ y x)).length + 1 ≤ 140737488355328 by simp [Lib.byteCells, apRow_len]; omega)
              clear hbt hu hv hcl hlx hx
              go_wp2_with (first
                | (go_at_call 42; refine (Hto.out _).mono ?_; rintro e6 w6 ⟨rfl, k6⟩; have K6 := hid k6; clear k6)
                | (go_at_call 47; refine (Hcol.out _ (K6.out.has (HGX.out _ _ HWq.out))).mono ?_; rintro e7 w7 ⟨rfl, q7, rfl⟩; have K7 := hid (Kp.drewN K6.out q7))
                | (go_at_call 46; refine (writeByte_any b8 b8 _ cl _ (isb_kp K7.out HI.out) Hlen.out (Nat.le_trans Hsz.out K7.out.2.size)).mono ?_; rintro e8 w8 ⟨rfl, hb8, hbl8⟩; have HI8 := hid hb8; have HB8 := hid ((HBl.out.trans (K7.out.below b8 Hsz.out)).trans hbl8); clear hb8 hbl8))
              go_roundw
              case rel => exact ⟨x + 1, Hlx.out, by go_num, .inr (by have := HI8.out; rw [apRow_succ]; rw [Hc8.out] at this; simpa [Lib.byteCells] using this), HB8.out⟩
              case measure => have := Hlx.out; simp [intOf]; omega
            · have hxe : x = wp := by omega
              subst hxe
              clear hlx hx
              obtain ⟨n, hn⟩ : ∃ n, n = y := ⟨_, rfl⟩
              have Hstr := hid (builderString_any b8 b8 (apRow p ⟨a, b, cc, d, e, f⟩ y x) wr HI.out Hsz.out)
              have HapS := hid (show (⟨(apRow p ⟨a, b, cc, d, e, f⟩ y x).toArray⟩ : ByteArray) = apS p ⟨a, b, cc, d, e, f⟩ y by unfold apS; rw [Hwp.out])
              rw [HapS.out] at Hstr
              have Hl2 := hid (apL_succ p ⟨a, b, cc, d, e, f⟩ y)
              have hyI : y ≤ 6 := by have := Hlt.out; have := Hwh.out; omega
              have HyI := hid hyI
              clear hyI hn
              go_wp2_with (first
                | (go_at_call 48; refine Hstr.out.mono ?_; rintro e8 w8 ⟨rfl, hbl8⟩; have HB8 := hid (HBl.out.trans hbl8); have HW8 := hid (HKB.out _ HB8.out); clear hbl8)
                | (at_builtin; refine wpList_push rfl (.tmp 76) (.tmp 78) row22 rfl (.slice B y dd) rfl _ rfl rfl StrR StrR.one StrR.len (apL p ⟨a, b, cc, d, e, f⟩ y) (apS p ⟨a, b, cc, d, e, f⟩ y) ms 0 G HS.out ⟨rfl, rfl⟩ (HW8.out.eq (by rw [MS.zero_add])) y (apL_len _ _ _) (by have := HyI.out; omega) (by omega) ?_; intro A9 c9 w9 m9 j4 j5 j6; have J4 := hid j4; have J5 := hid j5; have J6 := hid ((HE'.out.trans (Below.ext HB8.out)).trans j6); clear j4 j5 j6))
              go_roundw
              case rel => exact ⟨y + 1, A9, c9, m9, Hlt.out, by go_num, rfl, by rw [Hl2.out]; exact J4.out, J5.out, J6.out⟩
              case measure => have := Hlt.out; simp [intOf]; omega
        · have hye : y = hp' := by omega
          subst hye
          clear hlt hy
          go_wp2
          go_ret2
          have hl : (apL p ⟨a, b, cc, d, e, f⟩ y).length = y := apL_len _ _ _
          refine ⟨B, dd, apL p ⟨a, b, cc, d, e, f⟩ y, 0, ms + G, by rw [hl]; rfl, HGK.out _ _ HW.out HE'.out, HW.out, ?_, fun _ => ⟨by rw [← Hhp.out], rfl⟩, fun h => by rw [hq.out] at h; cases h⟩
          rw [hl]
          exact (SlR.rd (R := StrR) (T := RT.str) (fun a cs m h => h.1) HS.out).less _
    · have hab : (a == 0) = false := by rw [beq_eq_false_iff_ne]; exact ha
      have hw1 : YteibbnmlmbhkpaaDoor.wd p = wp := by rw [Hwp.out]; unfold apW; rw [if_neg ha]
      have hh1 : p.length = hp' := by rw [Hhp.out]; unfold apH; rw [if_neg ha]
      have Hw1 := hid hw1
      have Hh1 := hid hh1
      clear hw1 hh1 ha
      go_wp2_with (go_at_call 45; refine (Hund2.out _).mono ?_; rintro e4 w4 ⟨rfl, k4⟩; have K4 := hid (k4.1 _ K3.out); have E4 := hid (E3.out.trans k4.2); have KX4 := hid (k4.1 _ KX3.out); clear k4)
      rw [Hw1.out, Hh1.out]
      clear n0 n1 n2 n3 n4 n5 K3 E3 KX3 K2 E2 KX2 K1 E1 KX
      have HB := hid (show Has (w4.alloc (.cells #[.int .i64 ba, .int .i64 bb, .int .i64 bc, .int .i64 bd, .int .i64 be, .int .i64 bf] 41)) (blk w4.heap.size #[.int .i64 ba, .int .i64 bb, .int .i64 bc, .int .i64 bd, .int .i64 be, .int .i64 bf] 41 + MS.all w4) from (Has.all w4).alloc _)
      have E5 := hid (E4.out.trans (Ext.alloc w4 (.cells #[.int .i64 ba, .int .i64 bb, .int .i64 bc, .int .i64 bd, .int .i64 be, .int .i64 bf] 41)))
      have KX5 := hid (KX4.out.of_all HB.out)
      have K5 := hid (show Kp w (w4.alloc (.cells #[.int .i64 ba, .int .i64 bb, .int .i64 bc, .int .i64 bd, .int .i64 be, .int .i64 bf] 41)) from (HKp.out _ _ K4.out E4.out).trans ⟨fun M hM => hM.of_all HB.out, Ext.alloc _ _⟩)
      generalize w4.heap.size = bkb at *
      generalize w4.alloc _ = w5 at *
      have HG := hid (Has.all w5)
      have HGB := hid (show ∀ W X, Has W (X + MS.all w5) → (W.cell? ⟨bkb, 0, none⟩ = some (.int .i64 ba) ∧ W.cell? ⟨bkb, 1, none⟩ = some (.int .i64 bb) ∧ W.cell? ⟨bkb, 2, none⟩ = some (.int .i64 bc) ∧ W.cell? ⟨bkb, 3, none⟩ = some (.int .i64 bd) ∧ W.cell? ⟨bkb, 4, none⟩ = some (.int .i64 be) ∧ W.cell? ⟨bkb, 5, none⟩ = some (.int .i64 bf)) from fun W X hW => by
        have h := HB.out.of_all hW
        exact ⟨h.at_ rfl, h.at_ rfl, h.at_ rfl, h.at_ rfl, h.at_ rfl, h.at_ rfl⟩)
      have HGX := hid (show ∀ W Y, Has W (Y + MS.all w5) → Has W X from fun W Y hW => KX5.out.of_all hW)
      have HGK := hid (show ∀ W Y, Has W (Y + MS.all w5) → Ext w5 W → Kp w W from fun W Y hW hE => K5.out.trans ⟨fun M hM => hM.of_all hW, hE⟩)
      have EG := hid (Ext.refl w5)
      generalize MS.all w5 = G at *
      have hhI : (hp' : Int) ≤ 6 := by have := Hwh.out; omega
      have hwI : (wp : Int) ≤ 6 := by have := Hwh.out; omega
      clear HB E5 KX5 K5 KX4 K4 E4
      go_loopw [11, 59] (fun vo v wr => ∃ y : Nat, ∃ B dd ms, y ≤ hp' ∧ v = .int .i64 y ∧ vo = .slice B y dd ∧ SlR 9 1 StrR (apL p ⟨a, b, cc, d, e, f⟩ y) (.slice B y dd) ms ∧ Has wr (ms + G) ∧ Ext w5 wr) (fun _ v _ => hp' - (intOf v).toNat)
      case atStart => exact ⟨0, none, 0, 0, Nat.zero_le _, rfl, rfl, ⟨[], 0, 0, Sl.nil _ _, RowsR.nil, by rw [MS.zero_add]⟩, HG.out.eq (by rw [MS.zero_add]), EG.out⟩
      case round =>
        obtain ⟨y, B, dd, ms, hy, rfl, rfl, hS, hW, hE⟩ := hrel
        have HS := hid hS
        have HW := hid hW
        have HE' := hid hE
        clear hS hW hE HG EG
        by_cases hlt : y < hp'
        · have hltI : (y : Int) < hp' := by omega
          have Hlt := hid hlt
          have HI0 := hid (isb_new wr)
          have HB0 := hid (below_alloc wr (.cells #[.pointer none, .slice none 0 0] 83))
          clear hlt hy
          go_wp2
          obtain ⟨b8, hb8⟩ : ∃ b8, b8 = wr.heap.size := ⟨_, rfl⟩
          rw [← hb8] at HI0 HB0 ⊢
          have Hb8 := hid hb8
          clear hb8
          have HKB := hid (show ∀ W, Below b8 wr W → Has W (ms + G) from fun W hb => HW.out.keepB (by rw [Hb8.out]; exact Nat.le_refl _) hb)
          go_loopw [63] (fun v wq => ∃ x : Nat, x ≤ wp ∧ v = .int .i64 x ∧ Lib.IsBuilder 83 5 b8 b8 (Lib.byteCells (apRow p ⟨a, b, cc, d, e, f⟩ y x)) wq ∧ Below b8 wr wq) (fun v _ => wp - (intOf v).toNat)
          case atStart => exact ⟨0, Nat.zero_le _, rfl, HI0.out, HB0.out⟩
          case round =>
            rename_i wo _ _
            obtain ⟨x, hx, rfl, hI, hB⟩ := hrel
            have HI := hid hI
            have HBl := hid hB
            have HWq := hid (HKB.out wr hB)
            have Hsz := hid (show b8 ≤ wr.heap.size by rw [Hb8.out]; exact hB.size)
            clear hI hB HI0 HB0
            by_cases hlx : x < wp
            · have hlxI : (x : Int) < wp := by omega
              have Hlx := hid hlx
              obtain ⟨n0, n1, n2, n3, n4, n5⟩ := HGB.out wr _ HWq.out
              obtain ⟨u, hu⟩ : ∃ u, u = unX ⟨a, b, cc, d, e, f⟩ x y := ⟨_, rfl⟩
              obtain ⟨v, hv⟩ : ∃ v, v = unY ⟨a, b, cc, d, e, f⟩ x y := ⟨_, rfl⟩
              have Hto := hid (fun W => to_any ⟨ba, bb, bc, bd, be, bf⟩ x y W)
              have hbt := Hback.out x y (by omega) (by have := Hlt.out; omega)
              rw [hbt.1, hbt.2, ← hu, ← hv] at Hto
              have Hcol := hid (fun (W : World) (hW : Has W X) => colour_any KF.out Hp.out hW u v)
              have Hc8 := hid (show col p u v = ((col8 p (unX ⟨a, b, cc, d, e, f⟩ x y) (unY ⟨a, b, cc, d, e, f⟩ x y)).toNat : Int) by rw [hu, hv]; rfl)
              obtain ⟨cl, hcl⟩ : ∃ cl, cl = col p u v := ⟨_, rfl⟩
              rw [← hcl] at Hcol Hc8
              have Hlen := hid (show (Lib.byteCells (apRow p ⟨a, b, cc, d, e, f⟩ y x)).length + 1 ≤ 140737488355328 by simp [Lib.byteCells, apRow_len]; omega)
              clear hbt hu hv hcl hlx hx
              go_wp2_with (first
                | (go_at_call 42; refine (Hto.out _).mono ?_; rintro e6 w6 ⟨rfl, k6⟩; have K6 := hid k6; clear k6)
                | (go_at_call 47; refine (Hcol.out _ (K6.out.has (HGX.out _ _ HWq.out))).mono ?_; rintro e7 w7 ⟨rfl, q7, rfl⟩; have K7 := hid (Kp.drewN K6.out q7))
                | (go_at_call 46; refine (writeByte_any b8 b8 _ cl _ (isb_kp K7.out HI.out) Hlen.out (Nat.le_trans Hsz.out K7.out.2.size)).mono ?_; rintro e8 w8 ⟨rfl, hb8, hbl8⟩; have HI8 := hid hb8; have HB8 := hid ((HBl.out.trans (K7.out.below b8 Hsz.out)).trans hbl8); clear hb8 hbl8))
              go_roundw
              case rel => exact ⟨x + 1, Hlx.out, by go_num, .inr (by have := HI8.out; rw [apRow_succ]; rw [Hc8.out] at this; simpa [Lib.byteCells] using this), HB8.out⟩
              case measure => have := Hlx.out; simp [intOf]; omega
            · have hxe : x = wp := by omega
              subst hxe
              clear hlx hx
              obtain ⟨n, hn⟩ : ∃ n, n = y := ⟨_, rfl⟩
              have Hstr := hid (builderString_any b8 b8 (apRow p ⟨a, b, cc, d, e, f⟩ y x) wr HI.out Hsz.out)
              have HapS := hid (show (⟨(apRow p ⟨a, b, cc, d, e, f⟩ y x).toArray⟩ : ByteArray) = apS p ⟨a, b, cc, d, e, f⟩ y by unfold apS; rw [Hwp.out])
              rw [HapS.out] at Hstr
              have Hl2 := hid (apL_succ p ⟨a, b, cc, d, e, f⟩ y)
              have hyI : y ≤ 6 := by have := Hlt.out; have := Hwh.out; omega
              have HyI := hid hyI
              clear hyI hn
              go_wp2_with (first
                | (go_at_call 48; refine Hstr.out.mono ?_; rintro e8 w8 ⟨rfl, hbl8⟩; have HB8 := hid (HBl.out.trans hbl8); have HW8 := hid (HKB.out _ HB8.out); clear hbl8)
                | (at_builtin; refine wpList_push rfl (.tmp 76) (.tmp 78) row22 rfl (.slice B y dd) rfl _ rfl rfl StrR StrR.one StrR.len (apL p ⟨a, b, cc, d, e, f⟩ y) (apS p ⟨a, b, cc, d, e, f⟩ y) ms 0 G HS.out ⟨rfl, rfl⟩ (HW8.out.eq (by rw [MS.zero_add])) y (apL_len _ _ _) (by have := HyI.out; omega) (by omega) ?_; intro A9 c9 w9 m9 j4 j5 j6; have J4 := hid j4; have J5 := hid j5; have J6 := hid ((HE'.out.trans (Below.ext HB8.out)).trans j6); clear j4 j5 j6))
              go_roundw
              case rel => exact ⟨y + 1, A9, c9, m9, Hlt.out, by go_num, rfl, by rw [Hl2.out]; exact J4.out, J5.out, J6.out⟩
              case measure => have := Hlt.out; simp [intOf]; omega
        · have hye : y = hp' := by omega
          subst hye
          clear hlt hy
          go_wp2
          go_ret2
          have hl : (apL p ⟨a, b, cc, d, e, f⟩ y).length = y := apL_len _ _ _
          refine ⟨B, dd, apL p ⟨a, b, cc, d, e, f⟩ y, 0, ms + G, by rw [hl]; rfl, HGK.out _ _ HW.out HE'.out, HW.out, ?_, fun _ => ⟨by rw [← Hhp.out], rfl⟩, fun h => by rw [hq.out] at h; cases h⟩
          rw [hl]
          exact (SlR.rd (R := StrR) (T := RT.str) (fun a cs m h => h.1) HS.out).less _
end Go.Proofs.YteibbnmlmbhkpaaDoor

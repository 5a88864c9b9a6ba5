/-
  The walk of the reference's marker.
-/
import Derived.Test.YtnkgfgkgepadhaaRefRec
namespace Go.Proofs.Ytnkgfgkgepadhaa
open Go.RowKit
set_option linter.unusedVariables false
set_option linter.unusedSimpArgs false

theorem IsRef.closing {Pl : MS} {σ : Net} {b : Nat} {m : MS} (h : IsRef Pl σ b m) {i j k : Nat} {x : Shot} {r : List Bool} (hx : σ.shots[k]? = some x) (hr : x.closed[i]? = some r) (hj : j < r.length) :
    ∃ hd b4 o4 c4 cur4 b3 o3 c3 cur3 br orr cr curr R, m = blk b hd 118 + (blk b4 cur4 150 + (blk b3 cur3 69 + (blk br curr 4 + R))) ∧ hd[4]? = some (.slice (some ⟨b4, o4, none⟩) σ.shots.length c4) ∧
      cur4[o4 + k * 5 + 3]? = some (.slice (some ⟨b3, o3, none⟩) x.closed.length c3) ∧ cur3[o3 + i]? = some (.slice (some ⟨br, orr, none⟩) r.length cr) ∧ orr + j < curr.size ∧ curr[orr + j]? = some (.bool (r.getD j false)) ∧
      ∀ u, IsRef Pl { σ with shots := σ.shots.set k { x with closed := x.closed.set i (r.set j u) } } b (blk b hd 118 + (blk b4 cur4 150 + (blk b3 cur3 69 + (blk br (curr.setIfInBounds (orr + j) (.bool u)) 4 + R)))) := by
  obtain ⟨hd, b4, o4, c4, cur4, v0, v1, v2, v3, v4, m0, m1, m2, m3, m4, R, rfl, i4, ⟨e0, e1, e2, e3, e4⟩, r0, r1, r2, r3, r4, _, hput⟩ := h.shot hx
  obtain ⟨hi, hr'⟩ := List.getElem?_eq_some_iff.1 hr
  obtain ⟨b3, o3, c3, cur3, ci, n1, n2, rfl, rfl, ⟨vr, rfl, hrow, hone⟩, hcell, hput3⟩ := SlR.take El.len r3 hi
  rw [hr'] at hrow
  obtain ⟨br, orr, cr, curr, rfl, rfl, lr, hg, pr⟩ := hrow.set_at hj
  have e := hcell 0 (by omega)
  simp only [Nat.mul_one, Nat.add_zero, List.getElem?_cons_zero] at e
  refine ⟨hd, b4, o4, c4, cur4, b3, o3, c3, cur3, br, orr, cr, curr, (m0 + (m1 + (m2 + (n2 + m4)))) + R, by ac_rfl, i4, e3, e, lr, hg, fun u => ?_⟩
  have a1 := hput3 (r.set j u) [_] _ cur3 ⟨_, rfl, pr u, SlR.one (pr u)⟩ rfl (fun _ _ => rfl) (fun t ht => by
    obtain rfl : t = 0 := by omega
    simpa using e)
  have a2 := hput { x with closed := x.closed.set i (r.set j u) } _ _ _ _ _ r0 r1 r2 a1 r4
  have e : blk b hd 118 + (blk b4 cur4 150 + (blk b3 cur3 69 + (blk br (curr.setIfInBounds (orr + j) (.bool u)) 4 + ((m0 + (m1 + (m2 + (n2 + m4)))) + R)))) = blk b hd 118 + (blk b4 cur4 150 + ((m0 + (m1 + (m2 + ((blk b3 cur3 69 + (blk br (curr.setIfInBounds (orr + j) (.bool u)) 4 + n2)) + m4)))) + R)) := by ac_rfl
  rw [e]
  exact a2
theorem IsRef.rec_at {Pl : MS} {σ : Net} {b : Nat} {m : MS} (h : IsRef Pl σ b m) {j k : Nat} {x : Shot} (hx : σ.shots[k]? = some x) (hj : j < x.recorded.length) :
    ∃ b4 o4 c4 br orr cr, ∀ (W : World) (X : MS), Has W (m + X) → W.cell? ⟨b, 4, none⟩ = some (.slice (some ⟨b4, o4, none⟩) σ.shots.length c4) ∧ W.cell? ⟨b4, o4 + k * 5, none⟩ = some (.slice (some ⟨br, orr, none⟩) x.recorded.length cr) ∧ W.cell? ⟨br, orr + j, none⟩ = some (.bool (x.recorded.getD j false)) := by
  obtain ⟨hd, b4, o4, c4, cur4, v0, v1, v2, v3, v4, m0, m1, m2, m3, m4, R, rfl, i4, ⟨e0, e1, e2, e3, e4⟩, r0, r1, r2, r3, r4, _, hput⟩ := h.shot hx
  obtain ⟨br, orr, cr, curr, rfl, rfl, lr, hg, pr⟩ := r0.set_at hj
  exact ⟨b4, o4, c4, br, orr, cr, fun W X h => ⟨(h.eq (MS.add_assoc _ _ _)).at_ i4, (h.eq (b := blk b4 cur4 150 + (blk b hd 118 + ((blk br curr 4 + (m1 + (m2 + (m3 + m4)))) + R) + X)) (by ac_rfl)).at_ e0, (h.eq (b := blk br curr 4 + (blk b hd 118 + (blk b4 cur4 150 + ((m1 + (m2 + (m3 + m4))) + R)) + X)) (by ac_rfl)).at_ hg⟩⟩

set_option maxHeartbeats 2000000 in
set_option maxRecDepth 100000 in
theorem rmarker_any {F : MS} {σ : Net} {b : Nat} {m : MS} {w : World} (hok : NetOk σ) (h : IsRef F σ b m) (hH : Has w (m + F)) (i j k : Nat) (hi : i < σ.sta.length) (s : Sta) (hs : σ.sta[j]? = some s) (hck : s.events = s.clock.getD j 0) (x : Shot) (hx : σ.shots[k]? = some x) :
    Calls Try.prog 92 #[.pointer (some ⟨b, 0, none⟩), .int .i64 k, .int .i64 i, .int .i64 j] w fun e w' => e = .returned (.tuple #[]) ∧ ∃ m', IsRef F (σ.heard i j k) b m' ∧ Has w' (m' + F) ∧ Ext w w' := by
  have hj : j < σ.sta.length := (List.getElem?_eq_some_iff.1 hs).1
  have hk : k < σ.shots.length := (List.getElem?_eq_some_iff.1 hx).1
  obtain ⟨z1, z2, z3, z4, z5, z6, z7⟩ := hok.shot x (List.mem_of_getElem? hx)
  obtain ⟨r, hr⟩ : ∃ r, x.closed[i]? = some r := ⟨_, List.getElem?_eq_getElem (by omega)⟩
  have hrl := z3 r (List.mem_of_getElem? hr)
  obtain ⟨b4, o4, c4, br, orr, cr, hrec⟩ := h.rec_at hx (j := j) (by omega)
  obtain ⟨f1, f2, f3⟩ := hrec w F hH
  have hkI : (k : Int) < σ.shots.length := by omega
  have hjI : (j : Int) < x.recorded.length := by omega
  have heard : σ.heard i j k = (if x.recorded.getD j false then σ else σ.record j k).close i j k := by simp only [Net.heard, hx]
  rw [heard]
  clear heard hrec
  cases hrc : x.recorded.getD j false with
  | true =>
    rw [if_pos rfl]
    have e : σ.close i j k = { σ with shots := σ.shots.set k { x with closed := x.closed.set i (r.set j true) } } := by simp only [Net.close, hx, getD_some hr]
    rw [e]
    obtain ⟨hd, b4', o4', c4', cur4, b3, o3, c3, cur3, bq, oq, cq, curq, R, rfl, y1, y2, y3, y4, _, hput⟩ := h.closing hx hr (j := j) (by omega)
    have H0 : Has w (blk bq curq 4 + (blk b hd 118 + (blk b4' cur4 150 + (blk b3 cur3 69 + R)) + F)) := hH.eq (by ac_rfl)
    have g1 : w.cell? ⟨b, 4, none⟩ = some (.slice (some ⟨b4', o4', none⟩) σ.shots.length c4') := (hH.eq (MS.add_assoc _ _ _)).at_ y1
    rw [f1] at g1
    injection g1 with g1
    injection g1 with g1 g1' g1''
    injection g1 with g1
    injection g1 with g1 g1b
    subst g1; subst g1b
    have g2 := (hH.eq (b := blk b4 cur4 150 + (blk b hd 118 + (blk b3 cur3 69 + (blk bq curq 4 + R)) + F)) (by ac_rfl)).at_ y2
    have g3 := (hH.eq (b := blk b3 cur3 69 + (blk b hd 118 + (blk b4 cur4 150 + (blk bq curq 4 + R)) + F)) (by ac_rfl)).at_ y3
    have hiI : (i : Int) < x.closed.length := by omega
    have hjI2 : (j : Int) < r.length := by omega
    have Hput := hid (hput true)
    rw [hrc] at f3
    clear hput hok h hH z1 z2 z3 z4 z5 z6 z7 hrl hrc hx hr y1 y2 y3 hs hck e
    go_enter Try.func92, Try.ntmps92
    go_wp2_with (refine wpList_store_blk rfl (.tmp 36) (.const (.bool true)) 4 rfl size4 bq (oq + j) (.bool true) rfl rfl rfl curq 4 _ H0 y4 ?_; intro w1 H1 E1)
    go_end0
    exact ⟨rfl, _, Hput.out, H1.eq (by ac_rfl), E1⟩
  | false =>
    rw [if_neg (by simp)]
    obtain ⟨_, _, e3, _⟩ := Net.record_shot hs hx
    obtain ⟨σ2, hσ2⟩ : ∃ σ2, σ2 = σ.record j k := ⟨_, rfl⟩
    have Hc := hid (rrecords_any hok h hH j k s hs hck x hx)
    rw [← hσ2] at e3 Hc ⊢
    obtain ⟨x2, hx2, hc2⟩ : ∃ x2, σ2.shots[k]? = some x2 ∧ x2.closed = x.closed := ⟨{ x with recorded := x.recorded.set j true, pieces := x.pieces.set j s.pieces, cut := x.cut.set j s.events }, by rw [e3]; exact List.getElem?_set_self hk, rfl⟩
    rw [← hc2] at hr z2
    have hsl : σ2.shots.length = σ.shots.length := by rw [e3]; simp
    have e : σ2.close i j k = { σ2 with shots := σ2.shots.set k { x2 with closed := x2.closed.set i (r.set j true) } } := by simp only [Net.close, hx2, getD_some hr]
    rw [e]
    rw [hrc] at f3
    have hiI : (i : Int) < x2.closed.length := by omega
    have hjI2 : (j : Int) < r.length := by omega
    have hkI2 : (k : Int) < σ2.shots.length := by omega
    have Hx := hid (And.intro hx2 (And.intro hr (show j < r.length by omega)))
    clear e e3 hσ2 hsl hr hx2 hc2 z1 z2 z3 z4 z5 z6 z7 hok h hH hrl hrc hs hck hx
    go_enter Try.func92, Try.ntmps92
    go_wp2_with (first
      | (go_at_call 91; refine Hc.out.mono ?_; rintro e w2 ⟨rfl, m2, k1, k2, k3⟩
         obtain ⟨x1, x3, x4⟩ := Hx.out
         obtain ⟨hd, b5, o5, c5, cur4, b3, o3, c3, cur3, bq, oq, cq, curq, R, rfl, y1, y2, y3, y4, _, hput⟩ := k1.closing x1 x3 x4
         have g1 : w2.cell? ⟨b, 4, none⟩ = some (.slice (some ⟨b5, o5, none⟩) σ2.shots.length c5) := (k2.eq (MS.add_assoc _ _ _)).at_ y1
         have g2 := (k2.eq (b := blk b5 cur4 150 + (blk b hd 118 + (blk b3 cur3 69 + (blk bq curq 4 + R)) + F)) (by ac_rfl)).at_ y2
         have g3 := (k2.eq (b := blk b3 cur3 69 + (blk b hd 118 + (blk b5 cur4 150 + (blk bq curq 4 + R)) + F)) (by ac_rfl)).at_ y3
         have K2 := hid k2
         have K3 := hid k3
         have Hput := hid (hput true)
         clear k1 k2 k3 hput x1 x3 x4 y1 y2 y3)
      | (refine wpList_store_blk rfl (.tmp 36) (.const (.bool true)) 4 rfl size4 bq (oq + j) (.bool true) rfl rfl rfl curq 4 _ (K2.out.eq (b := blk bq curq 4 + (blk b hd 118 + (blk b5 cur4 150 + (blk b3 cur3 69 + R)) + F)) (by ac_rfl)) y4 ?_; intro w1 H1 E1))
    go_end0
    exact ⟨rfl, _, Hput.out, H1.eq (by ac_rfl), K3.out.trans E1⟩
end Go.Proofs.Ytnkgfgkgepadhaa

/-
  The walk of heard: a marker comes.
-/
import Derived.Test.YtnkgfgkgepadhaaWalk5
namespace Go.Proofs.Ytnkgfgkgepadhaa
open Go.RowKit
set_option linter.unusedVariables false
set_option linter.unusedSimpArgs false

theorem getD_some {α : Type} {l : List α} {i : Nat} {x : α} (h : l[i]? = some x) (d : α) : l.getD i d = x := by simp [List.getD, h]
/-- A channel is closed: what is read, what is written, how the net is shut. -/
theorem IsNet.closing {Pl : MS} {σ : Net} {ps : List Nat} {b : Nat} {m : MS} (h : IsNet Pl σ ps b m) {i j k p : Nat} {x : Shot} {r : List Bool} {q : Bool} (hx : σ.shots[k]? = some x) (hp : ps[k]? = some p) (hr : x.closed[i]? = some r) (hq : r[j]? = some q) :
    ∃ b1 o1 c1 b2 o2 c2 cur2 G, m = blk b2 cur2 4 + G ∧ cur2[o2 + j]? = some (.bool q) ∧
      (∀ W X, Has W (m + X) → W.cell? ⟨p, 1, none⟩ = some (.slice (some ⟨b1, o1, none⟩) x.closed.length c1) ∧ W.cell? ⟨b1, o1 + i, none⟩ = some (.slice (some ⟨b2, o2, none⟩) r.length c2)) ∧
      IsNet Pl (σ.close i j k) ps b (blk b2 (cur2.setIfInBounds (o2 + j) (.bool true)) 4 + G) := by
  obtain ⟨hd, b2, o2, c2, cur2, cp, v0, v1, v2, v3, v4, m0, m1, m2, m3, m4, vst, mst, R, rfl, i0, hst, i2, i2e, p0, p1, p2, p3, p4, hrec, hclo, hcut, hpie, hund, hput⟩ := h.shot hx hp
  obtain ⟨b1, o1, c1, cur1, b3, o3, c3, cur3, R3, rfl, rfl, e1, e2, hput1⟩ := bools2At hclo hr hq
  have hn := hput { x with closed := x.closed.set i (r.set j true) } _ _ _ _ _ hrec (hput1 true) hcut hpie hund
  have hσ : σ.close i j k = { σ with shots := σ.shots.set k { x with closed := x.closed.set i (r.set j true) } } := by simp only [Net.close, hx, getD_some hr]
  refine ⟨b1, o1, c1, b3, o3, c3, cur3, blk b hd 84 + (blk b2 cur2 101 + (blk p cp 109 + ((m0 + ((blk b1 cur1 69 + R3) + (m2 + (m3 + m4)))) + (mst + R)))), by ac_rfl, e2, fun W X hW => ⟨?_, ?_⟩, ?_⟩
  · exact (hW.eq (b := blk p cp 109 + (blk b hd 84 + (blk b2 cur2 101 + ((m0 + ((blk b1 cur1 69 + (blk b3 cur3 4 + R3)) + (m2 + (m3 + m4)))) + (mst + R))) + X)) (by ac_rfl)).at_ p1
  · exact (hW.eq (b := blk b1 cur1 69 + (blk b hd 84 + (blk b2 cur2 101 + (blk p cp 109 + ((m0 + ((blk b3 cur3 4 + R3) + (m2 + (m3 + m4)))) + (mst + R)))) + X)) (by ac_rfl)).at_ e1
  · rw [hσ]
    have e : blk b3 (cur3.setIfInBounds (o3 + j) (.bool true)) 4 + (blk b hd 84 + (blk b2 cur2 101 + (blk p cp 109 + ((m0 + ((blk b1 cur1 69 + R3) + (m2 + (m3 + m4)))) + (mst + R))))) =
        blk b hd 84 + (blk b2 cur2 101 + (blk p cp 109 + ((m0 + ((blk b1 cur1 69 + (blk b3 (cur3.setIfInBounds (o3 + j) (.bool true)) 4 + R3)) + (m2 + (m3 + m4)))) + (mst + R)))) := by ac_rfl
    rw [e]
    exact hn
/-- The record of a station: is it there? -/
theorem IsNet.recs {Pl : MS} {σ : Net} {ps : List Nat} {b : Nat} {m : MS} (h : IsNet Pl σ ps b m) {j k p : Nat} {x : Shot} {q : Bool} (hx : σ.shots[k]? = some x) (hp : ps[k]? = some p) (hq : x.recorded[j]? = some q) :
    ∃ b1 o1 c1, ∀ W X, Has W (m + X) → W.cell? ⟨p, 0, none⟩ = some (.slice (some ⟨b1, o1, none⟩) x.recorded.length c1) ∧ W.cell? ⟨b1, o1 + j, none⟩ = some (.bool q) := by
  obtain ⟨hd, b2, o2, c2, cur2, cp, v0, v1, v2, v3, v4, m0, m1, m2, m3, m4, vst, mst, R, rfl, i0, hst, i2, i2e, p0, p1, p2, p3, p4, hrec, hclo, hcut, hpie, hund, hput⟩ := h.shot hx hp
  have hj := (List.getElem?_eq_some_iff.1 hq).1
  obtain ⟨b1, o1, c1, cur1, rfl, rfl, _, hcc, _⟩ := (Bools.cells hrec).at_ (by omega)
  have e1 := hcc j (by omega)
  rw [List.getElem?_map, hq] at e1
  refine ⟨b1, o1, c1, fun W X hW => ⟨?_, ?_⟩⟩
  · exact (hW.eq (b := blk p cp 109 + (blk b hd 84 + (blk b2 cur2 101 + ((blk b1 cur1 4 + (m1 + (m2 + (m3 + m4)))) + (mst + R))) + X)) (by ac_rfl)).at_ p0
  · exact (hW.eq (b := blk b1 cur1 4 + (blk b hd 84 + (blk b2 cur2 101 + (blk p cp 109 + ((m1 + (m2 + (m3 + m4))) + (mst + R)))) + X)) (by ac_rfl)).at_ e1

theorem Net.record_shot {σ : Net} {k i : Nat} {s : Sta} {x : Shot} (hs : σ.sta[k]? = some s) (hx : σ.shots[i]? = some x) :
    (σ.record k i).sta = σ.sta ∧ (σ.record k i).evs = σ.evs ∧ (σ.record k i).shots = σ.shots.set i { x with recorded := x.recorded.set k true, pieces := x.pieces.set k s.pieces, cut := x.cut.set k s.events } ∧ (σ.record k i).chan.length = σ.chan.length := by
  simp only [Net.record, hs, hx]
  obtain ⟨h1, h2, h3, h4⟩ := Net.mark_keeps ({ σ with shots := σ.shots.set i { x with recorded := x.recorded.set k true, pieces := x.pieces.set k s.pieces, cut := x.cut.set k s.events } } : Net) k (i + 1) σ.sta.length
  exact ⟨h1, h3, h2, h4⟩

set_option maxHeartbeats 1000000 in
set_option maxRecDepth 100000 in
theorem heard_any (Pl F : MS) (σ : Net) (ps : List Nat) (b : Nat) (m : MS) (w : World) (hok : NetOk σ) (hnet : IsNet Pl σ ps b m) (hH : Has w (m + (Pl + F))) (i j k p : Nat) (hi : i < σ.sta.length) (hj : j < σ.sta.length) (x : Shot) (hx : σ.shots[k]? = some x) (hp : ps[k]? = some p)
    (no : Int) (hno : no = k + 1) :
    Calls Try.prog 53 #[.pointer (some ⟨b, 0, none⟩), .int .i64 i, .int .i64 j, .pointer (some ⟨p, 0, none⟩), .int .i64 no] w fun e w' => e = .returned (.tuple #[]) ∧ ∃ m', Has w' (m' + (Pl + F)) ∧ Ext w w' ∧ IsNet Pl (σ.heard i j k) ps b m' := by
  obtain ⟨z1, z2, z3, z4, z5, z6, z7⟩ := hok.shot x (List.mem_of_getElem? hx)
  obtain ⟨r, hr⟩ : ∃ r, x.closed[i]? = some r := ⟨_, List.getElem?_eq_getElem (by omega)⟩
  have hrl := z3 r (List.mem_of_getElem? hr)
  obtain ⟨q, hq⟩ : ∃ q, r[j]? = some q := ⟨_, List.getElem?_eq_getElem (by omega)⟩
  obtain ⟨q0, hq0⟩ : ∃ q0, x.recorded[j]? = some q0 := ⟨_, List.getElem?_eq_getElem (by omega)⟩
  obtain ⟨b1, o1, c1, hrf⟩ := hnet.recs hx hp hq0
  obtain ⟨g1, g2⟩ := hrf w _ hH
  have bi : (i : Int) < x.closed.length := by omega
  have bj : (j : Int) < r.length := by omega
  have bj2 : (j : Int) < x.recorded.length := by omega
  cases q0 with
  | true =>
    obtain ⟨b2, o2, c2, b3, o3, c3, cur3, G, rfl, e2, hf, hn⟩ := hnet.closing hx hp hr hq
    obtain ⟨f1, f2⟩ := hf w _ hH
    have hσ : σ.heard i j k = σ.close i j k := by simp [Net.heard, hx, List.getD, hq0]
    rw [hσ]
    have HH : Has w (blk b3 cur3 4 + (G + (Pl + F))) := hH.eq (by ac_rfl)
    have Hn := hid hn
    have l1 := arr_lt e2
    clear hf hrf hn hσ hnet hH hok z1 z2 z3 z4 z5 z6 z7 hrl hx hp hr hq hq0 e2
    go_enter Try.func53, Try.ntmps53
    go_wp2_with (refine wpList_store_blk rfl (.tmp 31) (.const (.bool true)) 4 rfl size4 b3 (o3 + j) (.bool true) rfl rfl rfl cur3 4 _ HH l1 ?_; intro w1 H1 E1)
    go_end0
    exact ⟨rfl, _, H1.eq (by ac_rfl), E1, Hn.out⟩
  | false =>
    obtain ⟨s, hs⟩ : ∃ s, σ.sta[j]? = some s := ⟨_, List.getElem?_eq_getElem hj⟩
    obtain ⟨t1, t2, t3, t4⟩ := Net.record_shot hs hx
    have hkl := (List.getElem?_eq_some_iff.1 hx).1
    have hx2 : (σ.record j k).shots[k]? = some { x with recorded := x.recorded.set j true, pieces := x.pieces.set j s.pieces, cut := x.cut.set j s.events } := by rw [t3]; simp [hkl]
    have hrec := record_any Pl F σ ps b m w hok hnet hH j k p hj x hx hp no hno
    have hcl : ∀ m1, IsNet Pl (σ.record j k) ps b m1 → _ := fun m1 h1 => h1.closing (i := i) (j := j) (r := r) (q := q) hx2 hp hr hq
    have hσ : σ.heard i j k = (σ.record j k).close i j k := by simp [Net.heard, hx, List.getD, hq0]
    rw [hσ]
    have Hrec := hid hrec
    have Hcl := hid hcl
    clear hno hrf hσ hrec hcl hok z1 z2 z3 z4 z5 z6 z7 hrl hx hp hr hq hq0 hs t1 t2 t3 t4 hkl hx2
    go_enter Try.func53, Try.ntmps53
    go_wp2_with (first
      | (go_at_call 66
         refine Hrec.out.mono ?_
         rintro e w1 ⟨rfl, m1, H1, E1, hn1⟩
         obtain ⟨b2, o2, c2, b3, o3, c3, cur3, G, rfl, e2, hf, hn⟩ := Hcl.out m1 hn1
         obtain ⟨f1, f2⟩ := hf w1 _ H1
         have HH : Has w1 (blk b3 cur3 4 + (G + (Pl + F))) := H1.eq (by ac_rfl)
         have Hn := hid hn
         have l1 := arr_lt e2
         clear hf hn hn1 H1 e2)
      | (refine wpList_store_blk rfl (.tmp 31) (.const (.bool true)) 4 rfl size4 b3 (o3 + j) (.bool true) rfl rfl rfl cur3 4 _ HH l1 ?_; intro w2 H2 E2))
    go_end0
    exact ⟨rfl, _, H2.eq (by ac_rfl), E1.trans E2, Hn.out⟩
end Go.Proofs.Ytnkgfgkgepadhaa

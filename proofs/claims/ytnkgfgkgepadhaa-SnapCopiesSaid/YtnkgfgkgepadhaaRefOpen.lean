/-
  Opening the reference's net.
-/
import Derived.Test.YtnkgfgkgepadhaaRefData
namespace Go.Proofs.Ytnkgfgkgepadhaa
open Go.RowKit
set_option linter.unusedVariables false
set_option linter.unusedSimpArgs false

theorem RLine.nil (Pl : MS) : RLine Pl [] (.slice none 0 0) 0 := SlR.empty 127 2 _
theorem rline_of {F : MS} {l : List Msg} {xs : List Value} {v : Value} {m : MS} (h : Sl 127 2 v l.length xs m) (hq : RowsQ (RT.rmsg.rel F) l xs) : RLine F l v m := by
  have : ∀ {l : List Msg} {xs : List Value}, RowsQ (RT.rmsg.rel F) l xs → RowsR (Pooled RT.rmsg F) l xs 0 := by
    intro l
    induction l with
    | nil => intro xs h; exact ⟨h, rfl⟩
    | cons x l ih =>
      intro xs h
      obtain ⟨c1, c2, h1, h2, h3⟩ := h
      exact ⟨c1, 0, c2, 0, pooled_msg h1, ih h2, h3, (MS.zero_add 0).symm⟩
  exact ⟨xs, m, 0, h, this hq, (MS.add_zero m).symm⟩
theorem revs_of {F : MS} {l : List Ev} {xs : List Value} {v : Value} {m : MS} (h : Sl 68 5 v l.length xs m) (hq : RowsQ (RT.ev.rel F) l xs) : REvs F l v m := by
  have : ∀ {l : List Ev} {xs : List Value}, RowsQ (RT.ev.rel F) l xs → RowsR (Pooled RT.ev F) l xs 0 := by
    intro l
    induction l with
    | nil => intro xs h; exact ⟨h, rfl⟩
    | cons x l ih =>
      intro xs h
      obtain ⟨c1, c2, h1, h2, h3⟩ := h
      exact ⟨c1, 0, c2, 0, pooled_ev h1, ih h2, h3, (MS.zero_add 0).symm⟩
  exact ⟨xs, m, 0, h, this hq, (MS.add_zero m).symm⟩
theorem rowsq_one {T : RT Msg} {F : MS} (hT : ∀ x cs, T.rel F x cs → ∀ u ∈ cs, u.oneCell' = true) : ∀ {l : List Msg} {xs : List Value}, RowsQ (T.rel F) l xs → ∀ u ∈ xs, u.oneCell' = true
  | [], _, h, u, hu => by rw [h] at hu; cases hu
  | x :: l, _, ⟨c1, c2, h1, h2, h3⟩, u, hu => by
    rw [h3] at hu
    rcases List.mem_append.1 hu with hu | hu
    · exact hT _ _ h1 u hu
    · exact rowsq_one hT h2 u hu
/-- The bounds that the reference's walks need. -/
theorem clocks_get {σ : Net} (h : NetOk σ) {i : Nat} (hi : i < σ.n) : σ.clocks[i]? = some (σ.S i).clock := by unfold Net.clocks; rw [List.getElem?_map, S_of hi]; rfl
theorem helds_get {σ : Net} (h : NetOk σ) {i : Nat} (hi : i < σ.n) : σ.helds[i]? = some (σ.S i).pieces := by unfold Net.helds; rw [List.getElem?_map, S_of hi]; rfl
theorem helds_len (σ : Net) : σ.helds.length = σ.n := by simp [Net.helds, Net.n]
theorem clocks_len (σ : Net) : σ.clocks.length = σ.n := by simp [Net.clocks, Net.n]
theorem chan_get {σ : Net} (h : NetOk σ) {i : Nat} (hi : i < σ.n) : ∃ r, σ.chan[i]? = some r ∧ r.length = σ.n ∧ ∀ j, j < σ.n → r[j]? = some (σ.lineAt i j) := by
  obtain ⟨r, hr⟩ : ∃ r, σ.chan[i]? = some r := ⟨_, List.getElem?_eq_getElem (by rw [h.rows]; exact hi)⟩
  have hrl := h.cols r (List.mem_of_getElem? hr)
  refine ⟨r, hr, hrl, fun j hj => ?_⟩
  simp only [Net.lineAt, getD_some hr]
  simp [List.getD, List.getElem?_eq_getElem (show j < r.length by rw [hrl]; exact hj)]
theorem line_len {σ : Net} (h : NetOk σ) {i j : Nat} (hi : i < σ.n) (hj : j < σ.n) : (σ.lineAt i j).length ≤ 1000 := by
  obtain ⟨r, hr, _, h2⟩ := chan_get h hi
  exact h.totOk.line r (List.mem_of_getElem? hr) _ (List.mem_of_getElem? (h2 j hj))

theorem sta_set_map {β : Type} (f : Sta → β) {l : List Sta} {k : Nat} {s s' : Sta} (hs : l[k]? = some s) (h : f s' = f s) : (l.set k s').map f = l.map f := by
  obtain ⟨hk, rfl⟩ := List.getElem?_eq_some_iff.1 hs
  rw [List.map_set, h]
  have : (l.map f)[k]'(by simpa using hk) = f l[k] := by simp
  rw [← this, List.set_getElem_self]
/-- The pieces of a station. -/
theorem IsRef.held {Pl : MS} {σ : Net} {b : Nat} {m : MS} (h : IsRef Pl σ b m) {k : Nat} {s : Sta} (hs : σ.sta[k]? = some s) :
    ∃ hd b1 o1 c1 cur R, m = blk b hd 118 + (blk b1 cur 3 + R) ∧ hd.size = 5 ∧ hd[0]? = some (.slice (some ⟨b1, o1, none⟩) σ.sta.length c1) ∧ cur[o1 + k]? = some (.int .i64 s.pieces) ∧
      ∀ p, IsRef Pl { σ with sta := σ.sta.set k { s with pieces := p } } b (blk b hd 118 + (blk b1 (cur.setIfInBounds (o1 + k) (.int .i64 p)) 3 + R)) := by
  obtain ⟨v0, v1, v2, v3, v4, m0, m1, m2, m3, m4, rfl, h0, h1, h2, h3, h4⟩ := h
  obtain ⟨hk, hs'⟩ := List.getElem?_eq_some_iff.1 hs
  have hl : σ.helds.length = σ.sta.length := by simp [Net.helds]
  have hg : σ.helds.getD k 0 = s.pieces := by simp [Net.helds, hs]
  obtain ⟨b1, o1, c1, cur, rfl, rfl, hat⟩ := Ints.at_ h0 (by omega)
  have hget := hat.get (j := k) (by omega)
  rw [hg] at hget
  refine ⟨#[.slice (some ⟨b1, o1, none⟩) σ.helds.length c1, v1, v2, v3, v4], b1, o1, c1, cur, m1 + (m2 + (m3 + m4)), rfl, rfl, by rw [← hl]; rfl, hget, fun p => ?_⟩
  have hset := hat.set (j := k) (by omega) p
  have e0 : Net.helds { σ with sta := σ.sta.set k { s with pieces := p } } = σ.helds.set k p := by simp [Net.helds, List.map_set]
  have e1 : Net.clocks { σ with sta := σ.sta.set k { s with pieces := p } } = σ.clocks := sta_set_map Sta.clock hs rfl
  refine ⟨_, v1, v2, v3, v4, _, m1, m2, m3, m4, rfl, ?_, ?_, h2, h3, h4⟩
  · rw [e0]; exact IntsAt.ints (by simpa using hset)
  · rw [e1]; exact h1
/-- The clock of a station. -/
theorem IsRef.clock {Pl : MS} {σ : Net} {b : Nat} {m : MS} (h : IsRef Pl σ b m) {k : Nat} {s : Sta} (hs : σ.sta[k]? = some s) :
    ∃ hd b1 o1 c1 cur1 vc mc R, m = blk b hd 118 + (blk b1 cur1 22 + (mc + R)) ∧ hd[1]? = some (.slice (some ⟨b1, o1, none⟩) σ.sta.length c1) ∧ cur1[o1 + k]? = some vc ∧ Ints s.clock vc mc ∧ (∃ A c, hd[0]? = some (.slice A σ.sta.length c)) ∧
      ∀ c' mc', Ints c' vc mc' → IsRef Pl { σ with sta := σ.sta.set k { s with clock := c' } } b (blk b hd 118 + (blk b1 cur1 22 + (mc' + R))) := by
  obtain ⟨v0, v1, v2, v3, v4, m0, m1, m2, m3, m4, rfl, h0, h1, h2, h3, h4⟩ := h
  obtain ⟨hk, hs'⟩ := List.getElem?_eq_some_iff.1 hs
  have hl : σ.clocks.length = σ.sta.length := by simp [Net.clocks]
  have hl0 : σ.helds.length = σ.sta.length := by simp [Net.helds]
  obtain ⟨A0, c0, rfl, _⟩ := SlR.form h0
  obtain ⟨b1, o1, c1, cur, ci, n1, n2, rfl, rfl, ⟨vc, rfl, hclk, hone⟩, hcell, hput⟩ := SlR.take El.len h1 (i := k) (by omega)
  have hg : σ.clocks[k]'(by omega) = s.clock := by simp [Net.clocks, hs']
  rw [hg] at hclk
  have e1 := hcell 0 (by omega)
  simp only [Nat.mul_one, Nat.add_zero, List.getElem?_cons_zero] at e1
  refine ⟨#[.slice A0 σ.helds.length c0, .slice (some ⟨b1, o1, none⟩) σ.clocks.length c1, v2, v3, v4], b1, o1, c1, cur, vc, n1, m0 + (n2 + (m2 + (m3 + m4))), by ac_rfl, by rw [← hl]; rfl, e1, hclk, ⟨A0, c0, by rw [← hl0]; rfl⟩, fun c' mc' hc' => ?_⟩
  have e0 : Net.helds { σ with sta := σ.sta.set k { s with clock := c' } } = σ.helds := sta_set_map Sta.pieces hs rfl
  have ec : Net.clocks { σ with sta := σ.sta.set k { s with clock := c' } } = σ.clocks.set k c' := by simp [Net.clocks, List.map_set]
  have hp := hput c' [vc] mc' cur ⟨vc, rfl, hc', hone⟩ rfl (fun _ _ => rfl) (fun t ht => by
    obtain rfl : t = 0 := by omega
    simpa using e1)
  have hp' : Ints2 (Net.clocks { σ with sta := σ.sta.set k { s with clock := c' } }) (.slice (some ⟨b1, o1, none⟩) σ.clocks.length c1) (blk b1 cur 22 + (mc' + n2)) := by rw [ec]; exact hp
  have h0' : Ints (Net.helds { σ with sta := σ.sta.set k { s with clock := c' } }) (.slice A0 σ.helds.length c0) m0 := by rw [e0]; exact h0
  exact ⟨.slice A0 σ.helds.length c0, .slice (some ⟨b1, o1, none⟩) σ.clocks.length c1, v2, v3, v4, m0, blk b1 cur 22 + (mc' + n2), m2, m3, m4, by ac_rfl, h0', hp', h2, h3, h4⟩
/-- A channel. -/
theorem IsRef.line {Pl : MS} {σ : Net} {b : Nat} {m : MS} (h : IsRef Pl σ b m) {i j : Nat} {r : List (List Msg)} {l : List Msg} (hr : σ.chan[i]? = some r) (hl : r[j]? = some l) :
    ∃ hd b1 o1 c1 cur1 b2 o2 c2 cur2 v mq R, m = blk b hd 118 + (blk b1 cur1 119 + (blk b2 cur2 125 + (mq + R))) ∧ (∃ A c, hd[0]? = some (.slice A σ.sta.length c)) ∧ hd[2]? = some (.slice (some ⟨b1, o1, none⟩) σ.chan.length c1) ∧
      cur1[o1 + i]? = some (.slice (some ⟨b2, o2, none⟩) r.length c2) ∧ cur2[o2 + j]? = some v ∧ RLine Pl l v mq ∧ (∃ v1 m1 R', R = m1 + R' ∧ hd[1]? = some v1 ∧ Ints2 σ.clocks v1 m1) ∧
      ∀ X l' v' mq', RLine (X + Pl) l' v' mq' → IsRef (X + Pl) { σ with chan := σ.chan.set i (r.set j l') } b (blk b hd 118 + (blk b1 cur1 119 + (blk b2 (cur2.setIfInBounds (o2 + j) v') 125 + (mq' + R)))) := by
  obtain ⟨v0, v1, v2, v3, v4, m0, m1, m2, m3, m4, rfl, h0, h1, h2, h3, h4⟩ := h
  obtain ⟨hi, hr'⟩ := List.getElem?_eq_some_iff.1 hr
  obtain ⟨hj, hl'⟩ := List.getElem?_eq_some_iff.1 hl
  obtain ⟨A0, c0, rfl, _⟩ := SlR.form h0
  have hl0 : σ.helds.length = σ.sta.length := by simp [Net.helds]
  obtain ⟨b1, o1, c1, cur1, ci, n1, n2, rfl, rfl, ⟨vr, rfl, hrow, _⟩, hcell, hput0⟩ := SlR.take' El.len h2 hi
  rw [hr'] at hrow
  obtain ⟨b2, o2, c2, cur2, cj, p1, p2, rfl, rfl, ⟨vl, rfl, hline, _⟩, hcell2, hput20⟩ := SlR.take' El.len hrow hj
  rw [hl'] at hline
  have e1 := hcell 0 (by omega)
  have e2 := hcell2 0 (by omega)
  simp only [Nat.mul_one, Nat.add_zero, List.getElem?_cons_zero] at e1 e2
  refine ⟨#[.slice A0 σ.helds.length c0, v1, .slice (some ⟨b1, o1, none⟩) σ.chan.length c1, v3, v4], b1, o1, c1, cur1, b2, o2, c2, cur2, vl, p1, m1 + (m0 + (p2 + (n2 + (m3 + m4)))), by ac_rfl, ⟨A0, c0, by rw [← hl0]; rfl⟩, rfl, e1, e2, hline, ⟨v1, m1, _, rfl, rfl, h1⟩, ?_⟩
  intro X l' v' mq' hl''
  have hput := hput0 (El (RLines (X + Pl))) (El.mono (RLines.pool X)) El.len
  have hput2 := hput20 (El (RLine (X + Pl))) (El.mono (RLine.pool X)) El.len
  have hlt := arr_lt e2
  have a1 := hput2 l' [v'] mq' (cur2.setIfInBounds (o2 + j) v') ⟨v', rfl, hl'', SlR.one hl''⟩ (by simp) (fun k hk => by rw [Array.getElem?_setIfInBounds_ne (by omega)]) (fun t ht => by
    obtain rfl : t = 0 := by omega
    simpa using arr_eq (x := v') hlt)
  have a2 := hput (r.set j l') [_] _ cur1 ⟨_, rfl, a1, rfl⟩ rfl (fun _ _ => rfl) (fun t ht => by
    obtain rfl : t = 0 := by omega
    simpa using e1)
  exact ⟨_, v1, _, v3, v4, m0, m1, _, m3, m4, by ac_rfl, h0, h1, a2, REvs.pool X _ _ _ h3, h4⟩
/-- A snapshot. -/
theorem IsRef.shot {Pl : MS} {σ : Net} {b : Nat} {m : MS} (h : IsRef Pl σ b m) {k : Nat} {x : Shot} (hx : σ.shots[k]? = some x) :
    ∃ hd b4 o4 c4 cur4 v0 v1 v2 v3 v4 m0 m1 m2 m3 m4 R, m = blk b hd 118 + (blk b4 cur4 150 + ((m0 + (m1 + (m2 + (m3 + m4)))) + R)) ∧ hd[4]? = some (.slice (some ⟨b4, o4, none⟩) σ.shots.length c4) ∧
      (cur4[o4 + k * 5]? = some v0 ∧ cur4[o4 + k * 5 + 1]? = some v1 ∧ cur4[o4 + k * 5 + 2]? = some v2 ∧ cur4[o4 + k * 5 + 3]? = some v3 ∧ cur4[o4 + k * 5 + 4]? = some v4) ∧
      Bools x.recorded v0 m0 ∧ Ints x.pieces v1 m1 ∧ Ints x.cut v2 m2 ∧ Bools2 x.closed v3 m3 ∧ Ints3 x.under v4 m4 ∧
      (∃ w0 w1 n0 n1 R', R = n0 + (n1 + R') ∧ hd[0]? = some w0 ∧ hd[1]? = some w1 ∧ Ints σ.helds w0 n0 ∧ Ints2 σ.clocks w1 n1) ∧
      ∀ x' m0' m1' m2' m3' m4', Bools x'.recorded v0 m0' → Ints x'.pieces v1 m1' → Ints x'.cut v2 m2' → Bools2 x'.closed v3 m3' → Ints3 x'.under v4 m4' →
        IsRef Pl { σ with shots := σ.shots.set k x' } b (blk b hd 118 + (blk b4 cur4 150 + ((m0' + (m1' + (m2' + (m3' + m4')))) + R))) := by
  obtain ⟨v0, v1, v2, v3, v4, m0, m1, m2, m3, m4, rfl, h0, h1, h2, h3, h4⟩ := h
  obtain ⟨hi, hx'⟩ := List.getElem?_eq_some_iff.1 hx
  obtain ⟨b4, o4, c4, cur4, ci, n1, n2, rfl, rfl, ⟨u0, u1, u2, u3, u4, q0, q1, q2, q3, q4, rfl, rfl, k0, k1, k2, k3, k4⟩, hcell, hput⟩ := SlR.take RShot.len h4 hi
  rw [hx'] at k0 k1 k2 k3 k4
  refine ⟨#[v0, v1, v2, v3, .slice (some ⟨b4, o4, none⟩) σ.shots.length c4], b4, o4, c4, cur4, u0, u1, u2, u3, u4, q0, q1, q2, q3, q4, m0 + (m1 + (m2 + (m3 + n2))), by ac_rfl, rfl,
    ⟨hcell 0 (by omega), hcell 1 (by omega), hcell 2 (by omega), hcell 3 (by omega), hcell 4 (by omega)⟩, k0, k1, k2, k3, k4, ⟨v0, v1, m0, m1, _, rfl, rfl, rfl, h0, h1⟩, ?_⟩
  intro x' m0' m1' m2' m3' m4' t0 t1 t2 t3 t4
  have a2 := hput x' [u0, u1, u2, u3, u4] (m0' + (m1' + (m2' + (m3' + m4')))) cur4 ⟨u0, u1, u2, u3, u4, _, _, _, _, _, rfl, rfl, t0, t1, t2, t3, t4⟩ rfl (fun _ _ => rfl) (fun t ht => hcell t ht)
  exact ⟨v0, v1, v2, v3, _, m0, m1, m2, m3, _, by ac_rfl, h0, h1, h2, h3, a2⟩
end Go.Proofs.Ytnkgfgkgepadhaa

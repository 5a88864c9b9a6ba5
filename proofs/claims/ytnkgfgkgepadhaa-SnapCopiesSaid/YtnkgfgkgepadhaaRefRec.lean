/-
  The walk of the reference's did. The walks of the reference's records and marker.
-/
import Derived.Test.YtnkgfgkgepadhaaRefOpen
namespace Go.Proofs.Ytnkgfgkgepadhaa
open Go.RowKit
set_option linter.unusedVariables false
set_option linter.unusedSimpArgs false

/-- What did touches. -/
theorem IsRef.didding {Pl : MS} {σ : Net} {b : Nat} {m : MS} (h : IsRef Pl σ b m) {k : Nat} {s : Sta} (hs : σ.sta[k]? = some s) :
    ∃ hd b1 o1 c1 cur1 vc mc v3 m3 R, m = blk b hd 118 + (blk b1 cur1 22 + (mc + (m3 + R))) ∧ hd.size = 5 ∧ hd[1]? = some (.slice (some ⟨b1, o1, none⟩) σ.sta.length c1) ∧ hd[3]? = some v3 ∧ cur1[o1 + k]? = some vc ∧ Ints s.clock vc mc ∧ REvs Pl σ.evs v3 m3 ∧
      ∀ X c' mc' ev l' v3' m3', Ints c' vc mc' → REvs (X + Pl) l' v3' m3' → IsRef (X + Pl) { σ with sta := σ.sta.set k { s with clock := c', events := ev }, evs := l' } b (blk b (hd.setIfInBounds 3 v3') 118 + (blk b1 cur1 22 + (mc' + (m3' + R)))) := by
  obtain ⟨v0, v1, v2, v3, v4, m0, m1, m2, m3, m4, rfl, h0, h1, h2, h3, h4⟩ := h
  obtain ⟨hk, hs'⟩ := List.getElem?_eq_some_iff.1 hs
  have hl : σ.clocks.length = σ.sta.length := by simp [Net.clocks]
  obtain ⟨b1, o1, c1, cur, ci, n1, n2, rfl, rfl, ⟨vc, rfl, hclk, hone⟩, hcell, hput⟩ := SlR.take El.len h1 (i := k) (by omega)
  have hg : σ.clocks[k]'(by omega) = s.clock := by simp [Net.clocks, hs']
  rw [hg] at hclk
  have e1 := hcell 0 (by omega)
  simp only [Nat.mul_one, Nat.add_zero, List.getElem?_cons_zero] at e1
  refine ⟨#[v0, .slice (some ⟨b1, o1, none⟩) σ.clocks.length c1, v2, v3, v4], b1, o1, c1, cur, vc, n1, v3, m3, m0 + (n2 + (m2 + m4)), by ac_rfl, rfl, by rw [← hl]; rfl, rfl, e1, hclk, h3, fun X c' mc' ev l' v3' m3' hc' hl' => ?_⟩
  have e0 : Net.helds { σ with sta := σ.sta.set k { s with clock := c', events := ev }, evs := l' } = σ.helds := sta_set_map Sta.pieces hs rfl
  have ec : Net.clocks { σ with sta := σ.sta.set k { s with clock := c', events := ev }, evs := l' } = σ.clocks.set k c' := by simp [Net.clocks, List.map_set]
  have hp := hput c' [vc] mc' cur ⟨vc, rfl, hc', hone⟩ rfl (fun _ _ => rfl) (fun t ht => by
    obtain rfl : t = 0 := by omega
    simpa using e1)
  have hp' : Ints2 (Net.clocks { σ with sta := σ.sta.set k { s with clock := c', events := ev }, evs := l' }) (.slice (some ⟨b1, o1, none⟩) σ.clocks.length c1) (blk b1 cur 22 + (mc' + n2)) := by rw [ec]; exact hp
  have h0' : Ints (Net.helds { σ with sta := σ.sta.set k { s with clock := c', events := ev }, evs := l' }) v0 m0 := by rw [e0]; exact h0
  have e : (#[v0, .slice (some ⟨b1, o1, none⟩) σ.clocks.length c1, v2, v3, v4] : Array Value).setIfInBounds 3 v3' = #[v0, .slice (some ⟨b1, o1, none⟩) σ.clocks.length c1, v2, v3', v4] := rfl
  rw [e]
  exact ⟨v0, .slice (some ⟨b1, o1, none⟩) σ.clocks.length c1, v2, v3', v4, m0, blk b1 cur 22 + (mc' + n2), m2, m3', m4, by ac_rfl, h0', hp', RChans.pool X _ _ _ h2, hl', h4⟩

set_option maxHeartbeats 2000000 in
set_option maxRecDepth 100000 in
theorem rdid_any {F : MS} {σ : Net} {b : Nat} {m : MS} {w : World} (h : IsRef F σ b m) (hH : Has w (m + F)) (k : Nat) (s : Sta) (hs : σ.sta[k]? = some s) (hkc : k < s.clock.length) (what other pieces : Int)
    (hclk : ∀ t ∈ s.clock, 0 ≤ t ∧ t < 1000000) (hcl : s.clock.length ≤ 1000) (hevl : σ.evs.length ≤ 1000) :
    Calls Try.prog 89 #[.pointer (some ⟨b, 0, none⟩), .int .i64 k, .int .i64 what, .int .i64 other, .int .i64 pieces] w fun e w' => e = .returned (.tuple #[]) ∧ ∃ X m', IsRef (X + F) (σ.did k what other pieces) b m' ∧ Has w' (m' + (X + F)) ∧ Ext w w' := by
  have hk : k < σ.sta.length := (List.getElem?_eq_some_iff.1 hs).1
  obtain ⟨hd, b1, o1, c1, cur1, vc, mc, v3, m3, R, rfl, hsz, i1, i3, e1, hck, hev, hput⟩ := h.didding hs
  obtain ⟨bc, oc, cc, curc, rfl, rfl, hat⟩ := Ints.at_ hck (by omega)
  obtain ⟨A3, c3, rfl, _⟩ := SlR.form hev
  have hget := hat.get (j := k) (by omega)
  obtain ⟨u, hu⟩ : ∃ u, u = s.clock.getD k 0 := ⟨_, rfl⟩
  have hub : 0 ≤ u ∧ u < 1000000 := by
    have : s.clock.getD k 0 = s.clock[k] := by simp [List.getD, hkc]
    rw [hu, this]; exact hclk _ (List.getElem_mem hkc)
  obtain ⟨hu0, hu1⟩ := hub
  rw [← hu] at hget
  have hdid : σ.did k what other pieces = { σ with sta := σ.sta.set k { s with events := s.events + 1, clock := s.clock.set k (u + 1) }, evs := σ.evs ++ [⟨k, what, other, pieces, s.clock.set k (u + 1)⟩] } := by
    simp [Net.did, hs, hu]
  have H0 : Has w (blk bc curc 3 + (blk b hd 118 + (blk b1 cur1 22 + (m3 + R)) + F)) := hH.eq (by ac_rfl)
  have c0 : w.cell? ⟨b, 1, none⟩ = some (.slice (some ⟨b1, o1, none⟩) σ.sta.length c1) := (H0.eq (b := blk b hd 118 + (blk bc curc 3 + (blk b1 cur1 22 + (m3 + R)) + F)) (by ac_rfl)).at_ i1
  have c2 : w.cell? ⟨b1, o1 + k, none⟩ = some (.slice (some ⟨bc, oc, none⟩) s.clock.length cc) := (H0.eq (b := blk b1 cur1 22 + (blk b hd 118 + (blk bc curc 3 + (m3 + R)) + F)) (by ac_rfl)).at_ e1
  have c4 := H0.at_ hget
  have lk := arr_lt hget
  have hset := (hat.set (j := k) hkc (u + 1)).ints (b := bc)
  have hset' : Ints (s.clock.set k (u + 1)) (.slice (some ⟨bc, oc, none⟩) s.clock.length cc) (blk bc (curc.setIfInBounds (oc + k) (.int .i64 (u + 1))) 3) := by simpa using hset
  have keep : ∀ (W : World) (X : MS), Has W (X + (blk b hd 118 + (blk bc (curc.setIfInBounds (oc + k) (.int .i64 (u + 1))) 3 + (blk b1 cur1 22 + R)))) →
      W.cell? ⟨b, 3, none⟩ = some (.slice A3 σ.evs.length c3) ∧ W.cell? ⟨b, 1, none⟩ = some (.slice (some ⟨b1, o1, none⟩) σ.sta.length c1) ∧ W.cell? ⟨b1, o1 + k, none⟩ = some (.slice (some ⟨bc, oc, none⟩) s.clock.length cc) := fun W X h =>
    ⟨(h.eq (b := blk b hd 118 + (X + (blk bc (curc.setIfInBounds (oc + k) (.int .i64 (u + 1))) 3 + (blk b1 cur1 22 + R)))) (by ac_rfl)).at_ i3, (h.eq (b := blk b hd 118 + (X + (blk bc (curc.setIfInBounds (oc + k) (.int .i64 (u + 1))) 3 + (blk b1 cur1 22 + R)))) (by ac_rfl)).at_ i1,
     (h.eq (b := blk b1 cur1 22 + (X + (blk bc (curc.setIfInBounds (oc + k) (.int .i64 (u + 1))) 3 + (blk b hd 118 + R)))) (by ac_rfl)).at_ e1⟩
  have Hkeep := hid keep
  have Hput := hid hput
  have Hset := hid hset'
  have Hev := hid hev
  have Hhd := hid (And.intro hsz (arr_lt i3))
  have hkI : (k : Int) < s.clock.length := by omega
  rw [hdid]
  clear hdid hu hH h hs hck hat hput keep hset hset' hev i1 i3 e1 hget hsz hclk
  go_enter Try.func89, Try.ntmps89
  go_wp2_with (refine wpList_store_blk rfl _ _ 3 rfl size3 bc _ (.int .i64 (u + 1)) rfl rfl rfl curc 3 _ H0 lk ?_; intro w2 H4 E2)
  have H5 := hid (show Has w2.drew ((m3 + F) + (blk b hd 118 + (blk bc (curc.setIfInBounds (oc + k) (.int .i64 (u + 1))) 3 + (blk b1 cur1 22 + R)))) from H4.drew.eq (by ac_rfl))
  have hS := Hkeep.out _ _ H5.out
  have E5 := hid (E2.trans (Ext.drew _))
  have Hcall := hid (rints_any (w := w2.drew) (F := (m3 + F) + (blk b hd 118 + (blk b1 cur1 22 + R)) + blk bc (curc.setIfInBounds (oc + k) (.int .i64 (u + 1))) 3) (Hset.out.rdS.more _) (H5.out.eq (by ac_rfl)) (by simp; omega))
  rw [List.length_set] at Hcall
  clear H4 E2 c0 c2 c4 H0
  refine wp_region_txt (fun W => W.cell? ⟨b, 3, none⟩ = some (.slice A3 σ.evs.length c3) ∧ W.cell? ⟨b, 1, none⟩ = some (.slice (some ⟨b1, o1, none⟩) σ.sta.length c1) ∧ W.cell? ⟨b1, o1 + k, none⟩ = some (.slice (some ⟨bc, oc, none⟩) s.clock.length cc)) (some 22)
    [(0, true), (1, true), (2, true), (3, true), (4, true), (5, true), (6, true), (7, true), (8, true), (9, true), (10, true), (11, true), (12, true), (13, true), (14, true), (15, true), (16, false), (17, true), (18, false), (19, false), (20, true), (21, true), (22, false)] (by kernel_rfl) rfl (by kernel_rfl) (by kernel_rfl) (by repeat (first | with_reducible refine PanicOk.thn ?_ | with_reducible refine PanicOk.blk ?_ | exact PanicOk.body _ _ _)) ?_
  repeat
    (refine txt_quiet ?_ hS rfl rfl (fun W hW => ?_) ?_
     rotate_left 1
     · obtain ⟨hW1, hW2, hW3⟩ := hW
       go_simp
       exact rfl
     simp only [Act.put, List.setIfInBounds_toArray, List.set_cons_zero, List.set_cons_succ])
  refine txt_op rfl rfl ?_
  refine op_call 90 _ _ (by go_simp) _ Hcall.out ?_
  rintro e w3 ⟨Aq, cq, mq, rfl, j1, j2, j3⟩
  refine ⟨_, rfl, ?_⟩
  have H6 := hid (show Has w3 ((mq + (m3 + F)) + (blk b hd 118 + (blk bc (curc.setIfInBounds (oc + k) (.int .i64 (u + 1))) 3 + (blk b1 cur1 22 + R)))) from j2.eq (by ac_rfl))
  have hS3 := Hkeep.out _ _ H6.out
  refine ⟨fun _ => hS3, ?_⟩
  simp only [Act.put, List.setIfInBounds_toArray, List.set_cons_zero, List.set_cons_succ]
  clear hS
  have E6 := hid (E5.out.trans j3)
  have Hq := hid j1
  clear j1 j2 j3
  repeat
    (refine txt_quiet ?_ hS3 rfl rfl (fun W hW => ?_) ?_
     rotate_left 1
     · obtain ⟨hW1, hW2, hW3⟩ := hW
       go_simp
       exact rfl
     simp only [Act.put, List.setIfInBounds_toArray, List.set_cons_zero, List.set_cons_succ])
  refine txt_op rfl rfl ?_
  refine op_run (.slice (some ⟨w3.heap.size, 0, none⟩) 1 1) (w3.alloc (.cells #[.int .i64 k, .int .i64 what, .int .i64 other, .int .i64 pieces, .slice Aq s.clock.length cq] 68)) (by go_simp) ?_
  have hS4 := Hkeep.out _ (pts w3.heap.size (.cells #[.int .i64 k, .int .i64 what, .int .i64 other, .int .i64 pieces, .slice Aq s.clock.length cq] 68) + (mq + (m3 + F))) ((H6.out.alloc _).eq (by ac_rfl))
  refine ⟨fun _ => hS4, ?_⟩
  simp only [Act.put, List.setIfInBounds_toArray, List.set_cons_zero, List.set_cons_succ]
  clear hS3
  refine txt_op rfl rfl ?_
  have hev' : REvs (mq + F) σ.evs (.slice A3 σ.evs.length c3) m3 := REvs.pool mq _ _ _ Hev.out
  have hrow : Pooled RT.ev (mq + F) ⟨k, what, other, pieces, s.clock.set k (u + 1)⟩ [.int .i64 k, .int .i64 what, .int .i64 other, .int .i64 pieces, .slice Aq s.clock.length cq] 0 :=
    pooled_ev ⟨_, rfl, by rw [MS.add_comm]; exact Hq.out.rdS.more F⟩
  refine op_push (.tmp 26) (.tmp 40) row32 rfl (.slice A3 σ.evs.length c3) rfl _ rfl rfl (Pooled RT.ev (mq + F)) Pooled.one Pooled.len σ.evs ⟨k, what, other, pieces, s.clock.set k (u + 1)⟩ m3 0 ((mq + F) + (blk b hd 118 + (blk bc (curc.setIfInBounds (oc + k) (.int .i64 (u + 1))) 3 + (blk b1 cur1 22 + R)))) hev' hrow (H6.out.eq (by rw [MS.zero_add]; ac_rfl)) σ.evs.length rfl (by omega) (by omega) ?_
  intro A4 c4 w5 m4 j4 j5 j6
  have hS5 := Hkeep.out w5 (m4 + (mq + F)) (j5.eq (by ac_rfl))
  refine ⟨fun _ => hS5, ?_⟩
  simp only [Act.put, List.setIfInBounds_toArray, List.set_cons_zero, List.set_cons_succ]
  clear hS4 hev' hrow
  repeat
    (refine txt_quiet ?_ hS5 rfl rfl (fun W hW => ?_) ?_
     rotate_left 1
     · obtain ⟨hW1, hW2, hW3⟩ := hW
       go_simp
       exact rfl
     simp only [Act.put, List.setIfInBounds_toArray, List.set_cons_zero, List.set_cons_succ])
  refine txt_op rfl rfl ?_
  refine op_store_blk (.tmp 43) (.tmp 41) 32 rfl size32 b 3 (.slice A4 (σ.evs.length + 1) c4) rfl rfl rfl hd 118 _ (j5.eq (b := blk b hd 118 + (blk b1 cur1 22 + (blk bc (curc.setIfInBounds (oc + k) (.int .i64 (u + 1))) 3 + (m4 + R)) + (mq + F))) (by ac_rfl)) Hhd.out.2 ?_
  intro w6 j7 j8
  refine ⟨fun h => absurd rfl h, ?_⟩
  simp only [Act.put]
  refine txt_done ?_
  go_end0
  exact ⟨rfl, mq, _, Hput.out mq _ _ (s.events + 1) _ _ _ Hset.out j4, j7.eq (by ac_rfl), (E6.out.trans j6).trans j8⟩
end Go.Proofs.Ytnkgfgkgepadhaa

namespace Go.Proofs.Ytnkgfgkgepadhaa
open Go.RowKit
set_option linter.unusedVariables false
set_option linter.unusedSimpArgs false

theorem wrap_up (i : Nat) (h : (i : Int) < 1000) : IntKind.i64.wrap ((i : Int) + 1) = (i : Int) + 1 := by rw [IntKind.wrap_i64]; omega
theorem wrap_neg (i : Nat) (h : (i : Int) < 1000) : IntKind.i64.wrap (-((i : Int) + 1)) = -((i : Int) + 1) := by
  rw [IntKind.wrap_i64]
  generalize hj : (i : Int) + 1 = j
  have h1 : 0 < j := by omega
  have h2 : j ≤ 1000 := by omega
  clear hj h
  omega
theorem size125' : (Try.prog.info? 125).map (·.size) = some 1 := by kernel_rfl
theorem IsRef.head {Pl : MS} {σ : Net} {b : Nat} {m : MS} (h : IsRef Pl σ b m) : ∃ A c, (A = none → σ.sta.length = 0) ∧ ∀ W X, Has W (m + X) → W.cell? ⟨b, 0, none⟩ = some (.slice A σ.sta.length c) := by
  obtain ⟨v0, v1, v2, v3, v4, m0, m1, m2, m3, m4, rfl, h0, h1, h2, h3, h4⟩ := h
  obtain ⟨A0, c0, rfl, hA, _⟩ := SlR.form h0
  have hl0 : σ.helds.length = σ.sta.length := by simp [Net.helds]
  rw [hl0] at hA ⊢
  exact ⟨A0, c0, fun h => (hA h).1, fun W X h => (h.eq (MS.add_assoc _ _ _)).at_ rfl⟩
theorem IsRef.headShots {Pl : MS} {σ : Net} {b : Nat} {m : MS} (h : IsRef Pl σ b m) : ∃ A c, (A = none → σ.shots.length = 0) ∧ ∀ W X, Has W (m + X) → W.cell? ⟨b, 4, none⟩ = some (.slice A σ.shots.length c) := by
  obtain ⟨v0, v1, v2, v3, v4, m0, m1, m2, m3, m4, rfl, h0, h1, h2, h3, h4⟩ := h
  obtain ⟨A0, c0, rfl, hA, _⟩ := SlR.form h4
  exact ⟨A0, c0, fun h => (hA h).1, fun W X h => (h.eq (MS.add_assoc _ _ _)).at_ rfl⟩
theorem Bools.set_at {l : List Bool} {v : Value} {m : MS} (h : Bools l v m) {j : Nat} (hj : j < l.length) :
    ∃ b o c cur, v = .slice (some ⟨b, o, none⟩) l.length c ∧ m = blk b cur 4 ∧ o + j < cur.size ∧ cur[o + j]? = some (.bool (l.getD j false)) ∧ ∀ u, Bools (l.set j u) v (blk b (cur.setIfInBounds (o + j) (.bool u)) 4) := by
  obtain ⟨b, o, c, cur, rfl, rfl, _, hc, hput⟩ := (Bools.cells h).at_ (by omega)
  have hg : cur[o + j]? = some (.bool (l.getD j false)) := by rw [hc j (by omega)]; simp [List.getD, hj]
  refine ⟨b, o, c, cur, rfl, rfl, arr_lt hg, hg, fun u => Bools.of ?_⟩
  have := Sl.set_ (sz := 1) hput hc (by simp) (i := j) (by omega) (.bool u)
  rw [List.map_set, List.length_set]
  exact this
theorem Ints.set_at {l : List Int} {v : Value} {m : MS} (h : Ints l v m) {j : Nat} (hj : j < l.length) :
    ∃ b o c cur, v = .slice (some ⟨b, o, none⟩) l.length c ∧ m = blk b cur 3 ∧ o + j < cur.size ∧ cur[o + j]? = some (.int .i64 (l.getD j 0)) ∧ ∀ u, Ints (l.set j u) v (blk b (cur.setIfInBounds (o + j) (.int .i64 u)) 3) := by
  obtain ⟨b, o, c, cur, rfl, rfl, hat⟩ := Ints.at_ h (by omega)
  exact ⟨b, o, c, cur, rfl, rfl, arr_lt (hat.get hj), hat.get hj, fun u => by have := (hat.set hj u).ints (b := b); simpa using this⟩

set_option maxHeartbeats 4000000 in
set_option maxRecDepth 100000 in
theorem rrecords_any {F : MS} {σ : Net} {b : Nat} {m : MS} {w : World} (hok : NetOk σ) (h : IsRef F σ b m) (hH : Has w (m + F)) (k i : Nat) (s : Sta) (hs : σ.sta[k]? = some s) (hck : s.events = s.clock.getD k 0) (x : Shot) (hx : σ.shots[i]? = some x) :
    Calls Try.prog 91 #[.pointer (some ⟨b, 0, none⟩), .int .i64 i, .int .i64 k] w fun e w' => e = .returned (.tuple #[]) ∧ ∃ m', IsRef F (σ.record k i) b m' ∧ Has w' (m' + F) ∧ Ext w w' := by
  have hk : k < σ.sta.length := (List.getElem?_eq_some_iff.1 hs).1
  have hi : i < σ.shots.length := (List.getElem?_eq_some_iff.1 hx).1
  have hi8 : (i : Int) < 8 := by have := hok.shots; omega
  have hn5 : σ.sta.length ≤ 5 := hok.n5
  obtain ⟨q1, q2, q3, q4, q5, q6⟩ := hok.sta s (List.mem_of_getElem? hs)
  obtain ⟨z1, z2, z3, z4, z5, z6, z7⟩ := hok.shot x (List.mem_of_getElem? hx)
  obtain ⟨hd, b4, o4, c4, cur4, v0, v1, v2, v3, v4, m0, m1, m2, m3, m4, R, rfl, i4, ⟨e0, e1, e2, e3, e4⟩, r0, r1, r2, r3, r4, ⟨w0, w1, n0, n1, R', rfl, i0, i1, hh, hc⟩, hput⟩ := h.shot hx
  obtain ⟨br, orr, cr, curr, rfl, rfl, lr, _, pr⟩ := r0.set_at (j := k) (by omega)
  obtain ⟨bp, op, cp, curp, rfl, rfl, lp, _, pp⟩ := r1.set_at (j := k) (by omega)
  obtain ⟨bc, oc, cc, curc, rfl, rfl, lc, _, pc⟩ := r2.set_at (j := k) (by omega)
  obtain ⟨T3, t3, rfl, _⟩ := SlR.form r3
  obtain ⟨T4, t4, rfl, _⟩ := SlR.form r4
  have hl0 : σ.helds.length = σ.sta.length := by simp [Net.helds]
  have hl1 : σ.clocks.length = σ.sta.length := by simp [Net.clocks]
  obtain ⟨bh, oh, ch, curh, rfl, rfl, _, gh, _⟩ := hh.set_at (j := k) (by omega)
  have ghv : σ.helds.getD k 0 = s.pieces := by simp [Net.helds, hs]
  rw [ghv] at gh
  obtain ⟨bk, ok, ck, curk, ci, n1, n2, rfl, rfl, ⟨vc, rfl, hcl, hone⟩, hcell, _⟩ := SlR.take El.len hc (i := k) (by omega)
  have hgc : σ.clocks[k]'(by omega) = s.clock := by have := (List.getElem?_eq_some_iff.1 hs).2; simp [Net.clocks, this]
  rw [hgc] at hcl
  have gk := hcell 0 (by omega)
  simp only [Nat.mul_one, Nat.add_zero, List.getElem?_cons_zero] at gk
  obtain ⟨bq, oq, cq, curq, rfl, rfl, _, gq, _⟩ := hcl.set_at (j := k) (by omega)
  rw [← hck] at gq
  rw [hl0] at i0
  rw [hl1] at i1
  -- the copy of the struct
  obtain ⟨SV, hSV⟩ : ∃ SV : Array Value, SV = #[.slice (some ⟨br, orr, none⟩) x.recorded.length cr, .slice (some ⟨bp, op, none⟩) x.pieces.length cp, .slice (some ⟨bc, oc, none⟩) x.cut.length cc, .slice T3 x.closed.length t3, .slice T4 x.under.length t4] := ⟨_, rfl⟩
  have H0 : Has w (blk b hd 118 + (blk b4 cur4 150 + (blk br curr 4 + (blk bp curp 3 + (blk bc curc 3 + (m3 + m4))) + (blk bh curh 3 + (blk bk curk 22 + (blk bq curq 3 + n2) + R'))) + F)) := hH.eq (by ac_rfl)
  have f4 := H0.at_ i4
  have H0' := H0.eq (b := blk b4 cur4 150 + (blk b hd 118 + (blk br curr 4 + (blk bp curp 3 + (blk bc curc 3 + (m3 + m4))) + (blk bh curh 3 + (blk bk curk 22 + (blk bq curq 3 + n2) + R')) + F))) (by ac_rfl)
  have g0 := H0'.at_ e0
  have g1 := H0'.at_ e1
  have g2 := H0'.at_ e2
  have g3 := H0'.at_ e3
  have g4 := H0'.at_ e4
  have gbl := World.block_lt_of_cell? _ _ g0
  simp only at gbl
  have HA := H0.alloc (.cells SV 150)
  obtain ⟨g, hg⟩ : ∃ g, g = w.heap.size := ⟨_, rfl⟩
  have keep : ∀ (W : World) (X : MS), Has W (X + (blk g SV 150 + (blk b hd 118 + (blk bh curh 3 + (blk bk curk 22 + blk bq curq 3))))) →
      W.cell? ⟨g, 0, none⟩ = some (.slice (some ⟨br, orr, none⟩) x.recorded.length cr) ∧ W.cell? ⟨g, 1, none⟩ = some (.slice (some ⟨bp, op, none⟩) x.pieces.length cp) ∧ W.cell? ⟨g, 2, none⟩ = some (.slice (some ⟨bc, oc, none⟩) x.cut.length cc) ∧
      W.cell? ⟨b, 0, none⟩ = some (.slice (some ⟨bh, oh, none⟩) σ.sta.length ch) ∧ W.cell? ⟨b, 1, none⟩ = some (.slice (some ⟨bk, ok, none⟩) σ.sta.length ck) ∧ W.cell? ⟨bh, oh + k, none⟩ = some (.int .i64 s.pieces) ∧
      W.cell? ⟨bk, ok + k, none⟩ = some (.slice (some ⟨bq, oq, none⟩) s.clock.length cq) ∧ W.cell? ⟨bq, oq + k, none⟩ = some (.int .i64 s.events) := fun W X h => by
    have a1 := h.eq (b := blk g SV 150 + (X + (blk b hd 118 + (blk bh curh 3 + (blk bk curk 22 + blk bq curq 3))))) (by ac_rfl)
    have a2 := h.eq (b := blk b hd 118 + (X + (blk g SV 150 + (blk bh curh 3 + (blk bk curk 22 + blk bq curq 3))))) (by ac_rfl)
    have a3 := h.eq (b := blk bh curh 3 + (X + (blk g SV 150 + (blk b hd 118 + (blk bk curk 22 + blk bq curq 3))))) (by ac_rfl)
    have a4 := h.eq (b := blk bk curk 22 + (X + (blk g SV 150 + (blk b hd 118 + (blk bh curh 3 + blk bq curq 3))))) (by ac_rfl)
    have a5 := h.eq (b := blk bq curq 3 + (X + (blk g SV 150 + (blk b hd 118 + (blk bh curh 3 + blk bk curk 22))))) (by ac_rfl)
    exact ⟨a1.at_ (by rw [hSV]; rfl), a1.at_ (by rw [hSV]; rfl), a1.at_ (by rw [hSV]; rfl), a2.at_ i0, a2.at_ i1, a3.at_ gh, a4.at_ gk, a5.at_ gq⟩
  have HB : Has (w.alloc (.cells SV 150)) (blk br curr 4 + (blk bp curp 3 + (blk bc curc 3 + ((m3 + m4) + (blk b4 cur4 150 + (n2 + R' + F)))) + (blk g SV 150 + (blk b hd 118 + (blk bh curh 3 + (blk bk curk 22 + blk bq curq 3)))))) := HA.eq (by rw [hg]; show pts _ _ + _ = _; unfold blk; ac_rfl)
  obtain ⟨k0, _⟩ := keep _ (blk br curr 4 + (blk bp curp 3 + (blk bc curc 3 + ((m3 + m4) + (blk b4 cur4 150 + (n2 + R' + F)))))) (HB.eq (by ac_rfl))
  have EA := hid (Ext.alloc w (.cells SV 150))
  have hrec : σ.record k i = ({ σ with shots := σ.shots.set i { x with recorded := x.recorded.set k true, pieces := x.pieces.set k s.pieces, cut := x.cut.set k s.events } } : Net).mark k (i + 1) σ.sta.length := by simp only [Net.record, hs, hx]
  have Hnew := hid (hput { x with recorded := x.recorded.set k true, pieces := x.pieces.set k s.pieces, cut := x.cut.set k s.events } _ _ _ _ _ (pr true) (pp s.pieces) (pc s.events) r3 r4)
  rw [hrec]
  clear hrec
  obtain ⟨σ1, hσ1⟩ : ∃ σ1 : Net, σ1 = { σ with shots := σ.shots.set i { x with recorded := x.recorded.set k true, pieces := x.pieces.set k s.pieces, cut := x.cut.set k s.events } } := ⟨_, rfl⟩
  rw [← hσ1] at Hnew ⊢
  have e1 : σ1.sta = σ.sta := by rw [hσ1]
  have e2 : σ1.chan = σ.chan := by rw [hσ1]
  have hE := hid (And.intro e1 e2)
  clear hσ1 e1 e2
  have Hkeep := hid keep
  have HB' := hid HB
  have hkr : (k : Int) < x.recorded.length := by omega
  have hkp : (k : Int) < x.pieces.length := by omega
  have hkc : (k : Int) < x.cut.length := by omega
  have hkq : (k : Int) < s.clock.length := by omega
  have Hok := hid hok
  have Hz := hid (And.intro q1 (And.intro q4 (And.intro q5 (And.intro z1 (And.intro z4 z5)))))
  have Hck := hid hck
  have qs : (σ.sta.length : Int) ≤ 5 := by omega
  subst hSV
  rw [hg] at k0
  clear hput pr pp pc r0 r1 r2 r3 r4 hh hc hcl hcell hone keep HB HA H0 H0' hH h hok hs hx e0 e1 e2 e3 e4 i0 i1 i4 gh gk gq q6 z3 z7 q1 q2 q3 q4 q5 z1 z2 z4 z5 z6 hl0 hl1 ghv hgc hck
  go_enter Try.func91, Try.ntmps91
  go_wp2_with (refine wpList_store_blk rfl (.tmp 18) (.const (.bool true)) 4 rfl size4 br (orr + k) (.bool true) rfl rfl rfl curr 4 _ HB'.out lr ?_; intro w2 H1 E1)
  have H2 := hid (show Has w2.drew (0 + (blk br (curr.setIfInBounds (orr + k) (.bool true)) 4 + (blk bp curp 3 + (blk bc curc 3 + ((m3 + m4) + (blk b4 cur4 150 + (n2 + R' + F)))) + (blk g #[.slice (some ⟨br, orr, none⟩) x.recorded.length cr, .slice (some ⟨bp, op, none⟩) x.pieces.length cp, .slice (some ⟨bc, oc, none⟩) x.cut.length cc, .slice T3 x.closed.length t3, .slice T4 x.under.length t4] 150 + (blk b hd 118 + (blk bh curh 3 + (blk bk curk 22 + blk bq curq 3))))))) from by rw [MS.zero_add]; exact H1.drew)
  have E2 := hid ((EA.out.trans E1).trans (Ext.drew _))
  have hS := Hkeep.out w2.drew (blk br (curr.setIfInBounds (orr + k) (.bool true)) 4 + (blk bp curp 3 + (blk bc curc 3 + ((m3 + m4) + (blk b4 cur4 150 + (n2 + R' + F)))))) (H2.out.eq (by rw [MS.zero_add]; ac_rfl))
  rw [← hg]
  simp only [Act.put]
  clear hg gbl
  clear H1 E1 HB' f4 g0 g1 g2 g3 g4 k0 EA
  refine wp_region_txt (fun W => W.cell? ⟨g, 0, none⟩ = some (.slice (some ⟨br, orr, none⟩) x.recorded.length cr) ∧ W.cell? ⟨g, 1, none⟩ = some (.slice (some ⟨bp, op, none⟩) x.pieces.length cp) ∧ W.cell? ⟨g, 2, none⟩ = some (.slice (some ⟨bc, oc, none⟩) x.cut.length cc) ∧
      W.cell? ⟨b, 0, none⟩ = some (.slice (some ⟨bh, oh, none⟩) σ.sta.length ch) ∧ W.cell? ⟨b, 1, none⟩ = some (.slice (some ⟨bk, ok, none⟩) σ.sta.length ck) ∧ W.cell? ⟨bh, oh + k, none⟩ = some (.int .i64 s.pieces) ∧
      W.cell? ⟨bk, ok + k, none⟩ = some (.slice (some ⟨bq, oq, none⟩) s.clock.length cq) ∧ W.cell? ⟨bq, oq + k, none⟩ = some (.int .i64 s.events)) (some 11)
    [(0, true), (1, true), (2, true), (3, true), (4, true), (5, true), (6, true), (7, true), (8, true), (9, true), (10, true), (11, false)] (by kernel_rfl) rfl (by kernel_rfl) (by kernel_rfl) (by repeat (first | with_reducible refine PanicOk.thn ?_ | with_reducible refine PanicOk.blk ?_ | exact PanicOk.body _ _ _)) ?_
  generalize w2.drew = w3 at *
  repeat
    (refine txt_quiet ?_ hS rfl rfl (fun W hW => ?_) ?_
     rotate_left 1
     · obtain ⟨hW1, hW2, hW3, hW4, hW5, hW6, hW7, hW8⟩ := hW
       go_simp
       exact rfl
     simp only [Act.put, List.setIfInBounds_toArray, List.set_cons_zero, List.set_cons_succ])
  refine txt_op rfl rfl ?_
  refine op_store_blk (.tmp 29) (.tmp 28) 3 rfl size3 bp (op + k) (.int .i64 s.pieces) rfl rfl rfl curp 3 _ (H2.out.eq (b := blk bp curp 3 + ((blk br (curr.setIfInBounds (orr + k) (.bool true)) 4 + (blk bc curc 3 + ((m3 + m4) + (blk b4 cur4 150 + (n2 + R' + F))))) + (blk g #[.slice (some ⟨br, orr, none⟩) x.recorded.length cr, .slice (some ⟨bp, op, none⟩) x.pieces.length cp, .slice (some ⟨bc, oc, none⟩) x.cut.length cc, .slice T3 x.closed.length t3, .slice T4 x.under.length t4] 150 + (blk b hd 118 + (blk bh curh 3 + (blk bk curk 22 + blk bq curq 3)))))) (by rw [MS.zero_add]; ac_rfl)) lp ?_
  intro w4 j7 j8
  refine ⟨fun h => absurd rfl h, ?_⟩
  simp only [Act.put]
  refine txt_done ?_
  have H4 := hid j7
  have E4 := hid (E2.out.trans j8)
  clear hS H2 E2 j7 j8
  go_wp2
  have H5 := hid (show Has w4.drew ((blk bp (curp.setIfInBounds (op + k) (.int .i64 s.pieces)) 3 + (blk br (curr.setIfInBounds (orr + k) (.bool true)) 4 + (blk bc curc 3 + ((m3 + m4) + (blk b4 cur4 150 + (n2 + R' + F)))))) + (blk g #[.slice (some ⟨br, orr, none⟩) x.recorded.length cr, .slice (some ⟨bp, op, none⟩) x.pieces.length cp, .slice (some ⟨bc, oc, none⟩) x.cut.length cc, .slice T3 x.closed.length t3, .slice T4 x.under.length t4] 150 + (blk b hd 118 + (blk bh curh 3 + (blk bk curk 22 + blk bq curq 3))))) from H4.out.drew.eq (by ac_rfl))
  have hS := Hkeep.out _ _ H5.out
  have E5 := hid (E4.out.trans (Ext.drew _))
  clear H4 E4
  refine wp_region_txt (fun W => W.cell? ⟨g, 0, none⟩ = some (.slice (some ⟨br, orr, none⟩) x.recorded.length cr) ∧ W.cell? ⟨g, 1, none⟩ = some (.slice (some ⟨bp, op, none⟩) x.pieces.length cp) ∧ W.cell? ⟨g, 2, none⟩ = some (.slice (some ⟨bc, oc, none⟩) x.cut.length cc) ∧
      W.cell? ⟨b, 0, none⟩ = some (.slice (some ⟨bh, oh, none⟩) σ.sta.length ch) ∧ W.cell? ⟨b, 1, none⟩ = some (.slice (some ⟨bk, ok, none⟩) σ.sta.length ck) ∧ W.cell? ⟨bh, oh + k, none⟩ = some (.int .i64 s.pieces) ∧
      W.cell? ⟨bk, ok + k, none⟩ = some (.slice (some ⟨bq, oq, none⟩) s.clock.length cq) ∧ W.cell? ⟨bq, oq + k, none⟩ = some (.int .i64 s.events)) (some 14)
    [(0, true), (1, true), (2, true), (3, true), (4, true), (5, true), (6, true), (7, true), (8, true), (9, true), (10, true), (11, true), (12, true), (13, true), (14, false)] (by kernel_rfl) rfl (by kernel_rfl) (by kernel_rfl) (by repeat (first | with_reducible refine PanicOk.thn ?_ | with_reducible refine PanicOk.blk ?_ | exact PanicOk.body _ _ _)) ?_
  generalize w4.drew = w5 at *
  repeat
    (refine txt_quiet ?_ hS rfl rfl (fun W hW => ?_) ?_
     rotate_left 1
     · obtain ⟨hW1, hW2, hW3, hW4, hW5, hW6, hW7, hW8⟩ := hW
       go_simp
       exact rfl
     simp only [Act.put, List.setIfInBounds_toArray, List.set_cons_zero, List.set_cons_succ])
  refine txt_op rfl rfl ?_
  refine op_store_blk (.tmp 43) (.tmp 42) 3 rfl size3 bc (oc + k) (.int .i64 s.events) rfl rfl rfl curc 3 _ (H5.out.eq (b := blk bc curc 3 + ((blk bp (curp.setIfInBounds (op + k) (.int .i64 s.pieces)) 3 + (blk br (curr.setIfInBounds (orr + k) (.bool true)) 4 + ((m3 + m4) + (blk b4 cur4 150 + (n2 + R' + F))))) + (blk g #[.slice (some ⟨br, orr, none⟩) x.recorded.length cr, .slice (some ⟨bp, op, none⟩) x.pieces.length cp, .slice (some ⟨bc, oc, none⟩) x.cut.length cc, .slice T3 x.closed.length t3, .slice T4 x.under.length t4] 150 + (blk b hd 118 + (blk bh curh 3 + (blk bk curk 22 + blk bq curq 3)))))) (by ac_rfl)) lc ?_
  intro w6 j7 j8
  refine ⟨fun h => absurd rfl h, ?_⟩
  simp only [Act.put]
  refine txt_done ?_
  have H6 := hid (show Has w6 _ from (j7.eq (b := blk g #[.slice (some ⟨br, orr, none⟩) x.recorded.length cr, .slice (some ⟨bp, op, none⟩) x.pieces.length cp, .slice (some ⟨bc, oc, none⟩) x.cut.length cc, .slice T3 x.closed.length t3, .slice T4 x.under.length t4] 150 + ((blk b hd 118 +
        (blk b4 cur4 150 +
          (blk br (curr.setIfInBounds (orr + k) (Value.bool true)) 4 +
              (blk bp (curp.setIfInBounds (op + k) (Value.int IntKind.i64 s.pieces)) 3 +
                (blk bc (curc.setIfInBounds (oc + k) (Value.int IntKind.i64 s.events)) 3 + (m3 + m4))) +
            (blk bh curh 3 + (blk bk curk 22 + (blk bq curq 3 + n2) + R'))))) + F)) (by ac_rfl)).right)
  have E6 := hid (E5.out.trans j8)
  clear hS H5 E5 j7 j8 Hkeep
  clear Hz
  generalize blk b hd 118 + _ = m6 at H6 Hnew
  go_wp2
  go_loopw [7] (fun v wq => ∃ t : Nat, t ≤ σ.sta.length ∧ v = .int .i64 t ∧ ∃ mt, IsRef F (σ1.mark k (i + 1) t) b mt ∧ Has wq (mt + F) ∧ Ext w wq) (fun v _ => σ.sta.length - (intOf v).toNat)
  case atStart => exact ⟨0, Nat.zero_le _, rfl, m6, Hnew.out, H6.out, E6.out⟩
  case round =>
    obtain ⟨t, ht, rfl, mt, hNt, hHt, hEt⟩ := hrel
    obtain ⟨A0, c0, _, hcell0⟩ := hNt.head
    have hkeeps := Net.mark_keeps σ1 k (i + 1) t
    have f0 := hcell0 _ _ hHt
    rw [hkeeps.1, hE.out.1] at f0
    clear hcell0
    have Hkeeps := hid hkeeps
    have HNt := hid hNt
    have HHt := hid hHt
    have HEt := hid hEt
    clear hkeeps hNt hHt hEt
    by_cases hlt : t < σ.sta.length
    · have Hlt := hid hlt
      by_cases htk : t = k
      · subst htk
        have hq : ((t : Int) != (t : Int)) = false := by simp
        clear hlt
        go_wp2
        go_roundw
        case rel => exact ⟨t + 1, Hlt.out, by go_num, mt, by unfold Net.mark; rw [if_pos rfl]; exact HNt.out, HHt.out, HEt.out⟩
        case measure => have := Hlt.out; simp [intOf]; omega
      · have hq : ((t : Int) != (k : Int)) = true := by simp; omega
        have Htk := hid htk
        clear htk
        obtain ⟨r, hr, hrl, hrj⟩ := chan_get Hok.out hk
        obtain ⟨r', hr', hrl', hrt'⟩ := Net.mark_row σ1 k (i + 1) (r := r) (by rw [hE.out.2]; exact hr) t (by rw [hrl]; exact ht)
        have hrt := hrt' t (Nat.le_refl _)
        rw [hrj t hlt] at hrt
        have hll := line_len Hok.out hk hlt
        obtain ⟨hd2, b1, o1, c1, cur1, b2, o2, c2, cur2, v, mq, R2, hm, _, y2, y3, y4, hln, _, hputl⟩ := HNt.out.line hr' hrt
        have hcl : (σ1.mark k (i + 1) t).chan.length = σ.sta.length := by rw [Hkeeps.out.2.2.2, hE.out.2, Hok.out.rows]
        rw [hcl] at y2
        have hrl2 : r'.length = σ.sta.length := by rw [hrl', hrl]; rfl
        rw [hrl2] at y3
        obtain ⟨Al, cl, rfl, _⟩ := SlR.form hln
        have keep : ∀ (W : World) (X : MS), Has W (X + (blk b hd2 118 + (blk b1 cur1 119 + blk b2 cur2 125))) → W.cell? ⟨b, 2, none⟩ = some (.slice (some ⟨b1, o1, none⟩) σ.sta.length c1) ∧ W.cell? ⟨b1, o1 + k, none⟩ = some (.slice (some ⟨b2, o2, none⟩) σ.sta.length c2) ∧ W.cell? ⟨b2, o2 + t, none⟩ = some (.slice Al (σ.lineAt k t).length cl) := fun W X h =>
          ⟨(h.eq (b := blk b hd2 118 + (X + (blk b1 cur1 119 + blk b2 cur2 125))) (by ac_rfl)).at_ y2, (h.eq (b := blk b1 cur1 119 + (X + (blk b hd2 118 + blk b2 cur2 125))) (by ac_rfl)).at_ y3, (h.eq (b := blk b2 cur2 125 + (X + (blk b hd2 118 + blk b1 cur1 119))) (by ac_rfl)).at_ y4⟩
        have H7 := hid (show Has wr.drew ((mq + (R2 + F)) + (blk b hd2 118 + (blk b1 cur1 119 + blk b2 cur2 125))) from HHt.out.drew.eq (by rw [hm]; ac_rfl))
        have hS := keep _ _ H7.out
        have Hkeep := hid keep
        have E7 := hid (HEt.out.trans (Ext.drew _))
        have Hln := hid hln
        have Hputl := hid hputl
        have Hll := hid hll
        have Hr' := hid hr'
        have Hrt := hid hrt
        have Hy4 := hid (arr_lt y4)
        have hltI : (t : Int) < σ.sta.length := by omega
        have hw1 : IntKind.i64.wrap ((i : Int) + 1) = (i : Int) + 1 := wrap_up i (by omega)
        have hw2 : IntKind.i64.wrap (-((i : Int) + 1)) = -((i : Int) + 1) := wrap_neg i (by omega)
        have hkI : (k : Int) < σ.sta.length := by omega
        clear hr hrl hrj hr' hrl' hrt' hrt hll hm y2 y3 y4 hln hputl hcl hrl2 keep hlt HHt HEt
        go_wp2
        refine wp_region_txt (fun W => W.cell? ⟨b, 2, none⟩ = some (.slice (some ⟨b1, o1, none⟩) σ.sta.length c1) ∧ W.cell? ⟨b1, o1 + k, none⟩ = some (.slice (some ⟨b2, o2, none⟩) σ.sta.length c2) ∧ W.cell? ⟨b2, o2 + t, none⟩ = some (.slice Al (σ.lineAt k t).length cl)) (some 25)
          [(0, true), (1, true), (2, true), (3, true), (4, true), (5, true), (6, true), (7, true), (8, true), (9, true), (10, true), (11, true), (12, true), (13, true), (14, true), (15, true), (16, true), (17, true), (18, true), (19, true), (20, true), (21, true), (22, false), (23, false), (24, true), (25, false)] (by kernel_rfl) rfl (by kernel_rfl) (by kernel_rfl) (by repeat (first | with_reducible refine PanicOk.thn ?_ | with_reducible refine PanicOk.blk ?_ | exact PanicOk.body _ _ _)) ?_
        repeat
          (refine txt_quiet ?_ hS rfl rfl (fun W hW => ?_) ?_
           rotate_left 1
           · obtain ⟨hW1, hW2, hW3⟩ := hW
             go_simp
             exact rfl
           simp only [Act.put, List.setIfInBounds_toArray, List.set_cons_zero, List.set_cons_succ])
        refine txt_op rfl rfl ?_
        refine op_run (.slice (some ⟨wr.heap.size, 0, none⟩) 1 1) (wr.drew.alloc (.cells #[.int .i64 (-((i : Int) + 1)), .slice none 0 0] 127)) (by go_simp) ?_
        have hS4 := Hkeep.out (wr.drew.alloc (.cells #[.int .i64 (-((i : Int) + 1)), .slice none 0 0] 127)) (pts wr.heap.size (.cells #[.int .i64 (-((i : Int) + 1)), .slice none 0 0] 127) + (mq + (R2 + F))) ((H7.out.alloc _).eq (by show pts wr.heap.size _ + _ = _; ac_rfl))
        refine ⟨fun _ => hS4, ?_⟩
        simp only [Act.put, List.setIfInBounds_toArray, List.set_cons_zero, List.set_cons_succ]
        clear hS
        refine txt_op rfl rfl ?_
        refine op_push (.tmp 73) (.tmp 78) row125 rfl (.slice Al (σ.lineAt k t).length cl) rfl _ rfl rfl (Pooled RT.rmsg F) Pooled.one Pooled.len (σ.lineAt k t) ⟨-((i : Int) + 1), []⟩ mq 0 ((R2 + F) + (blk b hd2 118 + (blk b1 cur1 119 + blk b2 cur2 125))) Hln.out (pooled_msg ⟨_, rfl, RdS.nil _ _⟩) (H7.out.eq (by rw [MS.zero_add]; ac_rfl)) (σ.lineAt k t).length rfl (by have := Hll.out; omega) (by omega) ?_
        intro A8 c8 w8 m8 j4 j5 j6
        have hS5 := Hkeep.out w8 (m8 + (R2 + F)) (j5.eq (by ac_rfl))
        refine ⟨fun _ => hS5, ?_⟩
        simp only [Act.put, List.setIfInBounds_toArray, List.set_cons_zero, List.set_cons_succ]
        clear hS4
        repeat
          (refine txt_quiet ?_ hS5 rfl rfl (fun W hW => ?_) ?_
           rotate_left 1
           · obtain ⟨hW1, hW2, hW3⟩ := hW
             go_simp
             exact rfl
           simp only [Act.put, List.setIfInBounds_toArray, List.set_cons_zero, List.set_cons_succ])
        refine txt_op rfl rfl ?_
        refine op_store_blk (.tmp 80) (.tmp 79) 125 rfl size125' b2 (o2 + t) (.slice A8 ((σ.lineAt k t).length + 1) c8) rfl rfl rfl cur2 125 _ (j5.eq (b := blk b2 cur2 125 + (blk b hd2 118 + (blk b1 cur1 119 + (m8 + R2)) + F)) (by ac_rfl)) Hy4.out ?_
        intro w9 j7 j8
        refine ⟨fun h => absurd rfl h, ?_⟩
        simp only [Act.put]
        refine txt_done ?_
        have H9 := hid (show Has w9 ((blk b hd2 118 + (blk b1 cur1 119 + (blk b2 (cur2.setIfInBounds (o2 + t) (.slice A8 ((σ.lineAt k t).length + 1) c8)) 125 + (m8 + R2)))) + F) from j7.eq (by ac_rfl))
        have E9 := hid ((E7.out.trans j6).trans j8)
        have Hm8 := hid (show RLine (0 + F) (σ.lineAt k t ++ [⟨-((i : Int) + 1), []⟩]) (.slice A8 ((σ.lineAt k t).length + 1) c8) m8 by rw [MS.zero_add]; exact j4)
        clear hS5 j4 j5 j6 j7 j8 H7 E7
        go_wp2
        go_roundw
        case rel =>
          refine ⟨t + 1, Hlt.out, by go_num, _, ?_, H9.out, E9.out⟩
          have e := Net.push_chan Hr'.out Hrt.out ⟨-((i : Int) + 1), []⟩
          unfold Net.mark
          rw [if_neg Htk.out, e]
          have := Hputl.out 0 _ _ _ Hm8.out
          rw [MS.zero_add] at this
          exact this
        case measure => have := Hlt.out; simp [intOf]; omega
    · obtain rfl : t = σ.sta.length := by omega
      go_wp2
      go_end0
      exact ⟨rfl, mt, HNt.out, HHt.out, HEt.out⟩
end Go.Proofs.Ytnkgfgkgepadhaa

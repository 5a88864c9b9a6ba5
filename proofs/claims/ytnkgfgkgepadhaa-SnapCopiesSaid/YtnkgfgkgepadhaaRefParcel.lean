/-
  The walk of the reference's Receive: a parcel that is taken.
-/
import Derived.Test.YtnkgfgkgepadhaaRefRecv
namespace Go.Proofs.Ytnkgfgkgepadhaa
open Go.RowKit
set_option linter.unusedVariables false
set_option linter.unusedSimpArgs false

/-- What is read of a snapshot. -/
theorem IsRef.look {Pl : MS} {σ : Net} {b : Nat} {m : MS} (h : IsRef Pl σ b m) {i j k : Nat} {x : Shot} {r : List Bool} (hx : σ.shots[k]? = some x) (hj : j < x.recorded.length) (hr : x.closed[i]? = some r) (hj2 : j < r.length) :
    ∃ b4 o4 c4 br orr cr b3 o3 c3 bq oq cq, ∀ (W : World) (X : MS), Has W (m + X) → W.cell? ⟨b, 4, none⟩ = some (.slice (some ⟨b4, o4, none⟩) σ.shots.length c4) ∧ W.cell? ⟨b4, o4 + k * 5, none⟩ = some (.slice (some ⟨br, orr, none⟩) x.recorded.length cr) ∧ W.cell? ⟨br, orr + j, none⟩ = some (.bool (x.recorded.getD j false)) ∧
      W.cell? ⟨b4, o4 + k * 5 + 3, none⟩ = some (.slice (some ⟨b3, o3, none⟩) x.closed.length c3) ∧ W.cell? ⟨b3, o3 + i, none⟩ = some (.slice (some ⟨bq, oq, none⟩) r.length cq) ∧ W.cell? ⟨bq, oq + j, none⟩ = some (.bool (r.getD j false)) := by
  obtain ⟨b4, o4, c4, br, orr, cr, h1⟩ := h.rec_at hx hj
  obtain ⟨hd, b5, o5, c5, cur4, b3, o3, c3, cur3, bq, oq, cq, curq, R, rfl, y1, y2, y3, y4, y5, _⟩ := h.closing hx hr hj2
  refine ⟨b5, o5, c5, br, orr, cr, b3, o3, c3, bq, oq, cq, fun W X hW => ?_⟩
  obtain ⟨f1, f2, f3⟩ := h1 W X hW
  have g1 : W.cell? ⟨b, 4, none⟩ = some (.slice (some ⟨b5, o5, none⟩) σ.shots.length c5) := (hW.eq (MS.add_assoc _ _ _)).at_ y1
  have e := f1.symm.trans g1
  simp only [Option.some.injEq, Value.slice.injEq, Addr.mk.injEq] at e
  obtain ⟨⟨rfl, rfl, _⟩, _, rfl⟩ := e
  exact ⟨g1, f2, f3, (hW.eq (b := blk b4 cur4 150 + (blk b hd 118 + (blk b3 cur3 69 + (blk bq curq 4 + R)) + X)) (by ac_rfl)).at_ y2,
    (hW.eq (b := blk b3 cur3 69 + (blk b hd 118 + (blk b4 cur4 150 + (blk bq curq 4 + R)) + X)) (by ac_rfl)).at_ y3, (hW.eq (b := blk bq curq 4 + (blk b hd 118 + (blk b4 cur4 150 + (blk b3 cur3 69 + R)) + X)) (by ac_rfl)).at_ y5⟩
/-- All ints of a row, as read. -/
theorem RdS.allInts {F : MS} {l : List Int} {A : Option Addr} {n c : Nat} (h : RdS F RT.int l (.slice A n c)) (hl : 0 < l.length) : ∃ b o, A = some ⟨b, o, none⟩ ∧ ∀ t, t < l.length → F.at b (o + t) (.int .i64 (l.getD t 0)) := by
  obtain ⟨b, o, rfl, _⟩ := h.getInt (i := 0) (List.getElem?_eq_getElem hl)
  refine ⟨b, o, rfl, fun t ht => ?_⟩
  obtain ⟨b', o', e, h'⟩ := h.getInt (i := t) (List.getElem?_eq_getElem ht)
  simp only [Option.some.injEq, Addr.mk.injEq] at e
  obtain ⟨rfl, rfl, _⟩ := e
  have : l.getD t 0 = l[t] := by simp [List.getD, ht]
  rw [this]
  exact h'

set_option maxHeartbeats 8000000
set_option maxRecDepth 100000
theorem rrecv_parcel {F : MS} {σ : Net} {b : Nat} {w : World} (hok : NetOk σ) (hr : RdRef F σ b) (hH : Has w F) (i j : Nat) (hi : i < σ.sta.length) (hj : j < σ.sta.length) (h1 : pairErr σ.sta.length i j = 0) (z : Msg) (l : List Msg) (hl : σ.lineAt i j = z :: l)
    (hz : 0 < z.told) (hz2 : z.told ≤ 1000000) (hzl : z.clock.length = σ.sta.length) (hzc : ∀ t ∈ z.clock, 0 ≤ t ∧ t ≤ σ.evs.length) (he : σ.evs.length < 400) :
    Calls Try.prog 70 #[.pointer (some ⟨b, 0, none⟩), .int .i64 i, .int .i64 j] w (RPost F w 0 ((σ.drop i j).take i j z)) := by
  obtain ⟨A0, c0, A2, c2, A3, c3, A4, c4, a0, k0, _, _, a3, k3, a4, k4⟩ := hr.head
  obtain ⟨bl, ol, cl, b2, o2, c2, A, c, l1, l2, l3, l4⟩ := hr.line hok hi hj
  rw [hl] at l3 l4
  obtain ⟨bm, om, Ac, cc, rfl, m1, m2, m3⟩ := l4.getRmsg (i := 0) (x := z) rfl
  simp only [Nat.zero_mul, Nat.add_zero] at m1 m2
  have n2 := hok.n2
  have n5 := hok.n5
  obtain ⟨bz, oz, rfl, mz⟩ := m3.allInts (by omega)
  rw [hzl] at m2
  have f0 := a0.cell0 hH
  have f1 := l1.cell0 hH
  have f2 := l2.cell0 hH
  have f3 := l3.cell0 hH
  have f4 := m1.cell0 hH
  have f5 := m2.cell0 hH
  have Hends := hid (ends_ref f0 i j)
  rw [h1] at Hends
  have HA := hH.alloc (.cells #[.int .i64 z.told, .slice (some ⟨bz, oz, none⟩) σ.sta.length cc] 127)
  obtain ⟨G, hG⟩ : ∃ G, G = pts w.heap.size (.cells #[.int .i64 z.told, .slice (some ⟨bz, oz, none⟩) σ.sta.length cc] 127) := ⟨_, rfl⟩
  rw [← hG] at HA
  have Hf7 := hid (show ∀ W X, Has W (X + (G + F)) → W.cell? ⟨w.heap.size, 0, none⟩ = some (.int .i64 z.told) from fun W X h => Has.at_ (p := w.heap.size) (i := 0) (F := X + F) (cs := #[.int .i64 z.told, .slice (some ⟨bz, oz, none⟩) σ.sta.length cc]) (e := 127) (h.eq (by rw [hG]; unfold blk; ac_rfl)) rfl)
  have Hf8 := hid (show ∀ W X, Has W (X + (G + F)) → W.cell? ⟨w.heap.size, 1, none⟩ = some (.slice (some ⟨bz, oz, none⟩) σ.sta.length cc) from fun W X h => Has.at_ (p := w.heap.size) (i := 1) (F := X + F) (cs := #[.int .i64 z.told, .slice (some ⟨bz, oz, none⟩) σ.sta.length cc]) (e := 127) (h.eq (by rw [hG]; unfold blk; ac_rfl)) rfl)
  have g7 := Hf7.out _ 0 (by rw [MS.zero_add]; exact HA)
  have g8 : (w.alloc (.cells #[.int .i64 z.told, .slice (some ⟨bz, oz, none⟩) σ.sta.length cc] 127)).cell? ⟨b, 3, none⟩ = some (.slice A3 σ.evs.length c3) := MS.at.cell a3 HA
  have Hmz := hid mz
  have Hr := hid (hr.more G)
  have HH := hid HA
  have Hc := hid (rcopy_any hok (hr.more G) HA)
  have hiI : (i : Int) < σ.sta.length := by omega
  have hjI : (j : Int) < σ.sta.length := by omega
  have heI : ¬ (400 : Int) ≤ σ.evs.length := by omega
  simp only [List.length_cons] at f3
  obtain ⟨r, hrr, hrl, hrj⟩ := chan_get hok hi
  obtain ⟨s, hs⟩ : ∃ s, σ.sta[j]? = some s := ⟨_, List.getElem?_eq_getElem hj⟩
  obtain ⟨q1, q2, q3, q4, q5, q6⟩ := hok.sta s (List.mem_of_getElem? hs)
  have hdrop : (σ.drop i j).sta = σ.sta ∧ (σ.drop i j).shots = σ.shots ∧ (σ.drop i j).evs = σ.evs := by unfold Net.drop; rw [hrr]; exact ⟨rfl, rfl, rfl⟩
  have Hpop := hid (fun b' m' (h : IsRef (G + F) σ b' m') => h.popping hrr (show r[j]? = some (z :: l) by rw [← hl]; exact hrj j hj))
  have Hok := hid hok
  have hsum : IntKind.i64.wrap (s.pieces + z.told) = s.pieces + z.told := by rw [IntKind.wrap_i64]; omega
  have Hlen := hid (And.intro hok.rows hrl)
  generalize hσd : σ.drop i j = σd at *
  obtain ⟨d1, d2, d3⟩ := hdrop
  have hsd : σd.sta[j]? = some s := by rw [d1]; exact hs
  obtain ⟨t1, t2, t3, t4, t5⟩ := Net.gain_at hsd z.told
  have Hgain := hid (fun b' m' (h : IsRef (G + F) σd b' m') => h.gaining hsd)
  generalize hσ1 : σd.gain j z.told = σ1 at *
  have e2 : σ1.merge j z.clock = { σ1 with sta := σ1.sta.set j { s with pieces := s.pieces + z.told, clock := mergeTo s.clock z.clock j z.clock.length } } := by simp only [Net.merge, t1]
  have hj1 : j < σ1.sta.length := by rw [t4, d1]; exact hj
  have ht2 : (σ1.merge j z.clock).sta[j]? = some { s with pieces := s.pieces + z.told, clock := mergeTo s.clock z.clock j z.clock.length } := by rw [e2]; exact List.getElem?_set_self hj1
  have hev2 : (σ1.merge j z.clock).evs.length = σ.evs.length := by rw [e2]; simp only []; rw [t5, d3]
  have hsh2 : (σ1.merge j z.clock).shots = σ.shots := by rw [e2]; simp only []; rw [t3, d2]
  have htake : σd.take i j z = ((σ1.merge j z.clock).did j 3 i z.told).underTo i j z.told ((σ1.merge j z.clock).did j 3 i z.told).shots.length := by unfold Net.take; rw [hσ1]
  rw [htake]
  clear htake
  have Hclk := hid (fun b' m' (h : IsRef (G + F) σ1 b' m') => h.clock t1)
  generalize hσ2 : σ1.merge j z.clock = σ2 at *
  obtain ⟨_, _, w3', _, _⟩ := Net.did_at ht2 3 i z.told
  generalize hσ3 : σ2.did j 3 i z.told = σ3 at *
  have hsh3 : σ3.shots = σ.shots := by rw [w3', hsh2]
  have hm2 := mergeTo_bound (j := j) q6 hzc (by omega) z.clock.length
  have hml := mergeTo_length s.clock z.clock j z.clock.length
  have Hdid := hid (fun (w' : World) (m' : MS) (h : IsRef (G + F) σ2 b m') (hw : Has w' (m' + (G + F))) => hσ3)
  have Hdid := hid (fun (w' : World) (b' : Nat) (m' : MS) (h : IsRef (G + F) σ2 b' m') (hw : Has w' (m' + (G + F))) =>
    rdid_any h hw j _ ht2 (show j < (mergeTo s.clock z.clock j z.clock.length).length by omega) 3 i z.told (fun u hu => by have := hm2 u hu; omega) (show (mergeTo s.clock z.clock j z.clock.length).length ≤ 1000 by omega) (by omega))
  rw [hσ3] at Hdid
  have He2 := hid e2
  have Hsh3 := hid hsh3
  have hl1 : σ1.sta.length = σ.sta.length := by rw [t4, d1]
  have hl2 : σd.sta.length = σ.sta.length := by rw [d1]
  have Hl1 := hid (And.intro hl1 hl2)
  have HS1 := hid hσ1
  have Hq1 := hid q1
  have Hzl := hid hzl
  have hq1I : (j : Int) < s.clock.length := by omega
  clear a0 k0 a3 k3 a4 k4 hr hH h1 l1 l2 l3 l4 hl hok m1 m2 m3 mz HA hG hrr hrl hrj hs hσd d1 d2 d3 hsd t1 t2 t3 t4 t5 hσ1 e2 hj1 ht2 hev2 hsh2 hσ2 w3' hσ3 hsh3 hm2 hml q1 q2 q3 q4 q5 q6 hzc hl1 hl2 hzl
  go_enter Try.func70, Try.ntmps70
  go_wp2_with (first
    | (go_at_call 73; refine Hends.out.mono ?_; rintro e w' ⟨rfl, rfl⟩)
    | (go_at_call 88; refine Hc.out.mono ?_; rintro e w1 ⟨b1, mr, rfl, j1, j2, j3⟩; have J1 := hid j1; have J2 := hid j2; have J3 := hid j3; clear j1 j2 j3))
  obtain ⟨hd, bq, oq, cq, cur1, b3, o3, c3', cur2, bx, ox, cx, R, hmr, y2, y3, y4, y5, y6, hnew⟩ := Hpop.out b1 mr J1.out
  rw [Hlen.out.1] at y2
  rw [show r.length = σ.sta.length from Hlen.out.2] at y3
  have keep : ∀ (W : World) (X : MS), Has W (X + (blk b1 hd 118 + (blk bq cur1 119 + blk b3 cur2 125))) → W.cell? ⟨b1, 2, none⟩ = some (.slice (some ⟨bq, oq, none⟩) σ.sta.length cq) ∧ W.cell? ⟨bq, oq + i, none⟩ = some (.slice (some ⟨b3, o3, none⟩) σ.sta.length c3') ∧ W.cell? ⟨b3, o3 + j, none⟩ = some (.slice (some ⟨bx, ox, none⟩) (l.length + 1) cx) := fun W X h =>
    ⟨(h.eq (b := blk b1 hd 118 + (X + (blk bq cur1 119 + blk b3 cur2 125))) (by ac_rfl)).at_ y2, (h.eq (b := blk bq cur1 119 + (X + (blk b1 hd 118 + blk b3 cur2 125))) (by ac_rfl)).at_ y3, (h.eq (b := blk b3 cur2 125 + (X + (blk b1 hd 118 + blk bq cur1 119))) (by ac_rfl)).at_ y4⟩
  have H7 := hid (show Has w1.drew ((R + (G + F)) + (blk b1 hd 118 + (blk bq cur1 119 + blk b3 cur2 125))) from J2.out.drew.eq (by rw [hmr]; ac_rfl))
  have hS := keep _ _ H7.out
  have Hy4 := hid (arr_lt y4)
  have Hnew := hid hnew
  clear keep y2 y3 y4 hnew hmr
  refine wp_region_txt (fun W => W.cell? ⟨b1, 2, none⟩ = some (.slice (some ⟨bq, oq, none⟩) σ.sta.length cq) ∧ W.cell? ⟨bq, oq + i, none⟩ = some (.slice (some ⟨b3, o3, none⟩) σ.sta.length c3') ∧ W.cell? ⟨b3, o3 + j, none⟩ = some (.slice (some ⟨bx, ox, none⟩) (l.length + 1) cx)) (some 20)
    [(0, true), (1, true), (2, true), (3, true), (4, true), (5, true), (6, true), (7, true), (8, true), (9, true), (10, true), (11, true), (12, true), (13, true), (14, true), (15, true), (16, true), (17, true), (18, true), (19, true), (20, false)] (by kernel_rfl) rfl (by kernel_rfl) (by kernel_rfl) (by repeat (first | with_reducible refine PanicOk.thn ?_ | with_reducible refine PanicOk.blk ?_ | exact PanicOk.body _ _ _)) ?_
  repeat
    (refine txt_quiet ?_ hS rfl rfl (fun W hW => ?_) ?_
     rotate_left 1
     · obtain ⟨hW1, hW2, hW3⟩ := hW
       go_simp
       exact rfl
     simp only [Act.put, List.setIfInBounds_toArray, List.set_cons_zero, List.set_cons_succ])
  refine txt_quiet (.slice (some ⟨bx, restOff2 cx ox, none⟩) l.length (cx - 1)) hS rfl rfl (fun W hW => ?_) ?_
  · exact run_slice125 (slice125 bx ox l.length cx W)
  simp only [Act.put, List.setIfInBounds_toArray, List.set_cons_zero, List.set_cons_succ]
  repeat
    (refine txt_quiet ?_ hS rfl rfl (fun W hW => ?_) ?_
     rotate_left 1
     · obtain ⟨hW1, hW2, hW3⟩ := hW
       go_simp
       exact rfl
     simp only [Act.put, List.setIfInBounds_toArray, List.set_cons_zero, List.set_cons_succ])
  refine txt_op rfl rfl ?_
  refine op_store_blk (.tmp 76) (.tmp 75) 125 rfl size125' b3 (o3 + j) (.slice (some ⟨bx, restOff2 cx ox, none⟩) l.length (cx - 1)) rfl rfl rfl cur2 125 _ (H7.out.eq (b := blk b3 cur2 125 + (blk b1 hd 118 + (blk bq cur1 119 + R) + (G + F))) (by ac_rfl)) Hy4.out ?_
  intro w9 j7 j8
  refine ⟨fun h => absurd rfl h, ?_⟩
  simp only [Act.put]
  refine txt_done ?_
  have H9 := hid (show Has w9 ((blk b1 hd 118 + (blk bq cur1 119 + (blk b3 (cur2.setIfInBounds (o3 + j) (.slice (some ⟨bx, restOff2 cx ox, none⟩) l.length (cx - 1))) 125 + R))) + (G + F)) from j7.eq (by ac_rfl))
  have E9 := hid (((Ext.alloc w _).trans J3.out).trans ((Ext.drew _).trans j8))
  have g9 := Hf7.out w9 _ H9.out
  clear hS j7 j8 H7 J1 J2 J3
  generalize blk b1 hd 118 + _ = mA at Hnew H9
  go_wp2
  obtain ⟨bh, oh, ch, curh, Rh, hmA, hcells, hlt, hput⟩ := Hgain.out b1 mA Hnew.out
  have g10 := hcells w9 _ H9.out
  rw [Hl1.out.2] at g10
  have hS : w9.drew.cell? ⟨b1, 0, none⟩ = some (.slice (some ⟨bh, oh, none⟩) σ.sta.length ch) ∧ w9.drew.cell? ⟨bh, oh + j, none⟩ = some (.int .i64 s.pieces) ∧ w9.drew.cell? ⟨w.heap.size, 0, none⟩ = some (.int .i64 z.told) := ⟨g10.1, g10.2, g9⟩
  have hB := hput z.told
  rw [HS1.out] at hB
  have HB := hid hB
  clear hB
  have H10 := hid (show Has w9.drew (blk bh curh 3 + (Rh + (G + F))) from H9.out.drew.eq (by rw [hmA]; ac_rfl))
  clear g10 hcells hput hmA g9
  refine wp_region_txt (fun W => W.cell? ⟨b1, 0, none⟩ = some (.slice (some ⟨bh, oh, none⟩) σ.sta.length ch) ∧ W.cell? ⟨bh, oh + j, none⟩ = some (.int .i64 s.pieces) ∧ W.cell? ⟨w.heap.size, 0, none⟩ = some (.int .i64 z.told)) (some 11)
    [(0, true), (1, true), (2, true), (3, true), (4, true), (5, true), (6, true), (7, true), (8, true), (9, true), (10, true), (11, false)] (by kernel_rfl) rfl (by kernel_rfl) (by kernel_rfl) (by repeat (first | with_reducible refine PanicOk.thn ?_ | with_reducible refine PanicOk.blk ?_ | exact PanicOk.body _ _ _)) ?_
  repeat
    (refine txt_quiet ?_ hS rfl rfl (fun W hW => ?_) ?_
     rotate_left 1
     · obtain ⟨hW1, hW2, hW3⟩ := hW
       go_simp
       exact rfl
     simp only [Act.put, List.setIfInBounds_toArray, List.set_cons_zero, List.set_cons_succ])
  refine txt_op rfl rfl ?_
  refine op_store_blk (.tmp 99) (.tmp 98) 3 rfl size3 bh (oh + j) (.int .i64 (s.pieces + z.told)) rfl rfl rfl curh 3 _ H10.out hlt ?_
  intro w11 j7 j8
  refine ⟨fun h => absurd rfl h, ?_⟩
  simp only [Act.put]
  refine txt_done ?_
  have H11 := hid (j7.eq (MS.add_assoc _ _ _).symm)
  have E11 := hid (E9.out.trans ((Ext.drew _).trans j8))
  clear hS j7 j8 H10 H9 E9
  generalize blk bh _ 3 + Rh = mB at HB H11
  -- the clock
  obtain ⟨hd5, b5, o5, c5, cur5, vc, mc, R5, hmB, i1, e5, hcl, ⟨Ah, chh, i0⟩, hputc⟩ := Hclk.out b1 mB HB.out
  rw [Hl1.out.1] at i1 i0
  have hat := hcl.at_ (show 0 < s.clock.length by rw [Hq1.out]; omega)
  obtain ⟨bc, oc, cc5, curc, rfl, rfl, hat⟩ := hat
  have HGf := hid (show ∀ W cur, Has W (blk bc cur 3 + ((blk b1 hd5 118 + (blk b5 cur5 22 + R5)) + (G + F))) → W.cell? ⟨b1, 0, none⟩ = some (.slice Ah σ.sta.length chh) ∧ W.cell? ⟨b1, 1, none⟩ = some (.slice (some ⟨b5, o5, none⟩) σ.sta.length c5) ∧ W.cell? ⟨b5, o5 + j, none⟩ = some (.slice (some ⟨bc, oc, none⟩) s.clock.length cc5) ∧
      W.cell? ⟨w.heap.size, 1, none⟩ = some (.slice (some ⟨bz, oz, none⟩) σ.sta.length cc) ∧ W.cell? ⟨w.heap.size, 0, none⟩ = some (.int .i64 z.told) ∧ ∀ t, t < z.clock.length → W.cell? ⟨bz, oz + t, none⟩ = some (.int .i64 (z.clock.getD t 0)) from fun W cur h =>
    ⟨(h.eq (b := blk b1 hd5 118 + (blk bc cur 3 + ((blk b5 cur5 22 + R5) + (G + F)))) (by ac_rfl)).at_ i0, (h.eq (b := blk b1 hd5 118 + (blk bc cur 3 + ((blk b5 cur5 22 + R5) + (G + F)))) (by ac_rfl)).at_ i1,
     (h.eq (b := blk b5 cur5 22 + (blk bc cur 3 + ((blk b1 hd5 118 + R5) + (G + F)))) (by ac_rfl)).at_ e5, Hf8.out W _ (h.eq (MS.add_assoc _ _ _).symm), Hf7.out W _ (h.eq (MS.add_assoc _ _ _).symm),
     fun t ht => MS.at.cell (Hmz.out t ht) (h.eq (b := (blk bc cur 3 + ((blk b1 hd5 118 + (blk b5 cur5 22 + R5)) + G)) + F) (by ac_rfl))⟩)
  have H12 := hid (show Has w11 (blk bc curc 3 + ((blk b1 hd5 118 + (blk b5 cur5 22 + R5)) + (G + F))) from H11.out.eq (by rw [hmB]; ac_rfl))
  have Hat := hid hat
  have Hputc := hid hputc
  have f20 := (HGf.out w11 _ H12.out).1
  clear hmB i1 e5 hcl i0 hputc hat HB H11
  go_wp2
  go_loopw [10] (fun v wr => MergeInv ((blk b1 hd5 118 + (blk b5 cur5 22 + R5)) + (G + F)) w s.clock z.clock j bc oc s.clock.length cc5 v wr) (fun v _ => σ.sta.length - (intOf v).toNat)
  case atStart => exact ⟨0, Nat.zero_le _, rfl, curc, Hat.out, H12.out, E11.out⟩
  case round =>
    obtain ⟨t, ht, rfl, curt, hAt, hHt, hEt⟩ := hrel
    rw [Hzl.out] at ht
    obtain ⟨p0, p1, p2, p3, p4, p5⟩ := HGf.out wr curt hHt
    have HAt := hid hAt
    have HHt := hid hHt
    have HEt := hid hEt
    clear hAt hHt hEt
    by_cases hlt : t < σ.sta.length
    · have p6 := p5 t (by rw [Hzl.out]; exact hlt)
      have Hlt := hid hlt
      have hltI : (t : Int) < σ.sta.length := by omega
      clear p5
      by_cases htj : t = j
      · subst htj
        have hq : ((t : Int) != (t : Int)) = false := by simp
        clear hlt
        go_wp2
        go_roundw
        case rel => exact ⟨t + 1, by rw [Hzl.out]; exact Hlt.out, by go_num, curt, by unfold mergeTo; rw [if_pos rfl]; exact HAt.out, HHt.out, HEt.out⟩
        case measure => have := Hlt.out; simp [intOf]; omega
      · -- DEV<
        have hq : ((t : Int) != (j : Int)) = true := by simp; omega
        have htl : t < s.clock.length := by rw [Hq1.out]; exact hlt
        have htlI : (t : Int) < s.clock.length := by omega
        obtain ⟨ua, hua⟩ : ∃ ua, ua = (mergeTo s.clock z.clock j t).getD t 0 := ⟨_, rfl⟩
        obtain ⟨um, hum⟩ : ∃ um, um = z.clock.getD t 0 := ⟨_, rfl⟩
        rw [← hum] at p6
        have hga := HAt.out.get htl
        rw [← hua] at hga
        have Hua := hid (And.intro hua hum)
        have Htj := hid htj
        have p7 := HHt.out.at_ hga
        have Hga := hid (arr_lt hga)
        have Htl := hid htl
        clear hua hum htj hga htl hlt
        go_wp2
        have hS : wr.drew.cell? ⟨b1, 1, none⟩ = some (.slice (some ⟨b5, o5, none⟩) σ.sta.length c5) ∧ wr.drew.cell? ⟨b5, o5 + j, none⟩ = some (.slice (some ⟨bc, oc, none⟩) s.clock.length cc5) ∧ wr.drew.cell? ⟨bc, oc + t, none⟩ = some (.int .i64 ua) ∧ wr.drew.cell? ⟨w.heap.size, 1, none⟩ = some (.slice (some ⟨bz, oz, none⟩) σ.sta.length cc) ∧ wr.drew.cell? ⟨bz, oz + t, none⟩ = some (.int .i64 um) := ⟨p1, p2, p7, p3, p6⟩
        refine wp_region_txt (fun W => W.cell? ⟨b1, 1, none⟩ = some (.slice (some ⟨b5, o5, none⟩) σ.sta.length c5) ∧ W.cell? ⟨b5, o5 + j, none⟩ = some (.slice (some ⟨bc, oc, none⟩) s.clock.length cc5) ∧ W.cell? ⟨bc, oc + t, none⟩ = some (.int .i64 ua) ∧ W.cell? ⟨w.heap.size, 1, none⟩ = some (.slice (some ⟨bz, oz, none⟩) σ.sta.length cc) ∧ W.cell? ⟨bz, oz + t, none⟩ = some (.int .i64 um)) (some 25)
          [(0, true), (1, true), (2, true), (3, true), (4, true), (5, true), (6, true), (7, true), (8, true), (9, true), (10, true), (11, true), (12, true), (13, true), (14, true), (15, true), (16, true), (17, true), (18, true), (19, true), (20, true), (21, true), (22, true), (23, true), (24, true), (25, false)] (by kernel_rfl) rfl (by kernel_rfl) (by kernel_rfl) (by repeat (first | with_reducible refine PanicOk.thn ?_ | with_reducible refine PanicOk.blk ?_ | exact PanicOk.body _ _ _)) ?_
        repeat
          (refine txt_quiet ?_ hS rfl rfl (fun W hW => ?_) ?_
           rotate_left 1
           · obtain ⟨hW1, hW2, hW3, hW4, hW5⟩ := hW
             go_simp
             exact rfl
           simp only [Act.put, List.setIfInBounds_toArray, List.set_cons_zero, List.set_cons_succ])
        refine txt_op rfl rfl ?_
        refine op_store_blk (.tmp 136) (.tmp 135) 3 rfl size3 bc (oc + t) (.int .i64 (if ua < um then um else ua)) rfl rfl rfl curt 3 _ HHt.out.drew Hga.out ?_
        intro w4 H4 E4
        refine ⟨fun h => absurd rfl h, ?_⟩
        simp only [Act.put]
        refine txt_done ?_
        have HH4 := hid H4
        have HE4 := hid ((HEt.out.trans (Ext.drew _)).trans E4)
        clear hS H4 E4
        go_wp2
        go_roundw
        case rel => exact ⟨t + 1, by rw [Hzl.out]; exact Hlt.out, by go_num, _, by unfold mergeTo; rw [if_neg Htj.out, ← Hua.out.1, ← Hua.out.2, show max ua um = (if ua < um then um else ua) by split <;> omega]; exact HAt.out.set Htl.out _, HH4.out, HE4.out⟩
        case measure => have := Hlt.out; simp [intOf]; omega
        -- DEV>
    · obtain rfl : t = σ.sta.length := by omega
      have hmm := HAt.out
      rw [← Hzl.out] at hmm
      have hnew2 := Hputc.out _ _ hmm.ints
      have e3 : ({ σ1 with sta := σ1.sta.set j { s with pieces := s.pieces + z.told, clock := mergeTo s.clock z.clock j z.clock.length } } : Net) = σ2 := He2.out.symm
      have hnew3 : IsRef (G + F) σ2 b1 (blk b1 hd5 118 + (blk b5 cur5 22 + (blk bc curt 3 + R5))) := by rw [← e3]; exact hnew2
      have H14 := hid (show Has wr ((blk b1 hd5 118 + (blk b5 cur5 22 + (blk bc curt 3 + R5))) + (G + F)) from HHt.out.eq (by ac_rfl))
      have Hn3 := hid hnew3
      clear hmm hnew2 hnew3 e3 p5 HAt HHt
      go_wp2_with (go_at_call 89; refine (Hdid.out wr b1 _ Hn3.out H14.out).mono ?_; rintro e w15 ⟨rfl, X, m15, k1, k2, k3⟩; have K1 := hid k1; have K2 := hid k2; have K3 := hid (HEt.out.trans k3); clear k1 k2 k3)
      go_loopw [11] (fun v wq => ∃ t : Nat, t ≤ σ3.shots.length ∧ v = .int .i64 t ∧ ∃ mt, IsRef (X + (G + F)) (σ3.underTo i j z.told t) b1 mt ∧ Has wq (mt + (X + (G + F))) ∧ Ext w wq) (fun v _ => σ3.shots.length - (intOf v).toNat)
      case atStart => exact ⟨0, Nat.zero_le _, rfl, m15, K1.out, K2.out, K3.out⟩
      case round =>
        obtain ⟨t, ht, rfl, mt, hNt, hHt, hEt⟩ := hrel
        obtain ⟨u1, u2, u3, u4, u5⟩ := Net.underTo_keeps σ3 i j z.told t
        obtain ⟨A9, c9, _, hcell9⟩ := hNt.headShots
        have f9 := hcell9 _ _ hHt
        rw [u4] at f9
        have h8 : (σ3.shots.length : Int) ≤ 8 := by rw [Hsh3.out]; have := Hok.out.shots; omega
        clear hcell9
        have HHt := hid hHt
        have HEt := hid hEt
        have HNt := hid hNt
        clear hHt hEt hNt
        by_cases hlt : t < σ3.shots.length
        · obtain ⟨y, hy⟩ : ∃ y, σ3.shots[t]? = some y := ⟨_, List.getElem?_eq_getElem hlt⟩
          have hyt : (σ3.underTo i j z.told t).shots[t]? = some y := (u5 t (Nat.le_refl _)).trans hy
          have hev := Hok.out.evs
          obtain ⟨z1, z2, z3, z4, z5, z6, z7⟩ := Hok.out.shot y (List.mem_of_getElem? (by rw [← Hsh3.out]; exact hy))
          obtain ⟨rc, hrc⟩ : ∃ r, y.closed[i]? = some r := ⟨_, List.getElem?_eq_getElem (by omega)⟩
          have hrcl := z3 rc (List.mem_of_getElem? hrc)
          obtain ⟨b4, o4, c4, br, orr, cr, b6, o6, c6, bq', oq', cq', hlook⟩ := HNt.out.look hyt (j := j) (by omega) hrc (by omega)
          obtain ⟨g1, g2, g3, g4, g5, g6⟩ := hlook wr _ HHt.out
          rw [u4] at g1
          have bi : (i : Int) < y.closed.length := by omega
          have bj : (j : Int) < rc.length := by omega
          have bj2 : (j : Int) < y.recorded.length := by omega
          have bt : (t : Int) < σ3.shots.length := by omega
          have Hlt := hid hlt
          have Hyt := hid hyt
          have Hz := hid (And.intro z6 (And.intro z7 hev))
          have hgr : y.recorded.getD j false = true ∧ rc.getD j false = false ∨ ¬ (y.recorded.getD j false = true ∧ (y.closed.getD i []).getD j false = false) := by
            rw [getD_some hrc]
            by_cases h : y.recorded.getD j false = true ∧ rc.getD j false = false
            · exact .inl h
            · exact .inr h
          have hco : y.closed.getD i [] = rc := getD_some hrc []
          have Hsame := hid (show ¬ (y.recorded.getD j false = true ∧ (y.closed.getD i []).getD j false = false) → σ3.underTo i j z.told (t + 1) = σ3.underTo i j z.told t from fun h => by rw [Net.underTo, hyt]; simp only []; rw [if_neg h])
          have Hmore := hid (show ∀ ru q, y.recorded.getD j false = true → rc.getD j false = false → y.under[i]? = some ru → ru[j]? = some q → σ3.underTo i j z.told (t + 1) = { σ3.underTo i j z.told t with shots := (σ3.underTo i j z.told t).shots.set t { y with under := y.under.set i (ru.set j (q ++ [z.told])) } } from fun ru q h1 h2 h3 h4 => by
            rw [Net.underTo, hyt]; simp only []; rw [if_pos ⟨h1, by rw [hco]; exact h2⟩, getD_some h3, getD_some h4])
          clear f9 hlook u1 u2 u3 u5 hy hyt hlt z1 z2 z3 z4 z5 z6 z7 hrc hrcl hco hev
          cases hrec : y.recorded.getD j false with
          | false =>
            rw [hrec] at g3
            have hs := Hsame.out (by rw [hrec]; simp)
            have Hs := hid hs
            clear hs hgr u4
            go_wp2
            go_roundw
            case rel => exact ⟨t + 1, Hlt.out, by go_num, mt, by rw [Hs.out]; exact HNt.out, HHt.out, HEt.out⟩
            case measure => have := Hlt.out; simp [intOf]; omega
          | true =>
            rw [hrec] at g3
            cases hcl' : rc.getD j false with
            | true =>
              rw [hcl'] at g6
              have hs := Hsame.out (by rcases hgr with h | h
                                       · rw [hcl'] at h; simp at h
                                       · exact h)
              have Hs := hid hs
              clear hs hgr u4
              go_wp2
              go_roundw
              case rel => exact ⟨t + 1, Hlt.out, by go_num, mt, by rw [Hs.out]; exact HNt.out, HHt.out, HEt.out⟩
              case measure => have := Hlt.out; simp [intOf]; omega
            | false =>
              rw [hcl'] at g6
              obtain ⟨z6, z7, hev⟩ := Hz.out
              obtain ⟨ru, hru⟩ : ∃ r, y.under[i]? = some r := ⟨_, List.getElem?_eq_getElem (by omega)⟩
              obtain ⟨hrul, hruq⟩ := z7 ru (List.mem_of_getElem? hru)
              obtain ⟨q, hq⟩ : ∃ q, ru[j]? = some q := ⟨_, List.getElem?_eq_getElem (by omega)⟩
              have hql := hruq q (List.mem_of_getElem? hq)
              have Hs := hid (Hmore.out ru q hrec hcl' hru hq)
              have Hq := hid (And.intro hru (And.intro hq (And.intro hql hrul)))
              have biu : (i : Int) < y.under.length := by omega
              have bju : (j : Int) < ru.length := by omega
              clear hgr z6 z7 hev hru hrul hruq hq hql hrec hcl'
              go_wp2
              clear g1 g2 g3 g4 g5 g6
              obtain ⟨hd6, b4, o4, c4, cur4, b5', o5', c5', cur5', b6, o6, c6, cur6, vq, mq, R6, hmt, y4, e4, e5, e6, hqi, hputu⟩ := HNt.out.unders Hyt.out Hq.out.1 Hq.out.2.1
              rw [u4] at y4
              obtain ⟨Aq, aq, rfl, _⟩ := SlR.form hqi
              have keep : ∀ (W : World) (Y : MS), Has W (Y + ((G + F) + (blk b1 hd6 118 + (blk b4 cur4 150 + (blk b5' cur5' 44 + blk b6 cur6 22))))) → W.cell? ⟨b1, 4, none⟩ = some (.slice (some ⟨b4, o4, none⟩) σ3.shots.length c4) ∧ W.cell? ⟨b4, o4 + t * 5 + 4, none⟩ = some (.slice (some ⟨b5', o5', none⟩) y.under.length c5') ∧
                  W.cell? ⟨b5', o5' + i, none⟩ = some (.slice (some ⟨b6, o6, none⟩) ru.length c6) ∧ W.cell? ⟨b6, o6 + j, none⟩ = some (.slice Aq q.length aq) ∧ W.cell? ⟨w.heap.size, 0, none⟩ = some (.int .i64 z.told) := fun W Y h =>
                ⟨(h.eq (b := blk b1 hd6 118 + (Y + ((G + F) + (blk b4 cur4 150 + (blk b5' cur5' 44 + blk b6 cur6 22))))) (by ac_rfl)).at_ y4, (h.eq (b := blk b4 cur4 150 + (Y + ((G + F) + (blk b1 hd6 118 + (blk b5' cur5' 44 + blk b6 cur6 22))))) (by ac_rfl)).at_ e4,
                 (h.eq (b := blk b5' cur5' 44 + (Y + ((G + F) + (blk b1 hd6 118 + (blk b4 cur4 150 + blk b6 cur6 22))))) (by ac_rfl)).at_ e5, (h.eq (b := blk b6 cur6 22 + (Y + ((G + F) + (blk b1 hd6 118 + (blk b4 cur4 150 + blk b5' cur5' 44))))) (by ac_rfl)).at_ e6,
                 Hf7.out W (Y + (blk b1 hd6 118 + (blk b4 cur4 150 + (blk b5' cur5' 44 + blk b6 cur6 22)))) (h.eq (by ac_rfl))⟩
              have H20 := hid (show Has wr.drew ((mq + (R6 + X)) + ((G + F) + (blk b1 hd6 118 + (blk b4 cur4 150 + (blk b5' cur5' 44 + blk b6 cur6 22))))) from HHt.out.drew.eq (by rw [hmt]; ac_rfl))
              have hS := keep _ _ H20.out
              have Hkeep := hid keep
              have Hqi := hid hqi
              have Hputu := hid hputu
              have He6 := hid (arr_lt e6)
              clear keep hqi hputu e4 e5 e6 y4 hmt u4
              refine wp_region_txt (fun W => W.cell? ⟨b1, 4, none⟩ = some (.slice (some ⟨b4, o4, none⟩) σ3.shots.length c4) ∧ W.cell? ⟨b4, o4 + t * 5 + 4, none⟩ = some (.slice (some ⟨b5', o5', none⟩) y.under.length c5') ∧
                  W.cell? ⟨b5', o5' + i, none⟩ = some (.slice (some ⟨b6, o6, none⟩) ru.length c6) ∧ W.cell? ⟨b6, o6 + j, none⟩ = some (.slice Aq q.length aq) ∧ W.cell? ⟨w.heap.size, 0, none⟩ = some (.int .i64 z.told)) (some 31)
                [(0, true), (1, true), (2, true), (3, true), (4, true), (5, true), (6, true), (7, true), (8, true), (9, true), (10, true), (11, true), (12, true), (13, true), (14, true), (15, true), (16, true), (17, true), (18, true), (19, true), (20, true), (21, true), (22, true), (23, true), (24, true), (25, true), (26, true), (27, true), (28, false), (29, false), (30, true), (31, false)] (by kernel_rfl) rfl (by kernel_rfl) (by kernel_rfl) (by repeat (first | with_reducible refine PanicOk.thn ?_ | with_reducible refine PanicOk.blk ?_ | exact PanicOk.body _ _ _)) ?_
              repeat
                (refine txt_quiet ?_ hS rfl rfl (fun W hW => ?_) ?_
                 rotate_left 1
                 · obtain ⟨hW1, hW2, hW3, hW4, hW5⟩ := hW
                   go_simp
                   exact rfl
                 simp only [Act.put, List.setIfInBounds_toArray, List.set_cons_zero, List.set_cons_succ])
              refine txt_op rfl rfl ?_
              refine op_run (.slice (some ⟨wr.heap.size, 0, none⟩) 1 1) (wr.drew.alloc (.cells #[.int .i64 z.told] 3)) (by go_simp) ?_
              have hS4 := Hkeep.out (wr.drew.alloc (.cells #[.int .i64 z.told] 3)) (pts wr.heap.size (.cells #[.int .i64 z.told] 3) + (mq + (R6 + X))) ((H20.out.alloc _).eq (by show pts wr.heap.size _ + _ = _; ac_rfl))
              refine ⟨fun _ => hS4, ?_⟩
              simp only [Act.put, List.setIfInBounds_toArray, List.set_cons_zero, List.set_cons_succ]
              clear hS
              refine txt_op rfl rfl ?_
              refine op_push (.tmp 205) (.tmp 208) row22 rfl (.slice Aq q.length aq) rfl _ rfl rfl (El IntV) El.one El.len q z.told mq 0 ((R6 + X) + ((G + F) + (blk b1 hd6 118 + (blk b4 cur4 150 + (blk b5' cur5' 44 + blk b6 cur6 22))))) Hqi.out ⟨_, rfl, ⟨rfl, rfl⟩, rfl⟩ (H20.out.eq (by rw [MS.zero_add]; ac_rfl)) q.length rfl (by have := Hq.out.2.2.1; have := Hok.out.evs; omega) (by omega) ?_
              intro A8 c8 w8 m8 j4 j5 j6
              have hS5 := Hkeep.out w8 (m8 + (R6 + X)) (j5.eq (by ac_rfl))
              refine ⟨fun _ => hS5, ?_⟩
              simp only [Act.put, List.setIfInBounds_toArray, List.set_cons_zero, List.set_cons_succ]
              clear hS4
              repeat
                (refine txt_quiet ?_ hS5 rfl rfl (fun W hW => ?_) ?_
                 rotate_left 1
                 · obtain ⟨hW1, hW2, hW3, hW4, hW5⟩ := hW
                   go_simp
                   exact rfl
                 simp only [Act.put, List.setIfInBounds_toArray, List.set_cons_zero, List.set_cons_succ])
              refine txt_op rfl rfl ?_
              refine op_store_blk (.tmp 210) (.tmp 209) 22 rfl size22 b6 (o6 + j) (.slice A8 (q.length + 1) c8) rfl rfl rfl cur6 22 _ (j5.eq (b := blk b6 cur6 22 + (m8 + (R6 + X) + ((G + F) + (blk b1 hd6 118 + (blk b4 cur4 150 + blk b5' cur5' 44))))) (by ac_rfl)) He6.out ?_
              intro w21 j7 j8
              refine ⟨fun h => absurd rfl h, ?_⟩
              simp only [Act.put]
              refine txt_done ?_
              have H21 := hid (show Has w21 ((blk b1 hd6 118 + (blk b4 cur4 150 + (blk b5' cur5' 44 + (blk b6 (cur6.setIfInBounds (o6 + j) (.slice A8 (q.length + 1) c8)) 22 + (m8 + R6))))) + (X + (G + F))) from j7.eq (by ac_rfl))
              have E21 := hid (((HEt.out.trans (Ext.drew _)).trans j6).trans j8)
              have Hfin := hid (Hputu.out (q ++ [z.told]) _ _ j4)
              clear hS5 j4 j5 j6 j7 j8 H20
              go_wp2
              go_roundw
              case rel => exact ⟨t + 1, Hlt.out, by go_num, _, by rw [Hs.out]; exact Hfin.out, H21.out, E21.out⟩
              case measure => have := Hlt.out; simp [intOf]; omega
        · obtain rfl : t = σ3.shots.length := by omega
          go_wp2
          go_ret2
          exact ⟨b1, (mt + X) + G, rfl, by rw [show (mt + X) + G + F = mt + (X + (G + F)) by ac_rfl]; exact HNt.out.rd, HHt.out.eq (by ac_rfl), HEt.out⟩

theorem rrecv_any {F : MS} {σ : Net} {b : Nat} {w : World} (hok : NetOk σ) (hck : CkOk σ) (hr : RdRef F σ b) (hH : Has w F) (x y : Int) :
    Calls Try.prog 70 #[.pointer (some ⟨b, 0, none⟩), .int .i64 x, .int .i64 y] w (RPost F w (σ.recv x y).1 (σ.recv x y).2) := by
  by_cases h1 : pairErr σ.sta.length x y = 0
  · have hxy : (0 ≤ x ∧ x < σ.sta.length) ∧ (0 ≤ y ∧ y < σ.sta.length) ∧ x ≠ y := by
      refine Classical.byContradiction fun h => ?_
      unfold pairErr at h1; rw [if_neg h] at h1; cases h1
    obtain ⟨⟨g1, g2⟩, ⟨g3, g4⟩, g5⟩ := hxy
    obtain ⟨i, rfl⟩ := Int.eq_ofNat_of_zero_le g1
    obtain ⟨j, rfl⟩ := Int.eq_ofNat_of_zero_le g3
    have hi : i < σ.sta.length := by omega
    have hj : j < σ.sta.length := by omega
    obtain ⟨r, hrr, hrl, hrj⟩ := chan_get hok hi
    cases hl : σ.lineAt i j with
    | nil =>
      have e : σ.recv i j = (6, σ) := by unfold Net.recv; rw [if_neg (by simp [h1])]; simp only [Int.toNat_natCast, hl]
      rw [e]
      exact rrecv_nil hok hr hH i j hi hj h1 hl
    | cons z l =>
      have hm := hok.msg r (List.mem_of_getElem? hrr) _ (List.mem_of_getElem? (hrj j hj)) z (by rw [hl]; simp)
      rcases hm with ⟨m1, m2, m3, m4⟩ | ⟨m1, m2, _⟩
      · by_cases he : 400 ≤ σ.evs.length
        · have e : σ.recv i j = (8, σ) := by unfold Net.recv; rw [if_neg (by simp [h1])]; simp only [Int.toNat_natCast, hl]; rw [if_pos m1, if_pos he]
          rw [e]
          exact rrecv_full hok hr hH i j hi hj h1 z l hl m1 he
        · have e : σ.recv i j = (0, (σ.drop i j).take i j z) := by unfold Net.recv; rw [if_neg (by simp [h1])]; simp only [Int.toNat_natCast, hl]; rw [if_pos m1, if_neg he]
          rw [e]
          exact rrecv_parcel hok hr hH i j hi hj h1 z l hl m1 m2 m3 m4 (by omega)
      · obtain ⟨k, hk⟩ : ∃ k : Nat, -z.told = (k : Int) + 1 := ⟨(-z.told - 1).toNat, by omega⟩
        have e : σ.recv i j = (0, (σ.drop i j).heard i j k) := by
          unfold Net.recv; rw [if_neg (by simp [h1])]; simp only [Int.toNat_natCast, hl]; rw [if_neg (by omega), show (-z.told - 1).toNat = k by omega]
        rw [e]
        exact rrecv_marker hok hck hr hH i j hi hj h1 z l hl k (by omega) (by omega)
  · have h1' : pairErr σ.sta.length x y = 2 := by unfold pairErr at h1 ⊢; split at h1 <;> simp_all
    have e : σ.recv x y = (2, σ) := by unfold Net.recv; rw [if_pos h1]
    rw [e]
    exact rrecv_err hr hH x y h1'
end Go.Proofs.Ytnkgfgkgepadhaa

/-
  The walk of the reference's Send.
-/
import Derived.Test.YtnkgfgkgepadhaaRefWork
namespace Go.Proofs.Ytnkgfgkgepadhaa
open Go.RowKit
set_option linter.unusedVariables false
set_option linter.unusedSimpArgs false

set_option maxHeartbeats 4000000 in
set_option maxRecDepth 100000 in
theorem rsend_any {F : MS} {σ : Net} {b : Nat} {w : World} (hok : NetOk σ) (hr : RdRef F σ b) (hH : Has w F) (x y pieces : Int) :
    Calls Try.prog 68 #[.pointer (some ⟨b, 0, none⟩), .int .i64 x, .int .i64 y, .int .i64 pieces] w fun e w' => ∃ b' X, e = .returned (.tuple #[.pointer (some ⟨b', 0, none⟩), .int .i64 (σ.send x y pieces).1]) ∧ RdRef (X + F) (σ.send x y pieces).2 b' ∧ Has w' (X + F) ∧ Ext w w' := by
  obtain ⟨A0, c0, A2, c2, A3, c3, A4, c4, a0, k0, a2, k2, a3, k3, a4, k4⟩ := hr.head
  have f0 := a0.cell0 hH
  have f3 := a3.cell0 hH
  have Hends := hid (ends_ref f0 x y)
  have Hr := hid hr
  have HH := hid hH
  have Hok := hid hok
  have Hk0 := hid k0
  clear a0 k0 a2 k2 a3 k3 a4 k4 hr hH hok
  by_cases h1 : pairErr σ.sta.length x y = 0
  · have hxy : (0 ≤ x ∧ x < σ.sta.length) ∧ (0 ≤ y ∧ y < σ.sta.length) ∧ x ≠ y := by
      refine Classical.byContradiction fun h => ?_
      unfold pairErr at h1; rw [if_neg h] at h1; cases h1
    rw [h1] at Hends
    obtain ⟨⟨g1, g2⟩, ⟨g3, g4⟩, g5⟩ := hxy
    obtain ⟨i, rfl⟩ := Int.eq_ofNat_of_zero_le g1
    obtain ⟨j, rfl⟩ := Int.eq_ofNat_of_zero_le g3
    have hi : i < σ.sta.length := by omega
    have hj : j < σ.sta.length := by omega
    by_cases h2 : 1 ≤ pieces ∧ pieces ≤ 1000000
    · have hp := parcB_yes h2
      obtain ⟨h2a, h2b⟩ := h2
      obtain ⟨s, hs⟩ : ∃ s, σ.sta[i]? = some s := ⟨_, List.getElem?_eq_getElem hi⟩
      have hheld : σ.held i = s.pieces := by simp [Net.held, hs]
      have hhl : σ.helds[i]? = some s.pieces := by simp [Net.helds, hs]
      obtain ⟨bh0, oh0, hA0, e0⟩ := Hk0.out.getInt hhl
      subst hA0
      have f5 := e0.cell0 HH.out
      by_cases h3 : s.pieces < pieces
      · have e : σ.send i j pieces = (10, σ) := by unfold Net.send; rw [if_neg (by simp [h1]), if_neg (by simp [hp]), if_pos (by simp [hheld, h3])]
        rw [e]
        clear e h1 hp hheld hhl e0 hs g5
        go_enter Try.func68, Try.ntmps68
        go_wp2_with (go_at_call 73; refine Hends.out.mono ?_; rintro e w' ⟨rfl, rfl⟩)
        go_ret2
        exact ⟨b, 0, rfl, Hr.out.same, HH.out.same, Ext.refl w⟩
      · by_cases he : 400 ≤ σ.evs.length
        · have e : σ.send i j pieces = (8, σ) := by unfold Net.send; rw [if_neg (by simp [h1]), if_neg (by simp [hp]), if_neg (by simp [hheld, h3]), if_pos he]
          rw [e]
          have heI : (400 : Int) ≤ σ.evs.length := by omega
          clear e h1 hp hheld hhl e0 hs g5
          go_enter Try.func68, Try.ntmps68
          go_wp2_with (go_at_call 73; refine Hends.out.mono ?_; rintro e w' ⟨rfl, rfl⟩)
          go_ret2
          exact ⟨b, 0, rfl, Hr.out.same, HH.out.same, Ext.refl w⟩
        · have e : σ.send i j pieces = (0, ((σ.gain i (-pieces)).did i 2 j pieces).push i j ⟨pieces, ((σ.gain i (-pieces)).did i 2 j pieces).clockOf i⟩) := by
            unfold Net.send; rw [if_neg (by simp [h1]), if_neg (by simp [hp]), if_neg (by simp [hheld, h3]), if_neg he]; rfl
          rw [e]
          have heI : ¬ (400 : Int) ≤ σ.evs.length := by omega
          obtain ⟨q1, q2, q3, q4, q5, q6⟩ := Hok.out.sta s (List.mem_of_getElem? hs)
          have Hc := hid (rcopy_any Hok.out Hr.out HH.out)
          obtain ⟨t1, t2, t3, t4, t5⟩ := Net.gain_at hs (-pieces)
          have hsub : IntKind.i64.wrap (s.pieces - pieces) = s.pieces + -pieces := by rw [IntKind.wrap_i64]; have := Hok.out.evs; omega
          have Hg := hid (show ∀ b1 m1, IsRef F σ b1 m1 → _ from fun b1 m1 h => h.gaining hs)
          generalize hσ1 : σ.gain i (-pieces) = σ1 at *
          obtain ⟨u1, u2, u3, u4, u5⟩ := Net.did_at t1 2 j pieces
          have hcl2 : (σ1.did i 2 j pieces).clockOf i = s.clock.set i (s.clock.getD i 0 + 1) := by simp [Net.clockOf, u1]
          rw [hcl2]
          obtain ⟨r, hr, hrl, hrj⟩ := chan_get Hok.out hi
          have hll := line_len Hok.out hi hj
          have Ht := hid (And.intro t1 (And.intro t5 (And.intro (show i < s.clock.length by omega) (And.intro (show ∀ t ∈ s.clock, 0 ≤ t ∧ t < 1000000 from fun t ht => by have := q6 t ht; have := Hok.out.evs; omega) (show s.clock.length ≤ 1000 by have := Hok.out.n5; omega)))))
          have Hrow := hid (show (σ1.did i 2 j pieces).chan[i]? = some r by rw [u2, t2]; exact hr)
          have Hl := hid (hrj j hj)
          have Hu := hid u1
          have hlen4 : (σ1.did i 2 j pieces).sta.length = σ.sta.length := by rw [u4, t4]
          have hch : (σ1.did i 2 j pieces).chan.length = σ.sta.length := by rw [u2, t2]; exact Hok.out.rows
          have Hlen := hid (And.intro hlen4 (And.intro hch (And.intro hrl hll)))
          have Hq1 := hid q1
          have HG := hid hσ1
          have n5 : σ.sta.length ≤ 5 := Hok.out.n5
          have Hev := hid (show σ1.evs.length ≤ 1000 by rw [t5]; omega)
          clear e h1 hp hheld hhl e0 hs g5 q1 q2 q3 q4 q5 q6 t1 t2 t3 t4 t5 hcl2 hr hrl hrj hll u1 u2 u3 u4 u5 hσ1 hlen4 hch
          go_enter Try.func68, Try.ntmps68
          go_wp2_with (first
            | (go_at_call 73; refine Hends.out.mono ?_; rintro e w' ⟨rfl, rfl⟩)
            | (go_at_call 88; refine Hc.out.mono ?_; rintro e w1 ⟨b1, m1, rfl, j1, j2, j3⟩
               obtain ⟨bh, oh, ch, cur, R, rfl, hcells, hlt, hput⟩ := Hg.out b1 m1 j1
               obtain ⟨d0, d1⟩ := hcells w1 F j2
               have J2 := hid j2
               have J3 := hid j3
               have hput' := hput (-pieces)
               rw [HG.out] at hput'
               have Hput := hid hput'
               clear hcells hput hput' j1 j2 j3)
            | (refine wpList_store_blk rfl (.tmp 53) (.tmp 52) 3 rfl size3 bh (oh + i) (.int .i64 (s.pieces + -pieces)) rfl rfl rfl cur 3 _ (J2.out.eq (MS.add_assoc _ _ _)) hlt ?_; intro w2 K1 K2)
            | (go_at_call 89
               obtain ⟨x1, x2, x3, x4, x5⟩ := Ht.out
               refine (rdid_any Hput.out (K1.eq (MS.add_assoc _ _ _).symm) i _ x1 x3 2 j pieces x4 x5 Hev.out).mono ?_; rintro e w3 ⟨rfl, X, m3, z1, z2, z3⟩; have Z1 := hid z1; have Z2 := hid z2; have Z3 := hid ((J3.out.trans K2).trans z3); clear z1 z2 z3 x1 x2 x3 x4 x5))
          obtain ⟨hd, bl, ol, cl, cur1, b2, o2, cc2, cur2, vl, mq, R2, hm, _, y2, y3, y4, hln, ⟨v1, mk, R3, rfl, y1, hcs⟩, hputl⟩ := Z1.out.line Hrow.out Hl.out
          generalize hσ2 : σ1.did i 2 j pieces = σ2 at *
          obtain ⟨Al, al, rfl, _⟩ := SlR.form hln
          have hcll : σ2.clocks.length = σ2.sta.length := by simp [Net.clocks]
          obtain ⟨bk, ok, ck, curk, ci, n1, n2, rfl, rfl, ⟨vc, rfl, hcl, hone⟩, hcell, _⟩ := SlR.take El.len hcs (i := i) (by rw [hcll, Hlen.out.1]; exact hi)
          have hgc : σ2.clocks[i]'(by rw [hcll, Hlen.out.1]; exact hi) = s.clock.set i (s.clock.getD i 0 + 1) := by
            obtain ⟨hh, h'⟩ := List.getElem?_eq_some_iff.1 Hu.out
            simp [Net.clocks, h']
          rw [hgc] at hcl
          have gk := hcell 0 (by omega)
          simp only [Nat.mul_one, Nat.add_zero, List.getElem?_cons_zero] at gk
          obtain ⟨Aq, cq, rfl, _⟩ := SlR.form hcl
          have hql : (s.clock.set i (s.clock.getD i 0 + 1)).length = σ.sta.length := by rw [List.length_set]; exact Hq1.out
          rw [hql] at hcl gk
          rw [hcll, Hlen.out.1] at y1
          rw [Hlen.out.2.1] at y2
          rw [Hlen.out.2.2.1] at y3
          have keep : ∀ (W : World) (X : MS), Has W (X + (blk b1 hd 118 + (blk bl cur1 119 + (blk b2 cur2 125 + blk bk curk 22)))) → W.cell? ⟨b1, 2, none⟩ = some (.slice (some ⟨bl, ol, none⟩) σ.sta.length cl) ∧ W.cell? ⟨bl, ol + i, none⟩ = some (.slice (some ⟨b2, o2, none⟩) σ.sta.length cc2) ∧
              W.cell? ⟨b2, o2 + j, none⟩ = some (.slice Al (σ.lineAt i j).length al) ∧ W.cell? ⟨b1, 1, none⟩ = some (.slice (some ⟨bk, ok, none⟩) σ.sta.length ck) ∧ W.cell? ⟨bk, ok + i, none⟩ = some (.slice Aq σ.sta.length cq) := fun W X h =>
            ⟨(h.eq (b := blk b1 hd 118 + (X + (blk bl cur1 119 + (blk b2 cur2 125 + blk bk curk 22)))) (by ac_rfl)).at_ y2, (h.eq (b := blk bl cur1 119 + (X + (blk b1 hd 118 + (blk b2 cur2 125 + blk bk curk 22)))) (by ac_rfl)).at_ y3,
             (h.eq (b := blk b2 cur2 125 + (X + (blk b1 hd 118 + (blk bl cur1 119 + blk bk curk 22)))) (by ac_rfl)).at_ y4, (h.eq (b := blk b1 hd 118 + (X + (blk bl cur1 119 + (blk b2 cur2 125 + blk bk curk 22)))) (by ac_rfl)).at_ y1,
             (h.eq (b := blk bk curk 22 + (X + (blk b1 hd 118 + (blk bl cur1 119 + blk b2 cur2 125)))) (by ac_rfl)).at_ gk⟩
          have H7 := hid (show Has w3.drew ((mq + (n1 + (n2 + R3) + (X + F))) + (blk b1 hd 118 + (blk bl cur1 119 + (blk b2 cur2 125 + blk bk curk 22)))) from Z2.out.drew.eq (by rw [hm]; ac_rfl))
          have hS := keep _ _ H7.out
          have Hkeep := hid keep
          have Hcall := hid (rints_any (w := w3.drew) (F := ((mq + ((n2 + R3) + (X + F))) + (blk b1 hd 118 + (blk bl cur1 119 + (blk b2 cur2 125 + blk bk curk 22)))) + n1) (hcl.rdS.more _) (H7.out.eq (by ac_rfl)) (by rw [hql]; omega))
          rw [hql] at Hcall
          have Hln := hid hln
          have Hputl := hid hputl
          have Hy4 := hid (arr_lt y4)
          have Hσ2 := hid hσ2
          clear hm y1 y2 y3 y4 gk hcl hcell hgc hone hcs hln hputl keep hcll hql d0 d1 f5 K1 K2 Hput hlt
          refine wp_region_txt (fun W => W.cell? ⟨b1, 2, none⟩ = some (.slice (some ⟨bl, ol, none⟩) σ.sta.length cl) ∧ W.cell? ⟨bl, ol + i, none⟩ = some (.slice (some ⟨b2, o2, none⟩) σ.sta.length cc2) ∧
              W.cell? ⟨b2, o2 + j, none⟩ = some (.slice Al (σ.lineAt i j).length al) ∧ W.cell? ⟨b1, 1, none⟩ = some (.slice (some ⟨bk, ok, none⟩) σ.sta.length ck) ∧ W.cell? ⟨bk, ok + i, none⟩ = some (.slice Aq σ.sta.length cq)) (some 31)
            [(0, true), (1, true), (2, true), (3, true), (4, true), (5, true), (6, true), (7, true), (8, true), (9, true), (10, true), (11, true), (12, true), (13, true), (14, true), (15, true), (16, true), (17, true), (18, true), (19, true), (20, true), (21, true), (22, true), (23, true), (24, true), (25, true), (26, false), (27, true), (28, false), (29, false), (30, true), (31, false)] (by kernel_rfl) rfl (by kernel_rfl) (by kernel_rfl) (by repeat (first | with_reducible refine PanicOk.thn ?_ | with_reducible refine PanicOk.blk ?_ | exact PanicOk.body _ _ _)) ?_
          repeat
            (refine txt_quiet ?_ hS rfl rfl (fun W hW => ?_) ?_
             rotate_left 1
             · obtain ⟨hW1, hW2, hW3, hW4, hW5⟩ := hW
               go_simp
               exact rfl
             simp only [Act.put, List.setIfInBounds_toArray, List.set_cons_zero, List.set_cons_succ])
          refine txt_op rfl rfl ?_
          refine op_call 90 _ _ (by go_simp) _ Hcall.out ?_
          rintro e w4 ⟨Aw, cw, mw, rfl, j1, j2, j3⟩
          refine ⟨_, rfl, ?_⟩
          have H8 := hid (show Has w4 ((mw + (mq + (n1 + (n2 + R3) + (X + F)))) + (blk b1 hd 118 + (blk bl cur1 119 + (blk b2 cur2 125 + blk bk curk 22)))) from j2.eq (by ac_rfl))
          have hS3 := Hkeep.out _ _ H8.out
          refine ⟨fun _ => hS3, ?_⟩
          simp only [Act.put, List.setIfInBounds_toArray, List.set_cons_zero, List.set_cons_succ]
          clear hS
          have Hw := hid j1
          have E8 := hid ((Z3.out.trans (Ext.drew _)).trans j3)
          clear j1 j2 j3 Z3
          repeat
            (refine txt_quiet ?_ hS3 rfl rfl (fun W hW => ?_) ?_
             rotate_left 1
             · obtain ⟨hW1, hW2, hW3, hW4, hW5⟩ := hW
               go_simp
               exact rfl
             simp only [Act.put, List.setIfInBounds_toArray, List.set_cons_zero, List.set_cons_succ])
          refine txt_op rfl rfl ?_
          refine op_run (.slice (some ⟨w4.heap.size, 0, none⟩) 1 1) (w4.alloc (.cells #[.int .i64 pieces, .slice Aw σ.sta.length cw] 127)) (by go_simp) ?_
          have hS4 := Hkeep.out (w4.alloc (.cells #[.int .i64 pieces, .slice Aw σ.sta.length cw] 127)) (pts w4.heap.size (.cells #[.int .i64 pieces, .slice Aw σ.sta.length cw] 127) + (mw + (mq + (n1 + (n2 + R3) + (X + F))))) ((H8.out.alloc _).eq (by ac_rfl))
          refine ⟨fun _ => hS4, ?_⟩
          simp only [Act.put, List.setIfInBounds_toArray, List.set_cons_zero, List.set_cons_succ]
          clear hS3
          refine txt_op rfl rfl ?_
          have hln' : RLine (mw + (X + F)) (σ.lineAt i j) (.slice Al (σ.lineAt i j).length al) mq := RLine.pool mw _ _ _ Hln.out
          have hrow : Pooled RT.rmsg (mw + (X + F)) ⟨pieces, s.clock.set i (s.clock.getD i 0 + 1)⟩ [.int .i64 pieces, .slice Aw σ.sta.length cw] 0 := pooled_msg ⟨_, rfl, by rw [MS.add_comm]; exact Hw.out.rdS.more _⟩
          refine op_push (.tmp 76) (.tmp 87) row125 rfl (.slice Al (σ.lineAt i j).length al) rfl _ rfl rfl (Pooled RT.rmsg (mw + (X + F))) Pooled.one Pooled.len (σ.lineAt i j) ⟨pieces, s.clock.set i (s.clock.getD i 0 + 1)⟩ mq 0 ((mw + (n1 + (n2 + R3) + (X + F))) + (blk b1 hd 118 + (blk bl cur1 119 + (blk b2 cur2 125 + blk bk curk 22)))) hln' hrow (H8.out.eq (by rw [MS.zero_add]; ac_rfl)) (σ.lineAt i j).length rfl (by have := Hlen.out.2.2.2; omega) (by omega) ?_
          intro A8 c8 w8 m8 j4 j5 j6
          have hS5 := Hkeep.out w8 (m8 + (mw + (n1 + (n2 + R3) + (X + F)))) (j5.eq (by ac_rfl))
          refine ⟨fun _ => hS5, ?_⟩
          simp only [Act.put, List.setIfInBounds_toArray, List.set_cons_zero, List.set_cons_succ]
          clear hS4 hln' hrow
          repeat
            (refine txt_quiet ?_ hS5 rfl rfl (fun W hW => ?_) ?_
             rotate_left 1
             · obtain ⟨hW1, hW2, hW3, hW4, hW5⟩ := hW
               go_simp
               exact rfl
             simp only [Act.put, List.setIfInBounds_toArray, List.set_cons_zero, List.set_cons_succ])
          refine txt_op rfl rfl ?_
          refine op_store_blk (.tmp 89) (.tmp 88) 125 rfl size125' b2 (o2 + j) (.slice A8 ((σ.lineAt i j).length + 1) c8) rfl rfl rfl cur2 125 _ (j5.eq (b := blk b2 cur2 125 + (blk b1 hd 118 + (blk bl cur1 119 + (m8 + (blk bk curk 22 + (n1 + n2) + R3))) + (mw + (X + F)))) (by ac_rfl)) Hy4.out ?_
          intro w9 j7 j8
          refine ⟨fun h => absurd rfl h, ?_⟩
          simp only [Act.put]
          refine txt_done ?_
          have H9 := hid (show Has w9 ((blk b1 hd 118 + (blk bl cur1 119 + (blk b2 (cur2.setIfInBounds (o2 + j) (.slice A8 ((σ.lineAt i j).length + 1) c8)) 125 + (m8 + (blk bk curk 22 + (n1 + n2) + R3))))) + (mw + (X + F))) from j7.eq (by ac_rfl))
          have E9 := hid ((E8.out.trans j6).trans j8)
          have Hn := hid (Hputl.out mw _ _ _ j4)
          clear hS5 j4 j5 j6 j7 j8 H8 E8
          go_wp2
          go_ret2
          have e2 := Net.push_chan Hrow.out Hl.out ⟨pieces, s.clock.set i (s.clock.getD i 0 + 1)⟩
          rw [Hσ2.out, e2]
          have hfin := Hn.out
          have H9o := H9.out
          exact ⟨b1, (blk b1 hd 118 + (blk bl cur1 119 + (blk b2 (cur2.setIfInBounds (o2 + j) (.slice A8 ((σ.lineAt i j).length + 1) c8)) 125 + (m8 + (blk bk curk 22 + (n1 + n2) + R3))))) + (mw + X), rfl,
            by rw [show (blk b1 hd 118 + (blk bl cur1 119 + (blk b2 (cur2.setIfInBounds (o2 + j) (.slice A8 ((σ.lineAt i j).length + 1) c8)) 125 + (m8 + (blk bk curk 22 + (n1 + n2) + R3))))) + (mw + X) + F = (blk b1 hd 118 + (blk bl cur1 119 + (blk b2 (cur2.setIfInBounds (o2 + j) (.slice A8 ((σ.lineAt i j).length + 1) c8)) 125 + (m8 + (blk bk curk 22 + (n1 + n2) + R3))))) + (mw + (X + F)) by ac_rfl]; exact hfin.rd, H9o.eq (by ac_rfl), E9.out⟩
    · have hp := parcB_no h2
      have e : σ.send i j pieces = (2, σ) := by unfold Net.send; rw [if_neg (by simp [h1]), if_pos hp]
      rw [e]
      clear e h1 hp g5
      by_cases g6 : 1 ≤ pieces
      · have g7 : ¬ pieces ≤ 1000000 := fun h => h2 ⟨g6, h⟩
        clear h2
        go_enter Try.func68, Try.ntmps68
        go_wp2_with (go_at_call 73; refine Hends.out.mono ?_; rintro e w' ⟨rfl, rfl⟩)
        go_ret2
        exact ⟨b, 0, rfl, Hr.out.same, HH.out.same, Ext.refl w⟩
      · clear h2
        go_enter Try.func68, Try.ntmps68
        go_wp2_with (go_at_call 73; refine Hends.out.mono ?_; rintro e w' ⟨rfl, rfl⟩)
        go_ret2
        exact ⟨b, 0, rfl, Hr.out.same, HH.out.same, Ext.refl w⟩
  · have e : σ.send x y pieces = (2, σ) := by unfold Net.send; rw [if_pos h1]
    have h1' : pairErr σ.sta.length x y = 2 := by unfold pairErr at h1 ⊢; split at h1 <;> simp_all
    rw [e]
    rw [h1'] at Hends
    clear e h1 h1'
    go_enter Try.func68, Try.ntmps68
    go_wp2_with (go_at_call 73; refine Hends.out.mono ?_; rintro e w' ⟨rfl, rfl⟩)
    go_ret2
    exact ⟨b, 0, rfl, Hr.out.same, HH.out.same, Ext.refl w⟩
end Go.Proofs.Ytnkgfgkgepadhaa

/-
  The walk of Send.
-/
import Derived.Test.YtnkgfgkgepadhaaWalk3
namespace Go.Proofs.Ytnkgfgkgepadhaa
open Go.RowKit
set_option linter.unusedVariables false
set_option linter.unusedSimpArgs false

/-- A net at block b behind a call: its memory, what the pool has gained. -/
def NetPost (Pl F : MS) (b : Nat) (w : World) (σ : Net) (ps : List Nat) (w' : World) : Prop := ∃ m' X, Has w' (m' + ((X + Pl) + F)) ∧ Ext w w' ∧ IsNet (X + Pl) σ ps b m'

theorem Net.did_at {σ : Net} {k : Nat} {s : Sta} (hs : σ.sta[k]? = some s) (what other pieces : Int) :
    (σ.did k what other pieces).sta[k]? = some { s with events := s.events + 1, clock := s.clock.set k (s.clock.getD k 0 + 1) } ∧ (σ.did k what other pieces).chan = σ.chan ∧ (σ.did k what other pieces).shots = σ.shots ∧
      (σ.did k what other pieces).sta.length = σ.sta.length ∧ (σ.did k what other pieces).evs.length = σ.evs.length + 1 := by
  obtain ⟨hk, rfl⟩ := List.getElem?_eq_some_iff.1 hs
  simp [Net.did, hk]
theorem Net.gain_at {σ : Net} {k : Nat} {s : Sta} (hs : σ.sta[k]? = some s) (d : Int) :
    (σ.gain k d).sta[k]? = some { s with pieces := s.pieces + d } ∧ (σ.gain k d).chan = σ.chan ∧ (σ.gain k d).shots = σ.shots ∧ (σ.gain k d).sta.length = σ.sta.length ∧ (σ.gain k d).evs = σ.evs := by
  obtain ⟨hk, rfl⟩ := List.getElem?_eq_some_iff.1 hs
  simp [Net.gain, hk]

/-- The station's pieces, as Send asks for them. -/
def Net.held (σ : Net) (i : Nat) : Int := match σ.sta[i]? with | some s => s.pieces | none => 0
def Net.clockOf (σ : Net) (i : Nat) : List Int := match σ.sta[i]? with | some s => s.clock | none => []
def Net.send (σ : Net) (x y pieces : Int) : Int × Net :=
  if pairErr σ.sta.length x y ≠ 0 then (2, σ)
  else if parcB pieces = false then (2, σ)
  else if σ.held x.toNat < pieces then (10, σ)
  else if 400 ≤ σ.evs.length then (8, σ)
  else (0, ((σ.gain x.toNat (-pieces)).did x.toNat 2 y pieces).push x.toNat y.toNat ⟨pieces, ((σ.gain x.toNat (-pieces)).did x.toNat 2 y pieces).clockOf x.toNat⟩)

set_option maxHeartbeats 2000000 in
set_option maxRecDepth 100000 in
theorem send_any (Pl F : MS) (σ : Net) (ps : List Nat) (b : Nat) (m : MS) (w : World) (hok : NetOk σ) (hnet : IsNet Pl σ ps b m) (hH : Has w (m + (Pl + F))) (x y pieces : Int) :
    Calls Try.prog 25 #[.pointer (some ⟨b, 0, none⟩), .int .i64 x, .int .i64 y, .int .i64 pieces] w fun e w' => e = .returned (.int .i64 (σ.send x y pieces).1) ∧ NetPost Pl F b w (σ.send x y pieces).2 ps w' := by
  obtain ⟨hd, R, rfl, _, ⟨A0, c0, h0, hn0, _⟩, _, _, ⟨A3, c3, h3, _, _⟩⟩ := hnet.heads
  have hn2 := hok.n2
  cases A0 with
  | none => exact absurd (hn0 rfl) (by omega)
  | some ad =>
  clear hn0
  have f0 : w.cell? ⟨b, 0, none⟩ = some (.slice (some ad) σ.sta.length c0) := (hH.eq (b := blk b hd 84 + (R + (Pl + F))) (by ac_rfl)).at_ h0
  have f3 : w.cell? ⟨b, 3, none⟩ = some (.slice A3 σ.evs.length c3) := (hH.eq (b := blk b hd 84 + (R + (Pl + F))) (by ac_rfl)).at_ h3
  have hpost : NetPost Pl F b w σ ps w := ⟨blk b hd 84 + R, 0, hH.eq (by rw [MS.zero_add]), Ext.refl w, by rw [MS.zero_add]; exact hnet⟩
  have HPo := hid hpost
  have hN := hid hnet
  have hHH := hid hH
  clear hnet hH hpost h0 h3
  by_cases h1 : pairErr σ.sta.length x y ≠ 0
  · have h1' : pairErr σ.sta.length x y = 2 := by unfold pairErr at h1 ⊢; split at h1 <;> simp_all
    have e : σ.send x y pieces = (2, σ) := by unfold Net.send; rw [if_pos h1]
    rw [e]
    clear h1 e hok
    go_enter Try.func25, Try.ntmps25
    go_wp2_with (go_at_call 50; refine (pair_any b ad σ.sta.length c0 _ f0 x y).mono ?_; rintro e w' ⟨rfl, rfl⟩; rw [h1'])
    go_ret
    exact ⟨rfl, HPo.out⟩
  · have h1' : pairErr σ.sta.length x y = 0 := by simpa using h1
    cases h2 : parcB pieces with
    | false =>
      have e : σ.send x y pieces = (2, σ) := by unfold Net.send; rw [if_neg h1, if_pos h2]
      rw [e]
      clear h1 e hok
      go_enter Try.func25, Try.ntmps25
      go_wp2_with (first
        | (go_at_call 50; refine (pair_any b ad σ.sta.length c0 _ f0 x y).mono ?_; rintro e w' ⟨rfl, rfl⟩; rw [h1'])
        | (go_at_call 63; refine (parcelled_any _ _).mono ?_; rintro e w' ⟨rfl, rfl⟩))
      go_ret
      exact ⟨rfl, HPo.out⟩
    | true =>
      have hxy : (0 ≤ x ∧ x < σ.sta.length) ∧ (0 ≤ y ∧ y < σ.sta.length) ∧ x ≠ y := by
        unfold pairErr at h1'
        split at h1'
        · assumption
        · cases h1'
      obtain ⟨⟨g1, g2⟩, ⟨g3, g4⟩, g5⟩ := hxy
      obtain ⟨i, rfl⟩ := Int.eq_ofNat_of_zero_le g1
      obtain ⟨j, rfl⟩ := Int.eq_ofNat_of_zero_le g3
      have hi : i < σ.sta.length := by omega
      have hj : j < σ.sta.length := by omega
      obtain ⟨s, hs⟩ : ∃ s, σ.sta[i]? = some s := ⟨_, List.getElem?_eq_getElem hi⟩
      obtain ⟨q1, q2, q3, q4, q5, q6⟩ := hok.sta s (List.mem_of_getElem? hs)
      have hheld : σ.held i = s.pieces := by simp [Net.held, hs]
      obtain ⟨hd', bs, o, c, cur, vc, mc, R', hm, i0, i1, i2, i3, hclk, hput⟩ := hN.out.station hs
      have HB : Has w (blk bs cur 107 + (blk b hd' 84 + (mc + R') + (Pl + F))) := hHH.out.eq (by rw [hm]; ac_rfl)
      have j1 := HB.at_ i1
      have j0 : w.cell? ⟨b, 0, none⟩ = some (.slice (some ⟨bs, o, none⟩) σ.sta.length c) := (hHH.out.eq (b := blk b hd' 84 + (blk bs cur 107 + (mc + R') + (Pl + F))) (by rw [hm]; ac_rfl)).at_ i0
      obtain ⟨rfl, rfl⟩ : ad = ⟨bs, o, none⟩ ∧ c0 = c := by have := f0.symm.trans j0; simpa using this
      clear f0
      by_cases h3 : s.pieces < pieces
      · have e : σ.send i j pieces = (10, σ) := by unfold Net.send; rw [if_neg h1, if_neg (by rw [h2]; simp), if_pos (by rw [Int.toNat_natCast, hheld]; exact h3)]
        rw [e]
        clear e h1 g5 hm i0 i1 i2 i3 hput hclk hheld hs hok q1 q2 q3 q4 q5 q6
        go_enter Try.func25, Try.ntmps25
        go_wp2_with (first
          | (go_at_call 50; refine (pair_any b ⟨bs, o, none⟩ σ.sta.length c0 _ j0 i j).mono ?_; rintro e w' ⟨rfl, rfl⟩; rw [h1'])
          | (go_at_call 63; refine (parcelled_any _ _).mono ?_; rintro e w' ⟨rfl, rfl⟩))
        go_ret
        exact ⟨rfl, HPo.out⟩
      · by_cases he : 400 ≤ σ.evs.length
        · have e : σ.send i j pieces = (8, σ) := by unfold Net.send; rw [if_neg h1, if_neg (by rw [h2]; simp), if_neg (by rw [Int.toNat_natCast, hheld]; exact h3), if_pos he]
          rw [e]
          have hr : roomErr σ.evs.length = 8 := by unfold roomErr; rw [if_neg (by omega)]
          clear e h1 g5 hm i0 i1 i2 i3 hput hclk hheld hs hok q1 q2 q3 q4 q5 q6 he
          go_enter Try.func25, Try.ntmps25
          go_wp2_with (first
            | (go_at_call 50; refine (pair_any b ⟨bs, o, none⟩ σ.sta.length c0 _ j0 i j).mono ?_; rintro e w' ⟨rfl, rfl⟩; rw [h1'])
            | (go_at_call 63; refine (parcelled_any _ _).mono ?_; rintro e w' ⟨rfl, rfl⟩)
            | (go_at_call 51; refine (room_any b A3 σ.evs.length c3 _ f3).mono ?_; rintro e w' ⟨rfl, rfl⟩; rw [hr]))
          go_ret
          exact ⟨rfl, HPo.out⟩
        · have hr : roomErr σ.evs.length = 0 := by unfold roomErr; rw [if_pos (by omega)]
          have e : σ.send i j pieces = (0, ((σ.gain i (-pieces)).did i 2 j pieces).push i j ⟨pieces, ((σ.gain i (-pieces)).did i 2 j pieces).clockOf i⟩) := by
            unfold Net.send; rw [if_neg h1, if_neg (by rw [h2]; simp), if_neg (by rw [Int.toNat_natCast, hheld]; exact h3), if_neg he]; rfl
          rw [e]
          obtain ⟨σf, hσf⟩ : ∃ σf, σf = ((σ.gain i (-pieces)).did i 2 j pieces).push i j ⟨pieces, ((σ.gain i (-pieces)).did i 2 j pieces).clockOf i⟩ := ⟨_, rfl⟩
          rw [← hσf]
          -- the net behind '-=' and behind 'event'
          have hnet2 := hput { s with pieces := s.pieces + -pieces } (cur.setIfInBounds (o + i * 3) (.int .i64 (s.pieces + -pieces))) vc mc (by simp) (fun j hj => by rw [Array.getElem?_setIfInBounds_ne (by omega)]) (arr_eq (arr_lt i1)) (arr_ne i2 (by omega)) (arr_ne i3 (by omega)) hclk
          obtain ⟨t1, t2, t3, t4, t5⟩ := Net.gain_at hs (-pieces)
          have hg : σ.gain i (-pieces) = { σ with sta := σ.sta.set i { s with pieces := s.pieces + -pieces } } := by simp [Net.gain, hs]
          rw [← hg] at hnet2
          have Hf := hid hσf
          clear hσf
          generalize hσ1 : σ.gain i (-pieces) = σ1 at *
          obtain ⟨u1, u2, u3, u4, u5⟩ := Net.did_at t1 2 j pieces
          have hnd : ∀ w1, Has w1 (blk bs (cur.setIfInBounds (o + i * 3) (.int .i64 (s.pieces + -pieces))) 107 + (blk b hd' 84 + (mc + R') + (Pl + F))) → _ := fun w1 H1 =>
            event_did Pl F σ1 ps b _ w1 hnet2 (H1.eq (by ac_rfl)) i _ t1 (show i < s.clock.length by omega) 2 j pieces q4 (show s.events < 1000000 by have := hok.evs; omega) (fun t ht => by have := q6 t ht; have := hok.evs; omega) (show s.clock.length ≤ 1000 by have := hok.n5; omega) (by rw [t5]; have := hok.evs; omega)
          have Hnd := hid hnd
          have l1 := arr_lt i1
          have hsub : IntKind.i64.wrap (s.pieces - pieces) = s.pieces + -pieces := by rw [IntKind.wrap_i64]; have := hok.evs; have h2' := parcB_range h2; omega
          have hevs := hok.evs
          have hP : (s.pieces + -pieces) = s.pieces - pieces := by omega
          clear e hnet2 hnd t1 t3 hg hσ1 h1 g5 hm i0 i1 i2 i3 hput hclk hheld hs hsub
          have hok' := hid hok
          have hi4 : σ.sta.length = σ1.sta.length := t4.symm
          have Hi4 := hid hi4
          clear hi4
          have t2' : σ1.chan = σ.chan := t2
          have Ht2 := hid t2'
          clear t2'
          have Hu := hid (And.intro u1 (And.intro u2 (And.intro u3 (And.intro u4 u5))))
          have Hq := hid (And.intro q1 q6)
          clear hok u1 u2 u3 u4 u5 q1 q6 t2 t4 t5
          have b1 : 0 ≤ s.pieces - pieces := by omega
          have b2 : s.pieces - pieces ≤ 1000000000000 := by have := parcB_range h2; omega
          clear q3
          rw [hP] at Hnd
          go_enter Try.func25, Try.ntmps25
          go_wp2_with (first
            | (go_at_call 50; refine (pair_any b ⟨bs, o, none⟩ σ.sta.length c0 _ j0 i j).mono ?_; rintro e w' ⟨rfl, rfl⟩; rw [h1'])
            | (go_at_call 63; refine (parcelled_any _ _).mono ?_; rintro e w' ⟨rfl, rfl⟩)
            | (go_at_call 51; refine (room_any b A3 σ.evs.length c3 _ f3).mono ?_; rintro e w' ⟨rfl, rfl⟩; rw [hr])
            | (refine wpList_store_blk rfl (.tmp 49) (.tmp 47) 3 rfl size3 bs _ (.int .i64 (s.pieces - pieces)) rfl rfl rfl cur 107 _ HB l1 ?_; intro w1 H1 E1)
            | (go_at_call 64; refine (Hnd.out w1 H1).mono ?_; rintro e w2 ⟨rfl, m2, H2', E2, hnet3⟩))
          -- the last statement: the parcel goes behind the others
          obtain ⟨u1, u2, u3, u4, u5⟩ := Hu.out
          have t2' := Ht2.out
          have hi4 := Hi4.out
          have hokk := hok'.out
          have hcl2 : (σ1.did i 2 j pieces).clockOf i = s.clock.set i (s.clock.getD i 0 + 1) := by simp [Net.clockOf, u1]
          have hclen : (s.clock.set i (s.clock.getD i 0 + 1)).length = s.clock.length := by simp
          obtain ⟨r, hr⟩ : ∃ r, σ.chan[i]? = some r := ⟨_, List.getElem?_eq_getElem (by rw [hokk.rows]; exact hi)⟩
          have hrl := hokk.cols r (List.mem_of_getElem? hr)
          obtain ⟨l, hl⟩ : ∃ l, r[j]? = some l := ⟨_, List.getElem?_eq_getElem (by rw [hrl]; exact hj)⟩
          have hll := hokk.line i r l hr (List.mem_of_getElem? hl)
          have hcp : (σ.shots.countP fun x => x.recorded.getD i false) ≤ 8 := Nat.le_trans List.countP_le_length hokk.shots
          have hrow : (σ1.did i 2 j pieces).chan[i]? = some r := by rw [u2, t2']; exact hr
          obtain ⟨hd1, b1, o1, cc1, cur1, b2', o2, cc2, cur2, vl, ml, vst, mst, R1, hm1, n0, hst, k0, k1, k2, hline, hput1⟩ := hnet3.line hrow hl
          obtain ⟨bs2, os, cs2, cur3, vk, mk, R2, rfl, rfl, _, _, n3, hclk2⟩ := staAt hst u1
          obtain ⟨Ak, ck, rfl, _⟩ := SlR.form hclk2
          obtain ⟨Al, cl, rfl, hAl, hcl, _⟩ := SlR.form hline
          simp only [hclen] at n3 hclk2
          have facts : ∀ (W : World) (X Y : MS), Has W (X + (blk b hd1 84 + (blk b1 cur1 92 + (blk b2' cur2 91 + (Y + ((blk bs2 cur3 107 + (mk + R2)) + R1))) + (Pl + F)))) → W.cell? ⟨b, 1, none⟩ = some (.slice (some ⟨b1, o1, none⟩) (σ1.did i 2 j pieces).chan.length cc1) ∧ W.cell? ⟨b1, o1 + i, none⟩ = some (.slice (some ⟨b2', o2, none⟩) r.length cc2) ∧
              W.cell? ⟨b2', o2 + j, none⟩ = some (.slice Al l.length cl) ∧ W.cell? ⟨b, 0, none⟩ = some (.slice (some ⟨bs2, os, none⟩) (σ1.did i 2 j pieces).sta.length cs2) ∧ W.cell? ⟨bs2, os + i * 3 + 2, none⟩ = some (.slice Ak s.clock.length ck) := fun W X Y h =>
            ⟨(h.eq (b := blk b hd1 84 + (X + (blk b1 cur1 92 + (blk b2' cur2 91 + (Y + ((blk bs2 cur3 107 + (mk + R2)) + R1))) + (Pl + F)))) (by ac_rfl)).at_ k0,
             (h.eq (b := blk b1 cur1 92 + (X + (blk b hd1 84 + (blk b2' cur2 91 + (Y + ((blk bs2 cur3 107 + (mk + R2)) + R1))) + (Pl + F)))) (by ac_rfl)).at_ k1,
             (h.eq (b := blk b2' cur2 91 + (X + (blk b hd1 84 + (blk b1 cur1 92 + (Y + ((blk bs2 cur3 107 + (mk + R2)) + R1))) + (Pl + F)))) (by ac_rfl)).at_ k2,
             (h.eq (b := blk b hd1 84 + (X + (blk b1 cur1 92 + (blk b2' cur2 91 + (Y + ((blk bs2 cur3 107 + (mk + R2)) + R1))) + (Pl + F)))) (by ac_rfl)).at_ n0,
             (h.eq (b := blk bs2 cur3 107 + (X + (blk b hd1 84 + (blk b1 cur1 92 + (blk b2' cur2 91 + (Y + ((mk + R2) + R1))) + (Pl + F))))) (by ac_rfl)).at_ n3⟩
          have keep : ∀ (W : World) (X : MS), Has W (X + (m2 + (Pl + F))) → _ := fun W X h => facts W X ml (h.eq (by rw [hm1]; ac_rfl))
          have hi2 : (i : Int) < (σ1.did i 2 j pieces).chan.length := by rw [u2, t2', hokk.rows]; omega
          have hi3 : (i : Int) < (σ1.did i 2 j pieces).sta.length := by rw [u4]; rw [← hi4]; omega
          have hj2 : (j : Int) < r.length := by rw [hrl]; omega
          have H5 : Has w2.drew (0 + (m2 + (Pl + F))) := by rw [MS.zero_add]; exact H2'.drew
          have hS := keep _ _ H5
          refine wp_region_txt (fun W => W.cell? ⟨b, 1, none⟩ = some (.slice (some ⟨b1, o1, none⟩) (σ1.did i 2 j pieces).chan.length cc1) ∧ W.cell? ⟨b1, o1 + i, none⟩ = some (.slice (some ⟨b2', o2, none⟩) r.length cc2) ∧
              W.cell? ⟨b2', o2 + j, none⟩ = some (.slice Al l.length cl) ∧ W.cell? ⟨b, 0, none⟩ = some (.slice (some ⟨bs2, os, none⟩) (σ1.did i 2 j pieces).sta.length cs2) ∧ W.cell? ⟨bs2, os + i * 3 + 2, none⟩ = some (.slice Ak s.clock.length ck)) (some 33)
            [(0, true), (1, true), (2, true), (3, true), (4, true), (5, true), (6, true), (7, true), (8, true), (9, true), (10, true), (11, true), (12, true), (13, true), (14, true), (15, true), (16, true), (17, true), (18, true), (19, true), (20, true), (21, true), (22, true), (23, true), (24, true), (25, true), (26, true), (27, false), (28, true), (29, true), (30, false), (31, false), (32, true), (33, false)]
            (by kernel_rfl) rfl (by kernel_rfl) (by kernel_rfl) (by repeat (first | exact PanicOk.body _ _ _ | refine PanicOk.thn ?_ | refine PanicOk.blk ?_)) ?_
          have Hkeep := hid keep
          have Hm := hid hm1
          have Hfacts := hid facts
          have Hput := hid hput1
          have Hk := hid (And.intro k0 (And.intro k1 k2))
          have Hu2 := hid (And.intro u1 (And.intro u2 (And.intro u4 u5)))
          have Hr := hid (And.intro hr (And.intro hl hrow))
          have Hcl := hid (And.intro hcl2 hclen)
          have Ht2 := hid t2'
          have Hrl := hid hrl
          clear keep facts hm1 hput1 hst k0 k1 k2 u1 u2 u4 u5 u3 hr hl hrow hcl2 hclen t2' hrl n0 n3
          repeat
            (refine txt_quiet ?_ hS rfl rfl (fun W hW => ?_) ?_
             rotate_left 1
             · obtain ⟨hW1, hW2, hW3, hW4, hW5⟩ := hW
               go_simp
               exact rfl
             simp only [Act.put, List.setIfInBounds_toArray, List.set_cons_zero, List.set_cons_succ])
          -- Clone
          refine txt_op rfl rfl ?_
          have hckl : (s.clock.set i (s.clock.getD i 0 + 1)).length = s.clock.length := by simp
          have hrd : RdInts w2.drew Ak (s.clock.set i (s.clock.getD i 0 + 1)) := by
            obtain ⟨A, c', h1', h2', _⟩ := Ints.rd (w := w2.drew) (F := blk b hd1 84 + (blk b1 cur1 92 + (blk b2' cur2 91 + (ml + ((blk bs2 cur3 107 + R2) + R1))) + (Pl + F))) hclk2 (H5.eq (by rw [MS.zero_add, Hm.out]; ac_rfl))
            injection h1' with h1'
            rw [h1']
            exact h2'
          refine op_call 58 _ _ (by go_simp) _ (clone_ints Ak s.clock.length ck (s.clock.set i (s.clock.getD i 0 + 1)) hckl w2.drew _ hrd H5 (by have := hokk.n5; rw [hckl, Hq.out.1]; omega)) ?_
          rintro e w3 ⟨Aq, cq, mq, rfl, hq, H6, E3⟩
          refine ⟨_, rfl, ?_⟩
          rw [MS.zero_add] at H6
          have hS3 := Hkeep.out _ _ H6
          refine ⟨fun _ => hS3, ?_⟩
          simp only [Act.put, List.setIfInBounds_toArray, List.set_cons_zero, List.set_cons_succ]
          clear hS
          repeat
            (refine txt_quiet ?_ hS3 rfl rfl (fun W hW => ?_) ?_
             rotate_left 1
             · obtain ⟨hW1, hW2, hW3, hW4, hW5⟩ := hW
               go_simp
               exact rfl
             simp only [Act.put, List.setIfInBounds_toArray, List.set_cons_zero, List.set_cons_succ])
          -- the row of one parcel
          refine txt_op rfl rfl ?_
          refine op_run (.slice (some ⟨w3.heap.size, 0, none⟩) 1 1) (w3.alloc (.cells #[.iface 96 (.agg #[.int .i64 pieces, .slice Aq s.clock.length cq])] 94)) (by go_simp) ?_
          have H7 := H6.alloc (.cells #[.iface 96 (.agg #[.int .i64 pieces, .slice Aq s.clock.length cq])] 94)
          have hS4 := Hkeep.out _ _ (H7.eq (b := (pts w3.heap.size (.cells #[.iface 96 (.agg #[.int .i64 pieces, .slice Aq s.clock.length cq])] 94) + mq) + (m2 + (Pl + F))) (by ac_rfl))
          refine ⟨fun _ => hS4, ?_⟩
          simp only [Act.put, List.setIfInBounds_toArray, List.set_cons_zero, List.set_cons_succ]
          clear hS3
          -- append
          obtain ⟨xs, ms, mr, hsl, hrows, rfl⟩ := hline
          refine txt_op rfl rfl ?_
          refine op_append_sl (.tmp 72) (.tmp 85) 91 rfl 94 _ 1 16 Try.underlying91 info94 rfl (.slice Al l.length cl) rfl (some ⟨w3.heap.size, 0, none⟩) 1 1 rfl l.length xs ms _ hsl
            (H7.right.eq (b := ms + (mq + (blk b hd1 84 + (blk b1 cur1 92 + (blk b2' cur2 91 + (mr + ((blk bs2 cur3 107 + (mk + R2)) + R1))) + (Pl + F))))) (by rw [Hm.out]; ac_rfl))
            [.iface 96 (.agg #[.int .i64 pieces, .slice Aq s.clock.length cq])] rfl (by simp) (fun a ha => by injection ha with ha; subst ha; exact World.news_of_block (heap_alloc_new _ _)) (by simp [Value.oneCell']) (by simp only [maxLen]; omega) (by omega) ?_
          intro v4 w4 m4 h41 H8 E4
          obtain ⟨A4, c4, rfl, hA4, hc4, hm4⟩ := h41.form
          have hS5 := Hfacts.out w4 mq (m4 + mr) (H8.eq (by ac_rfl))
          refine ⟨fun _ => hS5, ?_⟩
          simp only [Act.put, List.setIfInBounds_toArray, List.set_cons_zero, List.set_cons_succ]
          clear hS4
          repeat
            (refine txt_quiet ?_ hS5 rfl rfl (fun W hW => ?_) ?_
             rotate_left 1
             · obtain ⟨hW1, hW2, hW3, hW4, hW5⟩ := hW
               go_simp
               exact rfl
             simp only [Act.put, List.setIfInBounds_toArray, List.set_cons_zero, List.set_cons_succ])
          -- the store
          obtain ⟨k0, k1, k2⟩ := Hk.out
          have H9 : Has w4 (blk b2' cur2 91 + (mq + (blk b hd1 84 + (blk b1 cur1 92 + (m4 + mr + ((blk bs2 cur3 107 + (mk + R2)) + R1))) + (Pl + F)))) := H8.eq (by ac_rfl)
          refine txt_op rfl rfl ?_
          refine op_store_blk (.tmp 87) (.tmp 86) 91 rfl size91 b2' (o2 + j) (.slice A4 (l.length + 1) c4) rfl rfl rfl cur2 91 _ H9 (arr_lt k2) ?_
          intro w5 H10 E5
          refine ⟨fun h => absurd rfl h, ?_⟩
          simp only [Act.put]
          refine txt_done ?_
          go_wp2
          go_ret
          -- shut
          obtain ⟨u1, u2, u4, u5⟩ := Hu2.out
          obtain ⟨hr, hl, hrow⟩ := Hr.out
          obtain ⟨hcl2, hclen⟩ := Hcl.out
          have hline2 : Line (mq + Pl) (l ++ [⟨pieces, s.clock.set i (s.clock.getD i 0 + 1)⟩]) (.slice A4 (l.length + 1) c4) (m4 + (mr + 0)) :=
            SlR.of (by simpa using h41) ((hrows.mono (El.mono (MsgV.pool mq))).append (RowsR.one ⟨_, rfl, ⟨rfl, .inl ⟨by have := parcB_range h2; show 0 < pieces; omega, _, mq, Pl, rfl, hq, rfl⟩⟩, rfl⟩))
          have hfin := Hput.out mq _ _ _ hline2
          have hσ : σf = { σ1.did i 2 j pieces with chan := (σ1.did i 2 j pieces).chan.set i (r.set j (l ++ [⟨pieces, s.clock.set i (s.clock.getD i 0 + 1)⟩])) } := by
            rw [Hf.out]
            simp only [Net.push, hrow, hcl2]
            simp [List.getD, hl]
          rw [← hσ] at hfin
          exact ⟨rfl, _, mq, H10.eq (by rw [MS.add_zero]; ac_rfl), ((((E1.trans E2).trans (Ext.drew _)).trans (E3.trans (Ext.alloc _ _))).trans E4).trans E5, hfin⟩
end Go.Proofs.Ytnkgfgkgepadhaa

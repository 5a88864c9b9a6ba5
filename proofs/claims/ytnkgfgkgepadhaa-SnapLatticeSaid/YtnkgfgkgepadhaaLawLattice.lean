/-
  The walk of SnapLattice.
-/
import Derived.Test.YtnkgfgkgepadhaaLawKeeps
import Derived.Test.YtnkgfgkgepadhaaIdealsW
namespace Go.Proofs.Ytnkgfgkgepadhaa
open Go.RowKit
set_option linter.unusedVariables false
set_option linter.unusedSimpArgs false

def mnI (x y : Int) : Int := if y < x then y else x
def mxI (x y : Int) : Int := if y > x then y else x
def lowC (a b : List Int) (s : Nat) : List Int := (List.range s).map fun i => mnI (a.getD i 0) (b.getD i 0)
def highC (a b : List Int) (s : Nat) : List Int := (List.range s).map fun i => mxI (a.getD i 0) (b.getD i 0)
theorem lowC_succ (a b : List Int) (s : Nat) : lowC a b (s + 1) = lowC a b s ++ [mnI (a.getD s 0) (b.getD s 0)] := by unfold lowC; rw [List.range_succ, List.map_append]; rfl
theorem highC_succ (a b : List Int) (s : Nat) : highC a b (s + 1) = highC a b s ++ [mxI (a.getD s 0) (b.getD s 0)] := by unfold highC; rw [List.range_succ, List.map_append]; rfl
theorem lowC_len (a b : List Int) (s : Nat) : (lowC a b s).length = s := by simp [lowC]
theorem highC_len (a b : List Int) (s : Nat) : (highC a b s).length = s := by simp [highC]
/-- What the walk needs of the events: the plain law. -/
structure LatLaw (n : Nat) (l : List Ev) : Prop where
  run : ∃ h, Hist.run n (Hist.zero n) l = some h ∧ ∀ S, BfsInv n h.needs S S.length → l.length + 1 ≤ S.length
  bad : ∀ cut : List Int, cut.length ≠ n → conR n l cut = (false, 2)
  good : ∀ cut : List Int, cut.length = n → ∃ q, conR n l cut = (q, 0)
  both : ∀ a b : List Int, conR n l a = (true, 0) → conR n l b = (true, 0) → conR n l (lowC a b n) = (true, 0) ∧ conR n l (highC a b n) = (true, 0)

/-- How the cuts' judgements may fall. -/
theorem con_cases {n : Nat} {l : List Ev} (h : LatLaw n l) (a b : List Int) :
    (a.length ≠ n ∧ conR n l a = (false, 2)) ∨ (b.length ≠ n ∧ a.length = n ∧ ∃ q, conR n l a = (q, 0) ∧ conR n l b = (false, 2)) ∨ (a.length = n ∧ b.length = n ∧ ∃ q, conR n l a = (false, 0) ∧ conR n l b = (q, 0)) ∨
    (a.length = n ∧ b.length = n ∧ conR n l a = (true, 0) ∧ conR n l b = (false, 0)) ∨ (a.length = n ∧ b.length = n ∧ conR n l a = (true, 0) ∧ conR n l b = (true, 0) ∧ conR n l (lowC a b n) = (true, 0) ∧ conR n l (highC a b n) = (true, 0)) := by
  by_cases ha : a.length = n
  · obtain ⟨q1, h1⟩ := h.good a ha
    by_cases hb : b.length = n
    · obtain ⟨q2, h2⟩ := h.good b hb
      cases q1 with
      | false => exact .inr (.inr (.inl ⟨ha, hb, q2, h1, h2⟩))
      | true =>
        cases q2 with
        | false => exact .inr (.inr (.inr (.inl ⟨ha, hb, h1, h2⟩)))
        | true => exact .inr (.inr (.inr (.inr ⟨ha, hb, h1, h2, h.both a b h1 h2⟩)))
    · exact .inr (.inl ⟨hb, ha, q1, h1, h.bad b hb⟩)
  · exact .inl ⟨ha, h.bad a ha⟩

set_option maxHeartbeats 4000000 in
set_option maxRecDepth 100000 in
theorem lattice_any {F : MS} {l : List Int} {A : Option Addr} {c : Nat} {w : World} {L : List ActD} {A2 : Option Addr} {c2 : Nat} {ua ub : List Int} {Aa Ab : Option Addr} {ca cb : Nat} (h : RdS F RT.int l (.slice A l.length c)) (hL : RdS F RT.act L (.slice A2 L.length c2)) (ha : RdS F RT.int ua (.slice Aa ua.length ca)) (hb : RdS F RT.int ub (.slice Ab ub.length cb)) (hH : Has w F)
    (hl : l.length ≤ 20) (hLl : L.length ≤ 60) (hn : newOk l) (hlaw : LatLaw l.length ((Net.new l).acts L).evs) (h60 : ((Net.new l).acts L).evs.length ≤ 60) :
    Calls Try.prog 12 #[.slice A l.length c, .slice A2 L.length c2, .slice Aa ua.length ca, .slice Ab ub.length cb] w (LawPost w F) := by
  obtain ⟨n2, n5, hbad⟩ := id hn
  have Ha := hid (after_net h hH hn hL (by omega))
  have HE := hid (EvsOk.acts L (EvsOk.new l) (NetOk.new hn)).1
  have Hn := hid (show ((Net.new l).acts L).n = l.length by rw [((EI.new hn).1.acts L).2, (EI.new hn).2])
  have t1 : ¬ (20 : Int) < l.length := by omega
  have t2 : ¬ (60 : Int) < L.length := by omega
  have Ra := hid ha
  have Rb := hid hb
  have Hlaw := hid hlaw
  have H60 := hid h60
  clear h hL hH hl hLl hn hbad ha hb hlaw h60
  generalize (Net.new l).acts L = σ at *
  have hc5 : ∀ e ∈ σ.evs, e.clock.length ≤ 5 := fun e he => by rw [(HE.out e he).cl, Hn.out]; exact n5
  have Hc5 := hid hc5
  clear hc5
  obtain ⟨n, hnl⟩ : ∃ n, n = l.length := ⟨_, rfl⟩
  rw [← hnl] at t1 n2 n5 Hn Hlaw ⊢
  rw [← hnl] at Ha
  clear hnl
  obtain ⟨N, hN⟩ : ∃ N, N = σ.evs.length := ⟨_, rfl⟩
  have hN60 : N ≤ 60 := by rw [hN]; exact H60.out
  have HN := hid hN
  clear hN
  obtain ⟨hh, hrun, hmany⟩ := Hlaw.out.run
  have Hrun := hid hrun
  have Hmany := hid hmany
  have Hcs := hid (con_cases Hlaw.out ua ub)
  clear hrun hmany
  go_enter Try.func12, Try.ntmps12
  go_wp2_with (first
    | (go_at_call 15; refine Ha.out.mono ?_; rintro e w1 ⟨b, rfl, k1, k2⟩; have K1 := hid k1; have E1 := hid k2; clear k1 k2)
    | (go_at_call 18; refine (events_net K1.out Hc5.out).mono ?_; rintro e w2 ⟨A3, c3, m3, rfl, _, k1, k2, k3⟩; have R3 := hid k1; have K2 := hid k2; have E2 := hid (E1.out.trans k3); clear k1 k2 k3))
  obtain ⟨M, hM⟩ : ∃ M, M = m3 + F := ⟨_, rfl⟩
  have HM := hid (show Has w2 M by rw [hM]; exact K2.out.has)
  have R5 := hid (show RdS M RT.ev σ.evs (.slice A3 σ.evs.length c3) by rw [hM]; exact R3.out.less F)
  have R6 := hid (show RdS M RT.int ua (.slice Aa ua.length ca) by rw [hM]; exact Ra.out.more m3)
  have R7 := hid (show RdS M RT.int ub (.slice Ab ub.length cb) by rw [hM]; exact Rb.out.more m3)
  have Hfin := hid (show ∀ W, Has W M → Has W F from fun W h => by rw [hM] at h; exact h.right)
  clear hM K1 K2 R3
  rw [← HN.out] at R5 ⊢
  go_at_call 44
  refine (ideals_ok R5.out HM.out n2 n5 (by rw [← HN.out]; exact hN60) Hrun.out).mono ?_
  rintro e w3 ⟨hI, hF3, hE3⟩
  have K3 := hid hF3
  have E3 := hid (E2.out.trans hE3)
  clear hF3 hE3
  have hgo : ∃ k er : Int, e = .returned (.tuple #[.int .i64 k, .int .i64 er]) ∧ (er = 8 ∨ (er = 0 ∧ (N : Int) + 1 ≤ k ∧ k ≤ 100000)) := by
    rcases hI with ⟨S, h1, h2, rfl⟩ | ⟨S, y, _, _, _, _, _, rfl⟩
    · have := Hmany.out S h1
      rw [← HN.out] at this
      exact ⟨_, _, rfl, .inr ⟨rfl, by omega, by omega⟩⟩
    · exact ⟨_, _, rfl, .inl rfl⟩
  obtain ⟨k, er, rfl, hker⟩ := hgo
  have NI : (N : Int) ≤ 60 := by omega
  have hw : IntKind.i64.wrap ((N : Int) + 1) = N + 1 := by rw [IntKind.wrap_i64]; omega
  clear hI
  have HMc := hid (show ∀ (cut : List Int) (Ac : Option Addr) (kc cc : Nat) (W : World) (X : MS), RdS (X + M) RT.int cut (.slice Ac kc cc) → Has W (X + M) → ∀ q er, conR n σ.evs cut = (q, er) → Calls Try.prog 37 #[.int .i64 n, .slice A3 N c3, .slice Ac kc cc] W fun e w' => e = .returned (.tuple #[.bool q, .int .i64 er]) ∧ Has w' (X + M) ∧ Ext W w' from
    fun cut Ac kc cc W X hr hW q er he => (consistent_any (R5.out.more X) hr hW (n := n)).mono fun e w' h => by
      rw [he] at h
      exact ⟨h.1, h.2.1 _ hW, h.2.2⟩)
  have HM0 := hid (show ∀ (cut : List Int) (Ac : Option Addr) (kc cc : Nat) (W : World), RdS M RT.int cut (.slice Ac kc cc) → Has W M → ∀ q er, conR n σ.evs cut = (q, er) → Calls Try.prog 37 #[.int .i64 n, .slice A3 N c3, .slice Ac kc cc] W fun e w' => e = .returned (.tuple #[.bool q, .int .i64 er]) ∧ Has w' M ∧ Ext W w' from
    fun cut Ac kc cc W hr hW q er he => (consistent_any R5.out hr hW (n := n)).mono fun e w' h => by
      rw [he] at h
      exact ⟨h.1, h.2.1 _ hW, h.2.2⟩)
  clear HM E2 E1
  rcases hker with her | ⟨her, hk1, hk2⟩
  all_goals
    subst her
    rcases Hcs.out with ⟨ha, hc⟩ | ⟨hb, ha, q, hc, hd⟩ | ⟨ha, hb, q, hc, hd⟩ | ⟨ha, hb, hc, hd⟩ | ⟨ha, hb, hc, hd, hlo, hhi⟩
    · obtain ⟨q2, e2, hd⟩ : ∃ q2 e2, conR n σ.evs ub = (q2, e2) := ⟨_, _, rfl⟩
      have Hc := hid hc
      have Hd := hid hd
      clear hc hd ha
      go_wp2_with (first
        | (go_at_call 37; refine (HM0.out _ _ _ _ _ R7.out K4.out _ _ Hd.out).mono ?_; rintro e w5 ⟨rfl, k1, k2⟩; have K5 := hid k1; have E5 := hid (E4.out.trans k2); clear k1 k2)
        | (go_at_call 37; refine (HM0.out _ _ _ _ _ R6.out K3.out _ _ Hc.out).mono ?_; rintro e w4 ⟨rfl, k1, k2⟩; have K4 := hid k1; have E4 := hid (E3.out.trans k2); clear k1 k2)
        | (go_at_call 14; refine (alive_any _).mono ?_; rintro e w7 ⟨rfl, k1, k2⟩))
      go_ret
      exact ⟨rfl, Hfin.out _ (k1 _ K5.out), E5.out.trans k2⟩
    · have Hc := hid hc
      have Hd := hid hd
      clear hc hd ha hb
      go_wp2_with (first
        | (go_at_call 37; refine (HM0.out _ _ _ _ _ R7.out K4.out _ _ Hd.out).mono ?_; rintro e w5 ⟨rfl, k1, k2⟩; have K5 := hid k1; have E5 := hid (E4.out.trans k2); clear k1 k2)
        | (go_at_call 37; refine (HM0.out _ _ _ _ _ R6.out K3.out _ _ Hc.out).mono ?_; rintro e w4 ⟨rfl, k1, k2⟩; have K4 := hid k1; have E4 := hid (E3.out.trans k2); clear k1 k2)
        | (go_at_call 14; refine (alive_any _).mono ?_; rintro e w7 ⟨rfl, k1, k2⟩))
      go_ret
      exact ⟨rfl, Hfin.out _ (k1 _ K5.out), E5.out.trans k2⟩
    · have Hc := hid hc
      have Hd := hid hd
      clear hc hd ha hb
      go_wp2_with (first
        | (go_at_call 37; refine (HM0.out _ _ _ _ _ R7.out K4.out _ _ Hd.out).mono ?_; rintro e w5 ⟨rfl, k1, k2⟩; have K5 := hid k1; have E5 := hid (E4.out.trans k2); clear k1 k2)
        | (go_at_call 37; refine (HM0.out _ _ _ _ _ R6.out K3.out _ _ Hc.out).mono ?_; rintro e w4 ⟨rfl, k1, k2⟩; have K4 := hid k1; have E4 := hid (E3.out.trans k2); clear k1 k2)
        | (go_at_call 14; refine (alive_any _).mono ?_; rintro e w7 ⟨rfl, k1, k2⟩))
      go_ret
      exact ⟨rfl, Hfin.out _ (k1 _ K5.out), E5.out.trans k2⟩
    · have Hc := hid hc
      have Hd := hid hd
      clear hc hd ha hb
      go_wp2_with (first
        | (go_at_call 37; refine (HM0.out _ _ _ _ _ R7.out K4.out _ _ Hd.out).mono ?_; rintro e w5 ⟨rfl, k1, k2⟩; have K5 := hid k1; have E5 := hid (E4.out.trans k2); clear k1 k2)
        | (go_at_call 37; refine (HM0.out _ _ _ _ _ R6.out K3.out _ _ Hc.out).mono ?_; rintro e w4 ⟨rfl, k1, k2⟩; have K4 := hid k1; have E4 := hid (E3.out.trans k2); clear k1 k2)
        | (go_at_call 14; refine (alive_any _).mono ?_; rintro e w7 ⟨rfl, k1, k2⟩))
      go_ret
      exact ⟨rfl, Hfin.out _ (k1 _ K5.out), E5.out.trans k2⟩
    · have Hc := hid hc
      have Hd := hid hd
      have Hlo := hid hlo
      have Hhi := hid hhi
      have HA := hid ha
      have HB := hid hb
      clear hc hd ha hb hlo hhi
      go_wp2_with (first
        | (go_at_call 37; refine (HM0.out _ _ _ _ _ R7.out K4.out _ _ Hd.out).mono ?_; rintro e w5 ⟨rfl, k1, k2⟩; have K5 := hid k1; have E5 := hid (E4.out.trans k2); clear k1 k2)
        | (go_at_call 37; refine (HM0.out _ _ _ _ _ R6.out K3.out _ _ Hc.out).mono ?_; rintro e w4 ⟨rfl, k1, k2⟩; have K4 := hid k1; have E4 := hid (E3.out.trans k2); clear k1 k2))
      go_loopw [17, 18, 19] (fun v17 v18 v19 wr => ∃ (s : Nat) (ml mh : MS), s ≤ n ∧ v19 = .int .i64 s ∧ Ints (lowC ua ub s) v17 ml ∧ Ints (highC ua ub s) v18 mh ∧ Has wr (ml + (mh + M)) ∧ Ext w wr) (fun _ _ v _ => n - (intOf v).toNat)
      case atStart => exact ⟨0, 0, 0, Nat.zero_le _, rfl, Ints.nil, Ints.nil, K5.out.eq (by rw [MS.zero_add, MS.zero_add]), E5.out⟩
      case round =>
        obtain ⟨s, ml, mh, hs, rfl, hlo, hhi, hHr, hE⟩ := hrel
        obtain ⟨A7, c7, rfl, _⟩ := hlo.form
        obtain ⟨A8, c8, rfl, _⟩ := hhi.form
        rw [lowC_len] at hlo ⊢
        rw [highC_len] at hhi ⊢
        have Hl := hid hlo
        have Hh := hid hhi
        have HHr := hid hHr
        have HEr := hid hE
        clear hlo hhi hHr hE
        by_cases hls : s < n
        · have Hls := hid hls
          have hlsI : (s : Int) < n := by omega
          obtain ⟨ba, oa, hAa, ea⟩ := R6.out.getInt (get_getD (l := ua) (j := s) 0 (by rw [HA.out]; exact hls))
          obtain ⟨bb, ob, hAb, eb⟩ := R7.out.getInt (get_getD (l := ub) (j := s) 0 (by rw [HB.out]; exact hls))
          subst hAa
          subst hAb
          have hla : (s : Int) < ua.length := by rw [HA.out]; exact hlsI
          have hlb : (s : Int) < ub.length := by rw [HB.out]; exact hlsI
          have Hl1 := hid (lowC_succ ua ub s)
          have Hh1 := hid (highC_succ ua ub s)
          generalize hxa : ua.getD s 0 = xa at *
          generalize hxb : ub.getD s 0 = xb at *
          have keep : ∀ W X, Has W (X + M) → W.cell? ⟨ba, oa + s, none⟩ = some (.int .i64 xa) ∧ W.cell? ⟨bb, ob + s, none⟩ = some (.int .i64 xb) := fun W X h => ⟨ea.c0 h.right, eb.c0 h.right⟩
          have Keep := hid keep
          have hS := keep wr.drew (ml + mh) (HHr.out.drew.eq (by ac_rfl))
          clear ea eb keep hls hxa hxb
          go_wp2
          refine wp_region_txt (fun W => W.cell? ⟨ba, oa + s, none⟩ = some (.int .i64 xa) ∧ W.cell? ⟨bb, ob + s, none⟩ = some (.int .i64 xb)) none
            [(0, true), (1, true), (2, true), (3, true), (4, true), (5, true), (6, true), (7, true), (8, true), (9, true), (10, false), (11, false), (12, true)] (by kernel_rfl) rfl (by kernel_rfl) (by kernel_rfl) (by repeat (first | with_reducible refine PanicOk.thn ?_ | with_reducible refine PanicOk.blk ?_ | exact PanicOk.body _ _ _)) ?_
          repeat
            (refine txt_quiet ?_ hS rfl rfl (fun W hW => ?_) ?_
             rotate_left 1
             · obtain ⟨hW1, hW2⟩ := hW
               go_simp
               exact rfl
             simp only [Act.put, List.setIfInBounds_toArray, List.set_cons_zero, List.set_cons_succ])
          rw [show (if xb < xa then xb else xa) = mnI xa xb from rfl]
          refine txt_op rfl rfl ?_
          refine op_run (.slice (some ⟨wr.drew.heap.size, 0, none⟩) 1 1) (wr.drew.alloc (.cells #[.int .i64 (mnI xa xb)] 3)) (by go_simp) ?_
          refine ⟨fun _ => Keep.out _ (pts wr.drew.heap.size (.cells #[.int .i64 (mnI xa xb)] 3) + (ml + mh)) ((HHr.out.drew.alloc _).eq (by ac_rfl)), ?_⟩
          simp only [Act.put, List.setIfInBounds_toArray, List.set_cons_zero, List.set_cons_succ]
          refine txt_op rfl rfl ?_
          refine op_push (.tmp 92) (.tmp 102) row22 rfl _ rfl _ rfl rfl (El IntV) El.one El.len (lowC ua ub s) (mnI xa xb) ml 0 (mh + M) Hl.out ⟨_, rfl, ⟨rfl, rfl⟩, rfl⟩ (HHr.out.drew.eq (by rw [MS.zero_add])) s (lowC_len _ _ _) (by omega) (by omega) ?_
          intro A9 c9 w6 m9 k1 k2 k3
          have L1 := hid k1
          have L2 := hid k2
          have L3 := hid ((HEr.out.trans (Ext.drew _)).trans k3)
          have hS2 := Keep.out w6 (m9 + mh) (L2.out.eq (by ac_rfl))
          refine ⟨fun _ => hS2, ?_⟩
          simp only [Act.put, List.setIfInBounds_toArray, List.set_cons_zero, List.set_cons_succ]
          clear hS k1 k2 k3
          repeat
            (refine txt_quiet ?_ hS2 rfl rfl (fun W hW => ?_) ?_
             rotate_left 1
             · obtain ⟨hW1, hW2⟩ := hW
               go_simp
               exact rfl
             simp only [Act.put, List.setIfInBounds_toArray, List.set_cons_zero, List.set_cons_succ])
          refine txt_done ?_
          have hS3 := Keep.out w6.drew (m9 + mh) (L2.out.drew.eq (by ac_rfl))
          clear hS2
          go_wp2
          refine wp_region_txt (fun W => W.cell? ⟨ba, oa + s, none⟩ = some (.int .i64 xa) ∧ W.cell? ⟨bb, ob + s, none⟩ = some (.int .i64 xb)) none
            [(0, true), (1, true), (2, true), (3, true), (4, true), (5, true), (6, true), (7, true), (8, true), (9, true), (10, false), (11, false), (12, true)] (by kernel_rfl) rfl (by kernel_rfl) (by kernel_rfl) (by repeat (first | with_reducible refine PanicOk.thn ?_ | with_reducible refine PanicOk.blk ?_ | exact PanicOk.body _ _ _)) ?_
          repeat
            (refine txt_quiet ?_ hS3 rfl rfl (fun W hW => ?_) ?_
             rotate_left 1
             · obtain ⟨hW1, hW2⟩ := hW
               go_simp
               exact rfl
             simp only [Act.put, List.setIfInBounds_toArray, List.set_cons_zero, List.set_cons_succ])
          first | rw [show (if xb > xa then xb else xa) = mxI xa xb from rfl] | rw [show (if xa < xb then xb else xa) = mxI xa xb from rfl]
          refine txt_op rfl rfl ?_
          refine op_run (.slice (some ⟨w6.drew.heap.size, 0, none⟩) 1 1) (w6.drew.alloc (.cells #[.int .i64 (mxI xa xb)] 3)) (by go_simp) ?_
          refine ⟨fun _ => Keep.out _ (pts w6.drew.heap.size (.cells #[.int .i64 (mxI xa xb)] 3) + (m9 + mh)) ((L2.out.drew.alloc _).eq (by ac_rfl)), ?_⟩
          simp only [Act.put, List.setIfInBounds_toArray, List.set_cons_zero, List.set_cons_succ]
          refine txt_op rfl rfl ?_
          refine op_push (.tmp 104) (.tmp 114) row22 rfl _ rfl _ rfl rfl (El IntV) El.one El.len (highC ua ub s) (mxI xa xb) mh 0 (m9 + M) Hh.out ⟨_, rfl, ⟨rfl, rfl⟩, rfl⟩ (L2.out.drew.eq (by rw [MS.zero_add]; ac_rfl)) s (highC_len _ _ _) (by omega) (by omega) ?_
          intro A10 c10 w8 m10 k1 k2 k3
          have M1 := hid k1
          have M2 := hid k2
          have M3 := hid ((L3.out.trans (Ext.drew _)).trans k3)
          have hS4 := Keep.out w8 (m10 + m9) (M2.out.eq (by ac_rfl))
          refine ⟨fun _ => hS4, ?_⟩
          simp only [Act.put, List.setIfInBounds_toArray, List.set_cons_zero, List.set_cons_succ]
          clear hS3 k1 k2 k3
          repeat
            (refine txt_quiet ?_ hS4 rfl rfl (fun W hW => ?_) ?_
             rotate_left 1
             · obtain ⟨hW1, hW2⟩ := hW
               go_simp
               exact rfl
             simp only [Act.put, List.setIfInBounds_toArray, List.set_cons_zero, List.set_cons_succ])
          refine txt_done ?_
          clear hS4
          go_wp2
          go_roundw
          case rel => exact ⟨s + 1, m9, m10, Hls.out, by go_num, by rw [Hl1.out]; exact L1.out, by rw [Hh1.out]; exact M1.out, M2.out.eq (by ac_rfl), M3.out⟩
          case measure => have := Hls.out; simp [intOf]; omega
        · have hse : s = n := by omega
          subst hse
          have Rl := hid (show RdS (ml + mh + M) RT.int (lowC ua ub s) (.slice A7 s c7) from (Hl.out.rdS.less mh).less M)
          have Rh := hid (show RdS (ml + mh + M) RT.int (highC ua ub s) (.slice A8 s c8) from (Hh.out.rdS.more ml).less M)
          have HHq := hid (HHr.out.eq (b := ml + mh + M) (by ac_rfl))
          go_wp2_with (first
            | (go_at_call 37; refine (HMc.out _ _ _ _ _ _ Rh.out K6.out _ _ Hhi.out).mono ?_; rintro e w7 ⟨rfl, k1, k2⟩; have K7 := hid k1; have E7 := hid (E6.out.trans k2); clear k1 k2)
            | (go_at_call 37; refine (HMc.out _ _ _ _ _ _ Rl.out HHq.out _ _ Hlo.out).mono ?_; rintro e w6 ⟨rfl, k1, k2⟩; have K6 := hid k1; have E6 := hid (HEr.out.trans k2); clear k1 k2)
            | (go_at_call 14; refine (alive_any _).mono ?_; rintro e w8 ⟨rfl, k1, k2⟩))
          go_ret
          exact ⟨rfl, Hfin.out _ (k1 _ K7.out.right), E7.out.trans k2⟩

set_option maxRecDepth 100000 in
theorem lattice_all {F : MS} {l : List Int} {A : Option Addr} {n c : Nat} {w : World} {L : List ActD} {A2 : Option Addr} {n2 c2 : Nat} {ua ub : List Int} {A3 A4 : Option Addr} {n3 c3 n4 c4 : Nat} (h : RdS F RT.int l (.slice A n c)) (hL : RdS F RT.act L (.slice A2 n2 c2)) (ha : RdS F RT.int ua (.slice A3 n3 c3)) (hb : RdS F RT.int ub (.slice A4 n4 c4)) (hH : Has w F)
    (hlaw : newOk l → L.length ≤ 60 → LatLaw l.length ((Net.new l).acts L).evs ∧ ((Net.new l).acts L).evs.length ≤ 60) :
    Calls Try.prog 12 #[.slice A n c, .slice A2 n2 c2, .slice A3 n3 c3, .slice A4 n4 c4] w (LawPost w F) := by
  obtain ⟨rfl, hc1, hc2, _⟩ := h.cells
  obtain ⟨rfl, hc3, hc4, _⟩ := hL.cells
  obtain ⟨rfl, hc5, hc6, _⟩ := ha.cells
  obtain ⟨rfl, hc7, hc8, _⟩ := hb.cells
  by_cases h1 : (20 : Int) < l.length
  · have HH := hid hH
    have q1 : (l.length : Int) ≤ 9223372036854775807 := by unfold maxLen at hc2; omega
    clear h hL hH hc1 hc2 hc3 hc4 ha hb hlaw
    go_enter Try.func12, Try.ntmps12
    go_wp2_with (go_at_call 14; refine (alive_any _).mono ?_; rintro e w1 ⟨rfl, k1, k2⟩)
    go_ret
    exact ⟨rfl, k1 _ HH.out, k2⟩
  · by_cases h2 : (60 : Int) < L.length
    · have HH := hid hH
      have q1 : (L.length : Int) ≤ 9223372036854775807 := by unfold maxLen at hc4; omega
      clear h hL hH hc1 hc2 hc3 hc4 ha hb hlaw
      go_enter Try.func12, Try.ntmps12
      go_wp2_with (go_at_call 14; refine (alive_any _).mono ?_; rintro e w1 ⟨rfl, k1, k2⟩)
      go_ret
      exact ⟨rfl, k1 _ HH.out, k2⟩
    · by_cases hn : newOk l
      · obtain ⟨y1, y2⟩ := hlaw hn (by omega)
        exact lattice_any h hL ha hb hH (by omega) (by omega) hn y1 y2
      · have HH := hid hH
        have Ha := hid (after_none (v := .slice A2 L.length c2) h hH hn)
        clear h hL hH hc1 hc2 hc3 hc4 hn ha hb hlaw
        go_enter Try.func12, Try.ntmps12
        go_wp2_with (first
          | (go_at_call 15; refine Ha.out.mono ?_; rintro e w' ⟨rfl, rfl⟩)
          | (go_at_call 14; refine (alive_any _).mono ?_; rintro e w1 ⟨rfl, k1, k2⟩))
        go_ret
        exact ⟨rfl, k1 _ HH.out, k2⟩
end Go.Proofs.Ytnkgfgkgepadhaa

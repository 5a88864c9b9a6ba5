/-
  The walk of SnapClocks.
-/
import Derived.Test.YtnkgfgkgepadhaaLawKeeps
import Derived.Test.YtnkgfgkgepadhaaHistC
import Derived.Test.YtnkgfgkgepadhaaCauses
import Derived.Test.YtnkgfgkgepadhaaBefores
import Derived.Test.YtnkgfgkgepadhaaWholeW
namespace Go.Proofs.Ytnkgfgkgepadhaa
open Go.RowKit
set_option linter.unusedVariables false
set_option linter.unusedSimpArgs false

/-- What the walk needs of the events: the plain law. -/
structure ClkLaw (n : Nat) (l : List Ev) : Prop where
  bf : ∀ i k, i < l.length → k < l.length → bfB (l.getD k dfEv).clock (l.getD i dfEv).clock = ((csAll l l.length).getD i []).getD k false
  con : ∀ cut : List Int, conR n l cut = if cut.length = n then (wlOk n l (csAll l l.length) cut, 0) else (false, 2)

set_option maxHeartbeats 4000000 in
set_option maxRecDepth 100000 in
theorem clocks_any {F : MS} {l : List Int} {A : Option Addr} {c : Nat} {w : World} {L : List ActD} {A2 : Option Addr} {c2 : Nat} {cut : List Int} {Ac : Option Addr} {cc : Nat} (h : RdS F RT.int l (.slice A l.length c)) (hL : RdS F RT.act L (.slice A2 L.length c2)) (hcut : RdS F RT.int cut (.slice Ac cut.length cc)) (hH : Has w F)
    (hl : l.length ≤ 20) (hLl : L.length ≤ 60) (hn : newOk l) (hlaw : ClkLaw l.length ((Net.new l).acts L).evs) (h60 : ((Net.new l).acts L).evs.length ≤ 400) :
    Calls Try.prog 8 #[.slice A l.length c, .slice A2 L.length c2, .slice Ac cut.length cc] w (LawPost w F) := by
  obtain ⟨n2, n5, hbad⟩ := id hn
  have Ha := hid (after_net h hH hn hL (by omega))
  have HE := hid (EvsOk.acts L (EvsOk.new l) (NetOk.new hn)).1
  have Hn := hid (show ((Net.new l).acts L).n = l.length by rw [((EI.new hn).1.acts L).2, (EI.new hn).2])
  have Hp := hid h
  have Hcut := hid hcut
  have t1 : ¬ (20 : Int) < l.length := by omega
  have t2 : ¬ (60 : Int) < L.length := by omega
  obtain ⟨_, q3, q4, _⟩ := hcut.cells
  have q5 : (cut.length : Int) ≤ 9223372036854775807 := by unfold maxLen at q4; omega
  have Hlaw := hid hlaw
  have H60 := hid h60
  clear h hL hH hl hLl hn hbad hcut hlaw h60 q3 q4
  generalize (Net.new l).acts L = σ at *
  have hc5 : ∀ e ∈ σ.evs, e.clock.length ≤ 5 := fun e he => by rw [(HE.out e he).cl, Hn.out]; exact n5
  have hst : ∀ e ∈ σ.evs, ∃ k : Nat, e.station = k ∧ k < l.length := fun e he => by
    have := (HE.out e he).st
    rw [Hn.out] at this
    exact this
  have Hc5 := hid hc5
  have Hst := hid hst
  clear hc5 hst
  obtain ⟨C, hC⟩ : ∃ C, C = csAll σ.evs σ.evs.length := ⟨_, rfl⟩
  have HC := hid hC
  have HCl := hid (show C.length = σ.evs.length by rw [hC]; exact csAll_length _ _)
  have HCr := hid (show ∀ r ∈ C, r.length = σ.evs.length by rw [hC]; exact csAll_rows _ _)
  clear hC
  go_enter Try.func8, Try.ntmps8
  go_wp2_with (first
    | (go_at_call 15; refine Ha.out.mono ?_; rintro e w1 ⟨b, rfl, k1, k2⟩; have K1 := hid k1; have E1 := hid k2; clear k1 k2)
    | (go_at_call 18; refine (events_net K1.out Hc5.out).mono ?_; rintro e w2 ⟨A3, c3, m3, rfl, _, k1, k2, k3⟩; have R3 := hid k1; have K2 := hid k2; have E2 := hid (E1.out.trans k3); clear k1 k2 k3)
    | (go_at_call 35; refine (causes_any (R3.out.less F) K2.out.has (by have := H60.out; omega)).mono ?_; rintro e w3 ⟨A4, c4, m4, rfl, k1, k2, k3⟩; rw [← HC.out] at k1; have R4 := hid k1; have K3 := hid k2; have E3 := hid (E2.out.trans k3); clear k1 k2 k3))
  obtain ⟨M, hM⟩ : ∃ M, M = m4 + (m3 + F) := ⟨_, rfl⟩
  have HM := hid (show Has w3 M by rw [hM]; exact K3.out)
  have R5 := hid (show RdS M RT.ev σ.evs (.slice A3 σ.evs.length c3) by rw [hM]; exact (R3.out.less F).more m4)
  have R6 := hid (show RdS M (RT.sl RT.bool) C (.slice A4 σ.evs.length c4) by rw [hM, MS.add_comm]; exact (Bools2.rdS R4.out).more (m3 + F))
  have R7 := hid (show RdS M RT.int cut _ by rw [hM]; exact (Hcut.out.more m3).more m4)
  have Hfin := hid (show ∀ W, Has W M → Has W F from fun W h => by rw [hM] at h; exact h.right.right)
  have Hbf := hid (show ∀ i k, i < σ.evs.length → k < σ.evs.length → bfB (σ.evs.getD k dfEv).clock (σ.evs.getD i dfEv).clock = (C.getD i []).getD k false by rw [HC.out]; exact Hlaw.out.bf)
  have Hcon := hid (show conR l.length σ.evs cut = if cut.length = l.length then (wlOk l.length σ.evs C cut, 0) else (false, 2) by rw [HC.out]; exact Hlaw.out.con cut)
  clear hM K1 K2 K3 R3 R4 HC
  obtain ⟨N, hN⟩ : ∃ N, N = σ.evs.length := ⟨_, rfl⟩
  have HN := hid hN
  rw [← hN] at R5 R6 Hbf HCl HCr H60
  rw [← hN]
  have hNI : (N : Int) ≤ 400 := by have := H60.out; omega
  clear hN
  go_loopw [10] (fun v wr => ∃ i : Nat, i ≤ N ∧ v = .int .i64 i ∧ Has wr M ∧ Ext w wr) (fun v _ => N - (intOf v).toNat)
  case atStart => exact ⟨0, Nat.zero_le _, rfl, HM.out, E3.out⟩
  case round =>
    obtain ⟨i, hi, rfl, hh, hE⟩ := hrel
    have Hi := hid hh
    have HEi := hid hE
    clear hh hE HM E3
    by_cases hlt : i < N
    · have Hlt := hid hlt
      have hltI : (i : Int) < N := by omega
      clear hlt
      go_wp2
      go_loopw [11] (fun v wr => ∃ k : Nat, k ≤ N ∧ v = .int .i64 k ∧ Has wr M ∧ Ext w wr) (fun v _ => N - (intOf v).toNat)
      case atStart => exact ⟨0, Nat.zero_le _, rfl, Hi.out, HEi.out⟩
      case round =>
        obtain ⟨k, hk, rfl, hh, hE⟩ := hrel
        have Hk := hid hh
        have HEk := hid hE
        clear hh hE Hi HEi
        by_cases hlk : k < N
        · have hkI : (k : Int) < N := by omega
          have Hlk := hid hlk
          obtain ⟨x, hx⟩ : ∃ x, σ.evs[i]? = some x := ⟨_, List.getElem?_eq_getElem (by rw [← HN.out]; exact Hlt.out)⟩
          obtain ⟨y, hy⟩ : ∃ y, σ.evs[k]? = some y := ⟨_, List.getElem?_eq_getElem (by rw [← HN.out]; exact hlk)⟩
          obtain ⟨b1, o1, A1, c1, hA1, e0, e1, e2, e3, e4, k1⟩ := R5.out.getEv hx
          obtain ⟨b2, o2, A2', c2', hA2, g0, g1, g2, g3, g4, k2⟩ := R5.out.getEv hy
          subst hA1
          simp only [Option.some.injEq, Addr.mk.injEq] at hA2
          obtain ⟨rfl, rfl, _⟩ := hA2
          obtain ⟨r, hr⟩ : ∃ r, C[i]? = some r := ⟨_, List.getElem?_eq_getElem (by rw [HCl.out]; exact Hlt.out)⟩
          obtain ⟨b3, o3, A5, c5, hA3, e5, k3, _⟩ := R6.out.getSl hr
          subst hA3
          have hrl := HCr.out r (List.mem_of_getElem? hr)
          obtain ⟨b4, o4, hA4, e6⟩ := k3.getBool (get_getD (l := r) (j := k) false (by rw [hrl]; exact hlk))
          subst hA4
          have hbf := Hbf.out i k Hlt.out hlk
          have hxg : σ.evs.getD i dfEv = x := by simp [List.getD, hx]
          have hyg : σ.evs.getD k dfEv = y := by simp [List.getD, hy]
          have hrg : C.getD i [] = r := by simp [List.getD, hr]
          rw [hxg, hyg, hrg] at hbf
          have Hbk := hid hbf
          have hyc := Hc5.out y (List.mem_of_getElem? hy)
          have Hv1 := hid (show EvV M x (.agg #[.int .i64 x.station, .int .i64 x.what, .int .i64 x.other, .int .i64 x.pieces, .slice A1 x.clock.length c1]) from ⟨_, _, rfl, k1⟩)
          have Hv2 := hid (show EvV M y (.agg #[.int .i64 y.station, .int .i64 y.what, .int .i64 y.other, .int .i64 y.pieces, .slice A2' y.clock.length c2']) from ⟨_, _, rfl, k2⟩)
          have Hyc := hid (show y.clock.length ≤ 1000 by omega)
          obtain ⟨s1, hs1⟩ : ∃ s, s = x.station := ⟨_, rfl⟩
          obtain ⟨s2, hs2⟩ : ∃ s, s = x.what := ⟨_, rfl⟩
          obtain ⟨s3, hs3⟩ : ∃ s, s = x.other := ⟨_, rfl⟩
          obtain ⟨s4, hs4⟩ : ∃ s, s = x.pieces := ⟨_, rfl⟩
          obtain ⟨z1, hz1⟩ : ∃ s, s = y.station := ⟨_, rfl⟩
          obtain ⟨z2, hz2⟩ : ∃ s, s = y.what := ⟨_, rfl⟩
          obtain ⟨z3, hz3⟩ : ∃ s, s = y.other := ⟨_, rfl⟩
          obtain ⟨z4, hz4⟩ : ∃ s, s = y.pieces := ⟨_, rfl⟩
          rw [← hs1] at e0 Hv1
          rw [← hs2] at e1 Hv1
          rw [← hs3] at e2 Hv1
          rw [← hs4] at e3 Hv1
          rw [← hz1] at g0 Hv2
          rw [← hz2] at g1 Hv2
          rw [← hz3] at g2 Hv2
          rw [← hz4] at g3 Hv2
          have hrlI : (k : Int) < r.length := by rw [hrl]; exact hkI
          obtain ⟨nx, hnx⟩ : ∃ s, s = x.clock.length := ⟨_, rfl⟩
          obtain ⟨ny, hny⟩ : ∃ s, s = y.clock.length := ⟨_, rfl⟩
          rw [← hnx] at e4 Hv1
          rw [← hny] at g4 Hv2
          obtain ⟨q, hq⟩ : ∃ q, q = r.getD k false := ⟨_, rfl⟩
          rw [← hq] at e6 Hbk
          have keep : ∀ W, Has W M → (W.cell? ⟨b1, o1 + i * 5, none⟩ = some (.int .i64 s1) ∧ W.cell? ⟨b1, o1 + i * 5 + 1, none⟩ = some (.int .i64 s2) ∧ W.cell? ⟨b1, o1 + i * 5 + 2, none⟩ = some (.int .i64 s3) ∧ W.cell? ⟨b1, o1 + i * 5 + 3, none⟩ = some (.int .i64 s4) ∧ W.cell? ⟨b1, o1 + i * 5 + 4, none⟩ = some (.slice A1 nx c1) ∧
              W.cell? ⟨b1, o1 + k * 5, none⟩ = some (.int .i64 z1) ∧ W.cell? ⟨b1, o1 + k * 5 + 1, none⟩ = some (.int .i64 z2) ∧ W.cell? ⟨b1, o1 + k * 5 + 2, none⟩ = some (.int .i64 z3) ∧ W.cell? ⟨b1, o1 + k * 5 + 3, none⟩ = some (.int .i64 z4) ∧ W.cell? ⟨b1, o1 + k * 5 + 4, none⟩ = some (.slice A2' ny c2') ∧
              W.cell? ⟨b3, o3 + i, none⟩ = some (.slice (some ⟨b4, o4, none⟩) r.length c5) ∧ W.cell? ⟨b4, o4 + k, none⟩ = some (.bool q)) := fun W h =>
            ⟨e0.c0 h, e1.c0 h, e2.c0 h, e3.c0 h, e4.c0 h, g0.c0 h, g1.c0 h, g2.c0 h, g3.c0 h, g4.c0 h, e5.c0 h, e6.c0 h⟩
          have Keep := hid keep
          have hS := keep wr.drew Hk.out
          clear e0 e1 e2 e3 e4 e5 e6 g0 g1 g2 g3 g4 k1 k2 k3 hx hy hr keep hlk hbf hxg hyg hrg hrl hyc hs1 hs2 hs3 hs4 hz1 hz2 hz3 hz4 hq hnx hny
          go_wp2
          refine wp_region_txt (fun W => W.cell? ⟨b1, o1 + i * 5, none⟩ = some (.int .i64 s1) ∧ W.cell? ⟨b1, o1 + i * 5 + 1, none⟩ = some (.int .i64 s2) ∧ W.cell? ⟨b1, o1 + i * 5 + 2, none⟩ = some (.int .i64 s3) ∧ W.cell? ⟨b1, o1 + i * 5 + 3, none⟩ = some (.int .i64 s4) ∧ W.cell? ⟨b1, o1 + i * 5 + 4, none⟩ = some (.slice A1 nx c1) ∧
              W.cell? ⟨b1, o1 + k * 5, none⟩ = some (.int .i64 z1) ∧ W.cell? ⟨b1, o1 + k * 5 + 1, none⟩ = some (.int .i64 z2) ∧ W.cell? ⟨b1, o1 + k * 5 + 2, none⟩ = some (.int .i64 z3) ∧ W.cell? ⟨b1, o1 + k * 5 + 3, none⟩ = some (.int .i64 z4) ∧ W.cell? ⟨b1, o1 + k * 5 + 4, none⟩ = some (.slice A2' ny c2') ∧
              W.cell? ⟨b3, o3 + i, none⟩ = some (.slice (some ⟨b4, o4, none⟩) r.length c5) ∧ W.cell? ⟨b4, o4 + k, none⟩ = some (.bool q)) none
            [(0, true), (1, true), (2, true), (3, true), (4, true), (5, true), (6, true), (7, true), (9, true), (10, true), (11, true), (12, true), (13, true), (14, true), (15, true), (8, false), (16, true)] (by kernel_rfl) rfl (by kernel_rfl) (by kernel_rfl) (by repeat (first | with_reducible refine PanicOk.thn ?_ | with_reducible refine PanicOk.blk ?_ | exact PanicOk.body _ _ _)) ?_
          repeat
            (refine txt_quiet ?_ hS rfl rfl (fun W hW => ?_) ?_
             rotate_left 1
             · obtain ⟨hW1, hW2, hW3, hW4, hW5, hW6, hW7, hW8, hW9, hW10, hW11, hW12⟩ := hW
               go_simp
               exact rfl
             simp only [Act.put, List.setIfInBounds_toArray, List.set_cons_zero, List.set_cons_succ])
          refine txt_op rfl rfl ?_
          refine op_call 36 _ _ (by go_simp) _ (before_any Hv2.out Hv1.out (show Has wr.drew M from Hk.out) Hyc.out) ?_
          rintro e w5 ⟨rfl, j1, j2⟩
          have J1 := hid (j1 M Hk.out)
          have J2 := hid ((HEk.out.trans (Ext.drew _)).trans j2)
          refine ⟨_, rfl, fun _ => Keep.out w5 J1.out, ?_⟩
          rw [Hbk.out]
          clear hS j1 j2
          simp only [Act.put, List.setIfInBounds_toArray, List.set_cons_zero, List.set_cons_succ]
          have hS := Keep.out w5 J1.out
          have t5 : (q != q) = false := by simp
          repeat
            (refine txt_quiet ?_ hS rfl rfl (fun W hW => ?_) ?_
             rotate_left 1
             · obtain ⟨hW1, hW2, hW3, hW4, hW5, hW6, hW7, hW8, hW9, hW10, hW11, hW12⟩ := hW
               go_simp
               exact rfl
             simp only [Act.put, List.setIfInBounds_toArray, List.set_cons_zero, List.set_cons_succ])
          refine txt_done ?_
          go_wp2
          go_roundw
          case rel => exact ⟨k + 1, Hlk.out, by go_num, J1.out, J2.out⟩
          case measure => have := Hlk.out; simp [intOf]; omega
        · have hke : k = N := by omega
          subst hke
          go_wp2
          go_roundw
          case rel => exact ⟨i + 1, Hlt.out, by go_num, Hk.out, HEk.out⟩
          case measure => have := Hlt.out; simp [intOf]; omega
    · have hie : i = N := by omega
      subst hie
      have hNs := HN.out
      subst hNs
      by_cases hcl : cut.length = l.length
      · have hcon := Hcon.out
        rw [if_pos hcl] at hcon
        have Hcc := hid (consistent_any R5.out R7.out Hi.out (n := l.length))
        rw [hcon, hcl] at Hcc
        have Hst' := hid (show ∀ i, i < σ.evs.length → ∃ k : Nat, (σ.evs.getD i dfEv).station = k ∧ k < l.length from fun i hi => Hst.out _ (by simp [List.getD, hi]))
        have Rc := hid (show RdS M RT.int cut (.slice Ac l.length cc) by rw [← hcl]; exact R7.out)
        have Hl1 := hid (show σ.evs.length ≤ 1000 by have := H60.out; omega)
        have n0 : 0 < l.length := by omega
        rw [hcl]
        clear hcon Hcon hcl
        generalize hq : wlOk l.length σ.evs C cut = q at *
        have Hq := hid hq
        clear hq
        go_wp2_with (first
          | (go_at_call 37; refine Hcc.out.mono ?_; rintro e w5 ⟨rfl, k1, k2⟩; have K5 := hid (k1 M Hi.out); have E5 := hid (HEi.out.trans k2); clear k1 k2)
          | (go_at_call 38; refine (wholeL_any R5.out R6.out Rc.out K5.out Hl1.out n0 n5 Hst'.out HCr.out).mono ?_; rintro e w6 ⟨rfl, k1, k2⟩; rw [Hq.out]; have K6 := hid (k1 M K5.out); have E6 := hid (E5.out.trans k2); clear k1 k2)
          | (go_at_call 14; refine (alive_any _).mono ?_; rintro e w7 ⟨rfl, k1, k2⟩))
        go_ret
        exact ⟨rfl, Hfin.out _ (k1 _ K6.out), E6.out.trans k2⟩
      · have hcon := Hcon.out
        rw [if_neg hcl] at hcon
        have Hcc := hid (consistent_any R5.out R7.out Hi.out (n := l.length))
        rw [hcon] at Hcc
        have hcl2 : ¬ (cut.length : Int) = l.length := by omega
        clear hcon Hcon hcl
        go_wp2_with (first
          | (go_at_call 37; refine Hcc.out.mono ?_; rintro e w5 ⟨rfl, k1, k2⟩; have K5 := hid (k1 M Hi.out); have E5 := hid (HEi.out.trans k2); clear k1 k2)
          | (go_at_call 14; refine (alive_any _).mono ?_; rintro e w7 ⟨rfl, k1, k2⟩))
        go_ret
        exact ⟨rfl, Hfin.out _ (k1 _ K5.out), E5.out.trans k2⟩

set_option maxRecDepth 100000 in
theorem clocks_all {F : MS} {l : List Int} {A : Option Addr} {n c : Nat} {w : World} {L : List ActD} {A2 : Option Addr} {n2 c2 : Nat} {cut : List Int} {A3 : Option Addr} {n3 c3 : Nat} (h : RdS F RT.int l (.slice A n c)) (hL : RdS F RT.act L (.slice A2 n2 c2)) (hcut : RdS F RT.int cut (.slice A3 n3 c3)) (hH : Has w F)
    (hlaw : newOk l → L.length ≤ 60 → ClkLaw l.length ((Net.new l).acts L).evs ∧ ((Net.new l).acts L).evs.length ≤ 400) :
    Calls Try.prog 8 #[.slice A n c, .slice A2 n2 c2, .slice A3 n3 c3] w (LawPost w F) := by
  obtain ⟨rfl, hc1, hc2, _⟩ := h.cells
  obtain ⟨rfl, hc3, hc4, _⟩ := hL.cells
  obtain ⟨rfl, hc5, hc6, _⟩ := hcut.cells
  by_cases h1 : (20 : Int) < l.length
  · have HH := hid hH
    have q1 : (l.length : Int) ≤ 9223372036854775807 := by unfold maxLen at hc2; omega
    clear h hL hH hc1 hc2 hc3 hc4 hcut hlaw
    go_enter Try.func8, Try.ntmps8
    go_wp2_with (go_at_call 14; refine (alive_any _).mono ?_; rintro e w1 ⟨rfl, k1, k2⟩)
    go_ret
    exact ⟨rfl, k1 _ HH.out, k2⟩
  · by_cases h2 : (60 : Int) < L.length
    · have HH := hid hH
      have q1 : (L.length : Int) ≤ 9223372036854775807 := by unfold maxLen at hc4; omega
      clear h hL hH hc1 hc2 hc3 hc4 hcut hlaw
      go_enter Try.func8, Try.ntmps8
      go_wp2_with (go_at_call 14; refine (alive_any _).mono ?_; rintro e w1 ⟨rfl, k1, k2⟩)
      go_ret
      exact ⟨rfl, k1 _ HH.out, k2⟩
    · by_cases hn : newOk l
      · obtain ⟨y1, y2⟩ := hlaw hn (by omega)
        exact clocks_any h hL hcut hH (by omega) (by omega) hn y1 y2
      · have HH := hid hH
        have Ha := hid (after_none (v := .slice A2 L.length c2) h hH hn)
        clear h hL hH hc1 hc2 hc3 hc4 hn hcut hlaw
        go_enter Try.func8, Try.ntmps8
        go_wp2_with (first
          | (go_at_call 15; refine Ha.out.mono ?_; rintro e w' ⟨rfl, rfl⟩)
          | (go_at_call 14; refine (alive_any _).mono ?_; rintro e w1 ⟨rfl, k1, k2⟩))
        go_ret
        exact ⟨rfl, k1 _ HH.out, k2⟩
end Go.Proofs.Ytnkgfgkgepadhaa

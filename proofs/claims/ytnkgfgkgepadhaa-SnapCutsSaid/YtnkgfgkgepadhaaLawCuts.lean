/-
  The walk of SnapCuts.
-/
import Derived.Test.YtnkgfgkgepadhaaKeeps4
import Derived.Test.YtnkgfgkgepadhaaLawEnds
import Derived.Test.YtnkgfgkgepadhaaIdealsW
import Derived.Test.YtnkgfgkgepadhaaCutW2
import Derived.Test.YtnkgfgkgepadhaaCutQ
namespace Go.Proofs.Ytnkgfgkgepadhaa
open Go.RowKit
set_option linter.unusedVariables false
set_option linter.unusedSimpArgs false
set_option maxHeartbeats 4000000
set_option maxRecDepth 100000

theorem ideals_err {F : MS} {n : Int} {l : List Ev} {A : Option Addr} {k c : Nat} {w : World} (hr : RdS F RT.ev l (.slice A k c)) (hH : Has w F) (he : recErr n l ≠ 0) :
    Calls Try.prog 44 #[.int .i64 n, .slice A k c] w fun e w' => e = .returned (.tuple #[.int .i64 0, .int .i64 (recErr n l)]) ∧ Has w' F ∧ Ext w w' := by
  have Hrec := hid (recalled_err hr hH he)
  clear hr hH
  generalize recErr n l = er at *
  go_enter Try.func44, Try.ntmps44
  go_wp2_with (go_at_call 79; refine Hrec.out.mono ?_; rintro e w1 ⟨rfl, k1, k2⟩; have K1 := hid k1; have K2 := hid k2; clear k1 k2)
  go_ret2
  exact ⟨rfl, K1.out, K2.out⟩
theorem ideals_few {F : MS} {n : Nat} {l : List Ev} {A : Option Addr} {k c : Nat} {w : World} (hr : RdS F RT.ev l (.slice A k c)) (hH : Has w F) (he : evErr n l = 0) (hc : ¬ 2000 < cutsN l n) :
    Calls Try.prog 44 #[.int .i64 n, .slice A k c] w fun e w' => e = .returned (.tuple #[.int .i64 (ridl n l).1, .int .i64 (ridl n l).2]) ∧ Has w' F ∧ Ext w w' := by
  have hv := may_of he
  obtain ⟨h, hrun, _⟩ := hist_of he
  obtain ⟨s1, s2⟩ := ideals_same he hc hrun
  refine (ideals_ok hr hH hv.n2 hv.n5 hv.len hrun).mono ?_
  rintro e w' ⟨hI, k1, k2⟩
  refine ⟨?_, k1, k2⟩
  rcases hI with ⟨S, h1, _, rfl⟩ | ⟨S, y, h1, h2, h3, _⟩
  · rw [s1 S h1]
  · exact absurd h3 (s2 S h1 h2)
theorem short_ok {l : List Ev} (h : shortB l = true) : l.length ≤ 100 ∧ ∀ e ∈ l, e.clock.length ≤ 20 := by
  unfold shortB at h
  simp only [List.all_eq_true, List.mem_range, Bool.and_eq_true, decide_eq_true_eq] at h
  refine ⟨?_, fun e he => ?_⟩
  · by_cases h1 : l.length ≤ 100
    · exact h1
    · have := (h 100 (by omega)).1; omega
  · obtain ⟨i, hi⟩ := List.getElem?_of_mem he
    have := (h i (List.getElem?_eq_some_iff.1 hi).1).2
    simp only [List.getD, hi, Option.getD_some] at this
    exact this
/-- What the walk's end finds. -/
theorem cuts_law {F : MS} {n : Int} {l : List Ev} {cut : List Int} {A A2 : Option Addr} {k c k2 c2 : Nat} {w : World} (hr : RdS F RT.ev l (.slice A k c)) (hc : RdS F RT.int cut (.slice A2 k2 c2)) (hH : Has w F) :
    Calls Try.prog 9 #[.int .i64 n, .slice A k c, .slice A2 k2 c2] w (LawPost w F) := by
  obtain ⟨rfl, hc1, hc2, _⟩ := hr.cells
  obtain ⟨rfl, hc3, hc4, _⟩ := hc.cells
  have lM : (l.length : Int) ≤ 9223372036854775807 := by unfold maxLen at hc2; omega
  have cM : (cut.length : Int) ≤ 9223372036854775807 := by unfold maxLen at hc4; omega
  have Hsh := hid (short_any hr hH)
  have Hr := hid hr
  have Hc := hid hc
  have HH := hid hH
  clear hr hc hH hc1 hc2 hc3 hc4
  cases hs : shortB l with
  | false =>
    rw [hs] at Hsh
    clear hs
    go_enter Try.func9, Try.ntmps9
    go_wp2_with (first
      | (go_at_call 39; refine Hsh.out.mono ?_; rintro e w1 ⟨rfl, k1⟩; have K1 := hid k1; clear k1)
      | (go_at_call 14; refine (alive_any _).mono ?_; rintro e w2 ⟨rfl, k1, k2⟩))
    go_ret
    exact ⟨rfl, k1 _ (K1.out.1 _ HH.out), K1.out.2.trans k2⟩
  | true =>
    obtain ⟨s1, s2⟩ := short_ok hs
    have Hcl := hid s2
    rw [hs] at Hsh
    have l100 : (l.length : Int) ≤ 100 := by omega
    clear hs s1 s2
    by_cases h20 : (20 : Int) < cut.length
    · go_enter Try.func9, Try.ntmps9
      go_wp2_with (first
        | (go_at_call 39; refine Hsh.out.mono ?_; rintro e w1 ⟨rfl, k1⟩; have K1 := hid k1; clear k1)
        | (go_at_call 14; refine (alive_any _).mono ?_; rintro e w2 ⟨rfl, k1, k2⟩))
      go_ret
      exact ⟨rfl, k1 _ (K1.out.1 _ HH.out), K1.out.2.trans k2⟩
    · obtain ⟨q, er, hq⟩ : ∃ q er, conR n l cut = (q, er) := ⟨_, _, rfl⟩
      have Hco := hid (fun (W : World) (hW : Has W F) => consistent_any (n := n) Hr.out Hc.out hW)
      have Hrc := hid (fun (W : World) (hW : Has W F) => rconsistent_any (n := n) Hr.out Hc.out hW)
      rw [← con_same, hq] at Hrc
      rw [hq] at Hco
      have t1 : (q != q) = false := by simp
      have t2 : (er != er) = false := by simp
      clear hq
      go_enter Try.func9, Try.ntmps9
      go_wp2_with (first
        | (go_at_call 39; refine Hsh.out.mono ?_; rintro e w1 ⟨rfl, k1⟩; have K1 := hid k1; clear k1)
        | (go_at_call 37; refine (Hco.out _ (K1.out.1 _ HH.out)).mono ?_; rintro e w2 ⟨rfl, k1, k2⟩; have K2 := hid (K1.out.trans ⟨k1, k2⟩); clear k1 k2)
        | (go_at_call 40; refine (Hrc.out _ (K2.out.1 _ HH.out)).mono ?_; rintro e w3 ⟨rfl, k1⟩; have K3 := hid (K2.out.trans k1); clear k1))
      go_loopw [11] (fun v wr => ∃ i : Nat, i ≤ l.length ∧ i ≤ 12 ∧ v = .int .i64 i ∧ Kp w wr) (fun v _ => 13 - (intOf v).toNat)
      case atStart => exact ⟨0, Nat.zero_le _, by omega, rfl, K3.out⟩
      case round =>
        obtain ⟨i, hi, hi2, rfl, hK⟩ := hrel
        have HK := hid hK
        clear hK K1 K2 K3
        have hi0 : (0 : Int) ≤ (i : Int) := by omega
        by_cases hil : i < l.length ∧ i < 12
        · obtain ⟨hil, hi12⟩ := hil
          have hilI : (i : Int) < l.length := by omega
          have hi12I : (i : Int) < 12 := by omega
          have Hi12 := hid hi12
          have Hil := hid hil
          clear hil hi12
          go_wp2
          go_loopw [12] (fun v wr => ∃ k : Nat, k ≤ l.length ∧ k ≤ 12 ∧ v = .int .i64 k ∧ Kp w wr) (fun v _ => 13 - (intOf v).toNat)
          case atStart => exact ⟨0, Nat.zero_le _, by omega, rfl, HK.out⟩
          case round =>
            obtain ⟨k, hk, hk2, rfl, hK⟩ := hrel
            have HKk := hid hK
            clear hK HK
            have hk0 : (0 : Int) ≤ (k : Int) := by omega
            by_cases hkl : k < l.length ∧ k < 12
            · obtain ⟨hkl, hk12⟩ := hkl
              have hklI : (k : Int) < l.length := by omega
              have hk12I : (k : Int) < 12 := by omega
              obtain ⟨x, hx⟩ : ∃ x, l[i]? = some x := ⟨_, List.getElem?_eq_getElem Hil.out⟩
              obtain ⟨y, hy⟩ : ∃ y, l[k]? = some y := ⟨_, List.getElem?_eq_getElem hkl⟩
              obtain ⟨b1, o1, A1, c1, hA1, e0, e1, e2, e3, e4, k1⟩ := Hr.out.getEv hx
              obtain ⟨b2, o2, A2', c2', hA2, g0, g1, g2, g3, g4, k2⟩ := Hr.out.getEv hy
              subst hA1
              simp only [Option.some.injEq, Addr.mk.injEq] at hA2
              obtain ⟨rfl, rfl, _⟩ := hA2
              have hxc := Hcl.out x (List.mem_of_getElem? hx)
              have Hxc := hid (show x.clock.length ≤ 1000 by omega)
              have Hv1 := hid (show EvV F x (.agg #[.int .i64 x.station, .int .i64 x.what, .int .i64 x.other, .int .i64 x.pieces, .slice A1 x.clock.length c1]) from ⟨_, _, rfl, k1⟩)
              have Hv2 := hid (show EvV F y (.agg #[.int .i64 y.station, .int .i64 y.what, .int .i64 y.other, .int .i64 y.pieces, .slice A2' y.clock.length c2']) from ⟨_, _, rfl, k2⟩)
              obtain ⟨s1, hs1⟩ : ∃ s, s = x.station := ⟨_, rfl⟩
              obtain ⟨s2, hs2⟩ : ∃ s, s = x.what := ⟨_, rfl⟩
              obtain ⟨s3, hs3⟩ : ∃ s, s = x.other := ⟨_, rfl⟩
              obtain ⟨s4, hs4⟩ : ∃ s, s = x.pieces := ⟨_, rfl⟩
              obtain ⟨z1, hz1⟩ : ∃ s, s = y.station := ⟨_, rfl⟩
              obtain ⟨z2, hz2⟩ : ∃ s, s = y.what := ⟨_, rfl⟩
              obtain ⟨z3, hz3⟩ : ∃ s, s = y.other := ⟨_, rfl⟩
              obtain ⟨z4, hz4⟩ : ∃ s, s = y.pieces := ⟨_, rfl⟩
              rw [← hs1] at e0 Hv1
              rw [← hs2] at e1 Hv1
              rw [← hs3] at e2 Hv1
              rw [← hs4] at e3 Hv1
              rw [← hz1] at g0 Hv2
              rw [← hz2] at g1 Hv2
              rw [← hz3] at g2 Hv2
              rw [← hz4] at g3 Hv2
              obtain ⟨nx, hnx⟩ : ∃ s, s = x.clock.length := ⟨_, rfl⟩
              obtain ⟨ny, hny⟩ : ∃ s, s = y.clock.length := ⟨_, rfl⟩
              rw [← hnx] at e4 Hv1
              rw [← hny] at g4 Hv2
              have keep : ∀ W, Has W F → (W.cell? ⟨b1, o1 + i * 5, none⟩ = some (.int .i64 s1) ∧ W.cell? ⟨b1, o1 + i * 5 + 1, none⟩ = some (.int .i64 s2) ∧ W.cell? ⟨b1, o1 + i * 5 + 2, none⟩ = some (.int .i64 s3) ∧ W.cell? ⟨b1, o1 + i * 5 + 3, none⟩ = some (.int .i64 s4) ∧ W.cell? ⟨b1, o1 + i * 5 + 4, none⟩ = some (.slice A1 nx c1) ∧
                  W.cell? ⟨b1, o1 + k * 5, none⟩ = some (.int .i64 z1) ∧ W.cell? ⟨b1, o1 + k * 5 + 1, none⟩ = some (.int .i64 z2) ∧ W.cell? ⟨b1, o1 + k * 5 + 2, none⟩ = some (.int .i64 z3) ∧ W.cell? ⟨b1, o1 + k * 5 + 3, none⟩ = some (.int .i64 z4) ∧ W.cell? ⟨b1, o1 + k * 5 + 4, none⟩ = some (.slice A2' ny c2')) := fun W h =>
                ⟨e0.c0 h, e1.c0 h, e2.c0 h, e3.c0 h, e4.c0 h, g0.c0 h, g1.c0 h, g2.c0 h, g3.c0 h, g4.c0 h⟩
              have Keep := hid keep
              have HFk := hid (HKk.out.1 F HH.out)
              have hS := keep wr.drew HFk.out.drew
              have Hk12 := hid hk12
              have Hkl := hid hkl
              obtain ⟨bb, hbb⟩ : ∃ bb, bb = bfB x.clock y.clock := ⟨_, rfl⟩
              have Hbb := hid hbb
              clear e0 e1 e2 e3 e4 g0 g1 g2 g3 g4 k1 k2 hx hy keep hkl hk12 hxc hs1 hs2 hs3 hs4 hz1 hz2 hz3 hz4 hnx hny hbb
              go_wp2
              refine wp_region_txt (fun W => W.cell? ⟨b1, o1 + i * 5, none⟩ = some (.int .i64 s1) ∧ W.cell? ⟨b1, o1 + i * 5 + 1, none⟩ = some (.int .i64 s2) ∧ W.cell? ⟨b1, o1 + i * 5 + 2, none⟩ = some (.int .i64 s3) ∧ W.cell? ⟨b1, o1 + i * 5 + 3, none⟩ = some (.int .i64 s4) ∧ W.cell? ⟨b1, o1 + i * 5 + 4, none⟩ = some (.slice A1 nx c1) ∧
                  W.cell? ⟨b1, o1 + k * 5, none⟩ = some (.int .i64 z1) ∧ W.cell? ⟨b1, o1 + k * 5 + 1, none⟩ = some (.int .i64 z2) ∧ W.cell? ⟨b1, o1 + k * 5 + 2, none⟩ = some (.int .i64 z3) ∧ W.cell? ⟨b1, o1 + k * 5 + 3, none⟩ = some (.int .i64 z4) ∧ W.cell? ⟨b1, o1 + k * 5 + 4, none⟩ = some (.slice A2' ny c2')) none
                [(0, true), (1, true), (2, true), (3, true), (4, true), (5, true), (6, true), (7, true), (9, true), (10, true), (11, true), (12, true), (13, true), (14, true), (15, true), (16, true), (8, false), (17, false), (18, true)] (by kernel_rfl) rfl (by kernel_rfl) (by kernel_rfl) (by repeat (first | with_reducible refine PanicOk.thn ?_ | with_reducible refine PanicOk.blk ?_ | exact PanicOk.body _ _ _)) ?_
              repeat
                (refine txt_quiet ?_ hS rfl rfl (fun W hW => ?_) ?_
                 rotate_left 1
                 · obtain ⟨hW1, hW2, hW3, hW4, hW5, hW6, hW7, hW8, hW9, hW10⟩ := hW
                   go_simp
                   exact rfl
                 simp only [Act.put, List.setIfInBounds_toArray, List.set_cons_zero, List.set_cons_succ])
              refine txt_op rfl rfl ?_
              refine op_call 36 _ _ (by go_simp) _ (before_any Hv1.out Hv2.out (show Has wr.drew F from HFk.out) Hxc.out) ?_
              rintro e w5 ⟨rfl, j1, j2⟩
              have J1 := hid (Kp.trans HKk.out.drew ⟨j1, j2⟩)
              have HF5 := hid (J1.out.1 F HH.out)
              refine ⟨_, rfl, fun _ => Keep.out w5 HF5.out, ?_⟩
              rw [← Hbb.out]
              clear hS j1 j2
              simp only [Act.put, List.setIfInBounds_toArray, List.set_cons_zero, List.set_cons_succ]
              refine txt_op rfl rfl ?_
              refine op_call 41 _ _ (by go_simp) _ (rbefore_any Hv1.out Hv2.out HF5.out Hxc.out) ?_
              rintro e w6 ⟨rfl, j1⟩
              have J2 := hid (J1.out.trans j1)
              have HF6 := hid (J2.out.1 F HH.out)
              refine ⟨_, rfl, fun _ => Keep.out w6 HF6.out, ?_⟩
              rw [← Hbb.out]
              clear j1
              simp only [Act.put, List.setIfInBounds_toArray, List.set_cons_zero, List.set_cons_succ]
              have hS := Keep.out w6 HF6.out
              have t5 : (bb != bb) = false := by simp
              repeat
                (refine txt_quiet ?_ hS rfl rfl (fun W hW => ?_) ?_
                 rotate_left 1
                 · obtain ⟨hW1, hW2, hW3, hW4, hW5, hW6, hW7, hW8, hW9, hW10⟩ := hW
                   go_simp
                   exact rfl
                 simp only [Act.put, List.setIfInBounds_toArray, List.set_cons_zero, List.set_cons_succ])
              refine txt_done ?_
              clear hS
              go_wp2
              go_roundw
              case rel => exact ⟨k + 1, Hkl.out, Hk12.out, by go_num, J2.out⟩
              case measure => have := Hk12.out; simp [intOf]; omega
            · by_cases h1 : (k : Int) < l.length
              · have h2 : ¬ (k : Int) < 12 := by omega
                clear hkl
                go_wp2
                go_roundw
                case rel => exact ⟨i + 1, Hil.out, Hi12.out, by go_num, HKk.out⟩
                case measure => have := Hi12.out; simp [intOf]; omega
              · clear hkl
                go_wp2
                go_roundw
                case rel => exact ⟨i + 1, Hil.out, Hi12.out, by go_num, HKk.out⟩
                case measure => have := Hi12.out; simp [intOf]; omega
        · have HF := hid (HK.out.1 F HH.out)
          have Hev := hid (fun (W : World) (hW : Has W F) => events_err (n := n) Hr.out hW)
          have hcond : ((i : Int) < l.length ∧ ¬ (i : Int) < 12) ∨ ¬ (i : Int) < l.length := by omega
          clear hil
          by_cases he : evErr n l = 0
          · obtain ⟨n2, n5, h60, _⟩ := evErr_ok he
            obtain ⟨m, rfl⟩ : ∃ m : Nat, n = m := ⟨n.toNat, by omega⟩
            have Hcu := hid (fun (W : World) (hW : Has W F) => cuts_any (n := m) Hr.out hW h60 (by omega))
            rw [he] at Hev
            by_cases hbig : 2000 < cutsN l m
            · obtain ⟨cn, hcn⟩ : ∃ cn, cn = cutsN l m := ⟨_, rfl⟩
              rw [← hcn] at Hcu hbig
              clear hcn he
              rcases hcond with ⟨h1, h2⟩ | h1
              all_goals
                go_wp2_with (first
                  | (go_at_call 42; refine (Hev.out _ HF.out).mono ?_; rintro e w4 ⟨rfl, k1⟩; have K4 := hid (HK.out.trans k1); clear k1)
                  | (go_at_call 43; refine (Hcu.out _ (K4.out.1 _ HH.out)).mono ?_; rintro e w5 ⟨rfl, m5, rfl⟩)
                  | (go_at_call 14; refine (alive_any _).mono ?_; rintro e w6 ⟨rfl, k1, k2⟩))
                go_ret
                exact ⟨rfl, k1 _ ((K4.out.1 _ HH.out).drewN _), (K4.out.2.trans (Ext.drewN _ _)).trans k2⟩
            · have Hid1 := hid (fun (W : World) (hW : Has W F) => ideals_few (n := m) Hr.out hW he hbig)
              have Hid2 := hid (fun (W : World) (hW : Has W F) => rideals_any (n := m) Hr.out hW he)
              obtain ⟨i1, i2, hir⟩ : ∃ i1 i2, ridl m l = (i1, i2) := ⟨_, _, rfl⟩
              rw [hir] at Hid1 Hid2
              obtain ⟨cn, hcn⟩ : ∃ cn, cn = cutsN l m := ⟨_, rfl⟩
              rw [← hcn] at Hcu hbig
              clear hcn he hir
              rcases hcond with ⟨h1, h2⟩ | h1
              all_goals
                go_wp2_with (first
                  | (go_at_call 42; refine (Hev.out _ HF.out).mono ?_; rintro e w4 ⟨rfl, k1⟩; have K4 := hid (HK.out.trans k1); clear k1)
                  | (go_at_call 43; refine (Hcu.out _ (K4.out.1 _ HH.out)).mono ?_; rintro e w5 ⟨rfl, m5, rfl⟩; have K5 := hid ((K4.out.1 _ HH.out).drewN m5); have E5 := hid (K4.out.2.trans (Ext.drewN w4 m5)))
                  | (go_at_call 44; refine (Hid1.out _ K5.out).mono ?_; rintro e w6 ⟨rfl, k1, k2⟩; have K6 := hid k1; have E6 := hid (E5.out.trans k2); clear k1 k2)
                  | (go_at_call 45; refine (Hid2.out _ K6.out).mono ?_; rintro e w7 ⟨rfl, k1⟩; have K7 := hid (k1.1 _ K6.out); have E7 := hid (E6.out.trans k1.2); clear k1)
                  | (go_at_call 14; refine (alive_any _).mono ?_; rintro e w8 ⟨rfl, k1, k2⟩))
                go_ret
                exact ⟨rfl, k1 _ K7.out, E7.out.trans k2⟩
          · have Hid1 := hid (fun (W : World) (hW : Has W F) => ideals_err (n := n) Hr.out hW (by rw [rec_ev]; exact he))
            have Hid2 := hid (fun (W : World) (hW : Has W F) => rideals_bad (n := n) Hr.out hW he)
            rw [rec_ev] at Hid1
            obtain ⟨ev, hev⟩ : ∃ ev, ev = evErr n l := ⟨_, rfl⟩
            rw [← hev] at Hid1 Hid2 Hev he
            have he2 : (ev == 0) = false := by simp [he]
            clear hev he
            rcases hcond with ⟨h1, h2⟩ | h1
            all_goals
              go_wp2_with (first
                | (go_at_call 42; refine (Hev.out _ HF.out).mono ?_; rintro e w4 ⟨rfl, k1⟩; have K4 := hid (HK.out.trans k1); clear k1)
                | (go_at_call 44; refine (Hid1.out _ (K4.out.1 _ HH.out)).mono ?_; rintro e w6 ⟨rfl, k1, k2⟩; have K6 := hid k1; have E6 := hid (K4.out.2.trans k2); clear k1 k2)
                | (go_at_call 45; refine (Hid2.out _ K6.out).mono ?_; rintro e w7 ⟨rfl, k1⟩; have K7 := hid (k1.1 _ K6.out); have E7 := hid (E6.out.trans k1.2); clear k1)
                | (go_at_call 14; refine (alive_any _).mono ?_; rintro e w8 ⟨rfl, k1, k2⟩))
              go_ret
              exact ⟨rfl, k1 _ K7.out, E7.out.trans k2⟩
theorem cuts_said {F : MS} {l : List Ev} {cut : List Int} {A A2 : Option Addr} {k c k2 c2 : Nat} {w : World} (hr : RdS F RT.ev l (.slice A k c)) (hc : RdS F RT.int cut (.slice A2 k2 c2)) (hH : Has w F) (n : Int) :
    Calls Try.prog 9 #[.int .i64 n, .slice A k c, .slice A2 k2 c2] w (LawPost w F) := cuts_law hr hc hH
end Go.Proofs.Ytnkgfgkgepadhaa

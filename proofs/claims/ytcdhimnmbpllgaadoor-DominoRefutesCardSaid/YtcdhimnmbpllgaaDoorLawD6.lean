/-
  The law DominoRefutes, walked.
-/
import Derived.Test.YtcdhimnmbpllgaaDoorDLaw2
import Derived.Test.YtcdhimnmbpllgaaDoorDAlive
namespace Go.Proofs.YtcdhimnmbpllgaaDoor
open Go.RowKit
set_option linter.unusedVariables false
set_option linter.unusedSimpArgs false
set_option maxHeartbeats 4000000
set_option maxRecDepth 100000

theorem domRefutes_any {F : MS} {p : List ByteArray} {A : Option Addr} {c : Nat} {t : List Cl} {B : Option Addr} {ct : Nat} {w : World} (hr : RdS F RT.str p (.slice A p.length c)) (hs : ∀ s ∈ p, s.size ≤ maxLen) (ht : RdS F RT.cl t (.slice B t.length ct)) (hk : FourOk F) (hH : Has w F) :
    Calls Tryd.prog 5 #[.slice A p.length c, .slice B t.length ct] w (LawPost w F) := by
  have Hfew := hid (few_any hr hs hH)
  have Hal := hid (fun (W : World) (h : Has W F) => alive_any hk h)
  have HH := hid hH
  have htm : t.length ≤ maxLen := Nat.le_trans ht.cells.2.1 ht.cells.2.2.1
  cases hf : fewB p with
  | false =>
    rw [hf] at Hfew
    clear hf hr hs hk hH ht htm
    go_enter Tryd.func5, Tryd.ntmps5
    go_wp2_with (first
      | (go_at_call 11; refine Hfew.out.mono ?_; rintro e1 w1 ⟨rfl, hw1⟩; rw [hw1]; clear hw1)
      | (go_at_call 12; refine (Hal.out w HH.out).mono ?_; rintro e2 w2 ⟨rfl, k2⟩; have K2 := hid k2; clear k2))
    go_ret
    exact ⟨rfl, K2.out.1 _ HH.out, K2.out.2⟩
  | true =>
    rw [hf] at Hfew
    unfold fewB at hf
    rw [decide_eq_true_eq] at hf
    obtain ⟨hl20, hs20⟩ := hf
    by_cases h100 : 100 < t.length
    · have h100I : (100 : Int) < t.length := by omega
      have htI : (t.length : Int) ≤ 9223372036854775807 := by simp only [maxLen] at htm; omega
      clear hr hs hk hH ht htm hl20 hs20 h100
      go_enter Tryd.func5, Tryd.ntmps5
      go_wp2_with (first
        | (go_at_call 11; refine Hfew.out.mono ?_; rintro e1 w1 ⟨rfl, hw1⟩; rw [hw1]; clear hw1)
        | (go_at_call 12; refine (Hal.out w HH.out).mono ?_; rintro e2 w2 ⟨rfl, k2⟩; have K2 := hid k2; clear k2))
      go_ret
      exact ⟨rfl, K2.out.1 _ HH.out, K2.out.2⟩
    have h100I : ¬ (100 : Int) < t.length := by omega
    have hpl : p.length ≤ 1000 := by omega
    have hps : ∀ s ∈ p, s.size ≤ 1000000 := fun s h => by have := hs20 s h; omega
    have htl : t.length ≤ 200 := by omega
    obtain ⟨BB, hBB⟩ : ∃ BB, BB = (isReg p && refB p t) := ⟨_, rfl⟩
    have Hrf := hid (fun (W : World) (h : Has W F) => rf_all hr hpl hps ht htl hk h)
    have Hrr := hid (fun (W : World) (h : Has W F) => refrf_any hr hpl hps ht htl h)
    have Hrc := hid (fun (W : World) (h : Has W F) => refc_any hr hpl hps h)
    have Hrt := hid (fun (W : World) (h : Has W F) => refute_all hr hpl hps hk h)
    have Hr := hid hr
    cases hq : isReg p with
    | false =>
      have e1 : cntV p = 0 := by unfold cntV; rw [hq]; rfl
      have e2 : cntE p = 2 := by unfold cntE; rw [hq]; rfl
      rw [e1, e2] at Hrc
      rw [← hBB, e2] at Hrf Hrr
      have Hu := hid (fun (W : World) (h : Has W F) => show Calls Tryd.prog 19 #[.slice A p.length c] W fun e w' => ∃ (A' : Option Addr) (c' : Nat) (m : MS), e = .returned (.tuple #[.slice A' 0 c', .int .i64 2]) ∧ (∀ M, Has W M → Has w' (m + M)) ∧ Ext W w' from (Hrt.out W h).mono (by
        rintro e w' ⟨l, A', c', m, er, rfl, _, _, k1, k2, k3, _, _⟩
        obtain ⟨rfl, rfl⟩ := k3 hq
        exact ⟨A', c', m, rfl, k1, k2⟩))
      clear hr hs hk hH ht htm hl20 hs20 h100 hpl hps htl hBB e1 e2 hq Hrt Hr
      go_enter Tryd.func5, Tryd.ntmps5
      go_wp2_with (first
        | (go_at_call 12; refine (Hal.out w5 (H5.out.right)).mono ?_; rintro e6 w6 ⟨rfl, k6⟩; have K6 := hid k6; clear k6)
        | (go_at_call 19; refine (Hu.out w4 (K4.out.1 _ HH.out)).mono ?_; rintro e5 w5 ⟨A5, c5, m5, rfl, k5, l5⟩; have H5 := hid (k5 _ (K4.out.1 _ HH.out)); have E5 := hid (K4.out.2.trans l5); clear k5 l5)
        | (go_at_call 14; refine (Hrc.out w3 (K3.out.1 _ HH.out)).mono ?_; rintro e4 w4 ⟨rfl, k4⟩; have K4 := hid (K3.out.trans k4); clear k4)
        | (go_at_call 18; refine (Hrr.out w2 (K2.out.1 _ HH.out)).mono ?_; rintro e3 w3 ⟨rfl, k3⟩; have K3 := hid (K2.out.trans k3); clear k3)
        | (go_at_call 17; refine (Hrf.out w HH.out).mono ?_; rintro e2 w2 ⟨rfl, k2⟩; have K2 := hid k2; clear k2)
        | (go_at_call 11; refine Hfew.out.mono ?_; rintro e1 w1 ⟨rfl, hw1⟩; rw [hw1]; clear hw1))
      go_ret
      exact ⟨rfl, K6.out.1 _ H5.out.right, E5.out.trans K6.out.2⟩
    | true =>
      have e2 : cntE p = 0 := by unfold cntE; rw [hq]; rfl
      rw [e2] at Hrc
      rw [← hBB, e2] at Hrf Hrr
      by_cases hc : 0 < cntV p
      · obtain ⟨N, hN⟩ : ∃ N, N = cntV p := ⟨_, rfl⟩
        have Hu := hid (fun (W : World) (h : Has W F) => show Calls Tryd.prog 19 #[.slice A p.length c] W fun e w' => ∃ (A' : Option Addr) (c' : Nat) (m : MS), e = .returned (.tuple #[.slice A' 0 c', .int .i64 10]) ∧ (∀ M, Has W M → Has w' (m + M)) ∧ Ext W w' from (Hrt.out W h).mono (by
          rintro e w' ⟨l, A', c', m, er, rfl, _, _, k1, k2, _, k3, _⟩
          obtain ⟨rfl, rfl⟩ := k3 hq hc
          exact ⟨A', c', m, rfl, k1, k2⟩))
        rw [← hN] at Hrc hc
        have hNI : (0 : Int) < N := by omega
        clear hr hs hk hH ht htm hl20 hs20 h100 hpl hps htl hBB e2 hq Hrt Hr hN hc
        go_enter Tryd.func5, Tryd.ntmps5
        go_wp2_with (first
          | (go_at_call 12; refine (Hal.out w5 (H5.out.right)).mono ?_; rintro e6 w6 ⟨rfl, k6⟩; have K6 := hid k6; clear k6)
          | (go_at_call 19; refine (Hu.out w4 (K4.out.1 _ HH.out)).mono ?_; rintro e5 w5 ⟨A5, c5, m5, rfl, k5, l5⟩; have H5 := hid (k5 _ (K4.out.1 _ HH.out)); have E5 := hid (K4.out.2.trans l5); clear k5 l5)
          | (go_at_call 14; refine (Hrc.out w3 (K3.out.1 _ HH.out)).mono ?_; rintro e4 w4 ⟨rfl, k4⟩; have K4 := hid (K3.out.trans k4); clear k4)
          | (go_at_call 18; refine (Hrr.out w2 (K2.out.1 _ HH.out)).mono ?_; rintro e3 w3 ⟨rfl, k3⟩; have K3 := hid (K2.out.trans k3); clear k3)
          | (go_at_call 17; refine (Hrf.out w HH.out).mono ?_; rintro e2 w2 ⟨rfl, k2⟩; have K2 := hid k2; clear k2)
          | (go_at_call 11; refine Hfew.out.mono ?_; rintro e1 w1 ⟨rfl, hw1⟩; rw [hw1]; clear hw1))
        go_ret
        exact ⟨rfl, K6.out.1 _ H5.out.right, E5.out.trans K6.out.2⟩
      · have hc0 : cntV p = 0 := by omega
        have Hu := hid (fun (W : World) (h : Has W F) => show Calls Tryd.prog 19 #[.slice A p.length c] W fun e w' => ∃ (A' : Option Addr) (n c' : Nat) (m : MS), e = .returned (.tuple #[.slice A' n c', .int .i64 0]) ∧ (∀ M, Has W M → Has w' (m + M)) ∧ Ext W w' ∧ ∀ (W2 : World), Has W2 (m + F) → Calls Tryd.prog 18 #[.slice A p.length c, .slice A' n c'] W2 fun e w' => e = .returned (.tuple #[.bool true, .int .i64 0]) ∧ Kp W2 w' from (Hrt.out W h).mono (by
          rintro e w' ⟨l, A', c', m, er, rfl, hC, h64, k1, k2, _, _, k3⟩
          obtain ⟨rfl, hre⟩ := k3 hq hc0
          refine ⟨A', l.length, c', m, rfl, k1, k2, fun W2 h2 => ?_⟩
          have h3 := refrf_any (Hr.out.more m) hpl hps (hC.rd.less F) (by omega) h2
          rw [hq, hre, e2] at h3
          exact h3))
        rw [hc0] at Hrc
        clear hr hs hk hH ht htm hl20 hs20 h100 hpl hps htl hBB e2 hq Hrt Hr hc hc0
        go_enter Tryd.func5, Tryd.ntmps5
        go_wp2_with (first
          | (go_at_call 12; refine (Hal.out w6 (K6.out.1 _ H5.out).right).mono ?_; rintro e7 w7 ⟨rfl, k7⟩; have K7 := hid k7; clear k7)
          | (go_at_call 18; refine (h5.out w5 H5.out).mono ?_; rintro e6 w6 ⟨rfl, k6⟩; have K6 := hid k6; clear k6)
          | (go_at_call 19; refine (Hu.out w4 (K4.out.1 _ HH.out)).mono ?_; rintro e5 w5 ⟨A5, n5, c5, m5, rfl, k5, l5, h5⟩; have H5 := hid (k5 _ (K4.out.1 _ HH.out)); have E5 := hid (K4.out.2.trans l5); have h5 := hid h5; clear k5 l5)
          | (go_at_call 14; refine (Hrc.out w3 (K3.out.1 _ HH.out)).mono ?_; rintro e4 w4 ⟨rfl, k4⟩; have K4 := hid (K3.out.trans k4); clear k4)
          | (go_at_call 18; refine (Hrr.out w2 (K2.out.1 _ HH.out)).mono ?_; rintro e3 w3 ⟨rfl, k3⟩; have K3 := hid (K2.out.trans k3); clear k3)
          | (go_at_call 17; refine (Hrf.out w HH.out).mono ?_; rintro e2 w2 ⟨rfl, k2⟩; have K2 := hid k2; clear k2)
          | (go_at_call 11; refine Hfew.out.mono ?_; rintro e1 w1 ⟨rfl, hw1⟩; rw [hw1]; clear hw1))
        go_ret
        exact ⟨rfl, K7.out.1 _ (K6.out.1 _ H5.out).right, (E5.out.trans K6.out.2).trans K7.out.2⟩
end Go.Proofs.YtcdhimnmbpllgaaDoor

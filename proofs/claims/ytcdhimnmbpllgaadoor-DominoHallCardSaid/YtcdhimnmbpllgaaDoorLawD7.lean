/-
  Plain: the first tiling is accepted. The law DominoHall, walked.
-/
import Derived.Test.YtcdhimnmbpllgaaDoorTPlain2
import Derived.Test.YtcdhimnmbpllgaaDoorDLaw2
import Derived.Test.YtcdhimnmbpllgaaDoorDLaw1
namespace Go.Proofs.YtcdhimnmbpllgaaDoor
set_option linter.unusedVariables false
set_option linter.unusedSimpArgs false
set_option maxHeartbeats 1000000
section
variable {W H : Nat}
theorem ord_at {prev : Option Dom} {at' : Nat} {d : Bool} (hp : ∀ e, prev = some e → ∃ j, j < at' ∧ e.1 = ((j % W : Nat) : Int) ∧ e.2.1 = ((j / W : Nat) : Int)) : ordB prev (((at' % W : Nat) : Int), ((at' / W : Nat) : Int), d) = true := by
  cases prev with
  | none => rfl
  | some e =>
    obtain ⟨j, hj, h1, h2⟩ := hp e rfl
    show (!(decide (((at' / W : Nat) : Int) < e.2.1) || (decide (((at' / W : Nat) : Int) = e.2.1) && decide (((at' % W : Nat) : Int) ≤ e.1)))) = true
    rw [h1, h2]
    have h3 : j / W ≤ at' / W := Nat.div_le_div_right (by omega)
    have h4 := Nat.div_add_mod j W
    have h5 := Nat.div_add_mod at' W
    simp only [Bool.not_eq_true', Bool.or_eq_false_iff, decide_eq_false_iff_not, Bool.and_eq_false_iff]
    refine ⟨by omega, ?_⟩
    by_cases e : at' / W = j / W
    · right
      rw [e] at h5
      omega
    · left; omega
theorem path_isT (hW : 1 ≤ W) : ∀ (k at' : Nat) (f : Nat → Nat → Bool) (prev : Option Dom), at' + k = W * H → (∀ x y, f x y = true → x < W ∧ y < H) → (∀ i, i < at' → f (i % W) (i / W) = false) → (∀ e, prev = some e → ∃ j, j < at' ∧ e.1 = ((j % W : Nat) : Int) ∧ e.2.1 = ((j / W : Nat) : Int)) → 0 < cntF W f (W * H) 0 0 → isT W H f prev (pathF W f k at' 0 0) = true
  | 0, at', f, prev, hk, hf, hb, hp, hc => by
    unfold pathF isT
    refine decide_eq_true fun x y hx hy => ?_
    have h5 := Nat.mul_le_mul_right W (show y + 1 ≤ H from hy)
    rw [Nat.succ_mul, Nat.mul_comm H W] at h5
    have := hb (y * W + x) (by omega)
    rw [Nat.mul_comm, Nat.mul_add_mod, Nat.mod_eq_of_lt hx, Nat.mul_add_div (by omega), Nat.div_eq_of_lt hx, Nat.add_zero] at this
    exact this
  | k + 1, at', f, prev, hk, hf, hb, hp, hc => by
    by_cases hfree : f (at' % W) (at' / W) = true
    · have hin := hf _ _ hfree
      rw [path_first (k := k) hW hf hk hb hfree]
      rw [cnt_first (k := k) hW hf hk hb hfree] at hc
      have key : ∀ d : Bool, fitsB f W H (at' % W) (at' / W) d = true → 0 < cntF W (takF f (at' % W) (at' / W) d) (W * H) 0 0 → isT W H f prev ((((at' % W : Nat) : Int), ((at' / W : Nat) : Int), d) :: pathF W (takF f (at' % W) (at' / W) d) k (at' + 1) 0 0) = true := fun d h1 h2 => by
        unfold isT okD takD
        simp only [Int.toNat_natCast]
        rw [h1, ord_at hp, path_isT hW k (at' + 1) (takF f (at' % W) (at' / W) d) _ (by omega) (fun x y h => hf x y (takF_in h)) (tak_before d hb) (fun e he => by injection he with he; rw [← he]; exact ⟨at', by omega, rfl, rfl⟩) h2]
        rw [decide_eq_true (show _ ∧ _ ∧ _ ∧ _ from ⟨Int.natCast_nonneg _, Int.ofNat_lt.2 hin.1, Int.natCast_nonneg _, Int.ofNat_lt.2 hin.2⟩)]
        rfl
      by_cases h1 : fitsB f W H (at' % W) (at' / W) false = true ∧ 0 < cntF W (takF f (at' % W) (at' / W) false) (W * H) 0 0
      · rw [if_pos h1]
        exact key false h1.1 h1.2
      · rw [if_neg h1]
        have e1 : (if fitsB f W H (at' % W) (at' / W) false = true then cntF W (takF f (at' % W) (at' / W) false) (W * H) 0 0 else 0) = 0 := by
          split
          · rename_i h2
            rcases Nat.eq_zero_or_pos (cntF W (takF f (at' % W) (at' / W) false) (W * H) 0 0) with h3 | h3
            · exact h3
            · exact absurd ⟨h2, h3⟩ h1
          · rfl
        rw [e1, Nat.zero_add] at hc
        split at hc
        · rename_i h2; exact key true h2 hc
        · omega
    · have hff : f (at' % W) (at' / W) = false := by simpa using hfree
      rw [path_skip hff]
      refine path_isT hW k (at' + 1) f prev (by omega) hf (fun i hi => ?_) (fun e he => ?_) hc
      · by_cases e : i = at'
        · subst e; exact hff
        · exact hb i (by omega)
      · obtain ⟨j, hj, h⟩ := hp e he
        exact ⟨j, by omega, h⟩
end
end Go.Proofs.YtcdhimnmbpllgaaDoor

namespace Go.Proofs.YtcdhimnmbpllgaaDoor
open Go.RowKit
set_option linter.unusedVariables false
set_option linter.unusedSimpArgs false
set_option maxHeartbeats 4000000
set_option maxRecDepth 100000

theorem domHall_any {F : MS} {p : List ByteArray} {A : Option Addr} {c : Nat} {t : List Cl} {B : Option Addr} {ct : Nat} {w : World} (hr : RdS F RT.str p (.slice A p.length c)) (hs : ∀ s ∈ p, s.size ≤ maxLen) (ht : RdS F RT.cl t (.slice B t.length ct)) (hk : FourOk F) (hH : Has w F) :
    Calls Tryd.prog 9 #[.slice A p.length c, .slice B t.length ct] w (LawPost w F) := by
  have Hfew := hid (few_any hr hs hH)
  have Hal := hid (fun (W : World) (h : Has W F) => alive_any hk h)
  have HH := hid hH
  have htm : t.length ≤ maxLen := Nat.le_trans ht.cells.2.1 ht.cells.2.2.1
  cases hf : fewB p with
  | false =>
    rw [hf] at Hfew
    clear hf hr hs hk hH ht htm
    go_enter Tryd.func9, Tryd.ntmps9
    go_wp2_with (first
      | (go_at_call 11; refine Hfew.out.mono ?_; rintro e1 w1 ⟨rfl, hw1⟩; rw [hw1]; clear hw1)
      | (go_at_call 12; refine (Hal.out w HH.out).mono ?_; rintro e2 w2 ⟨rfl, k2⟩; have K2 := hid k2; clear k2))
    go_ret
    exact ⟨rfl, K2.out.1 _ HH.out, K2.out.2⟩
  | true =>
    rw [hf] at Hfew
    unfold fewB at hf
    rw [decide_eq_true_eq] at hf
    obtain ⟨hl20, hs20⟩ := hf
    by_cases h100 : 100 < t.length
    · have h100I : (100 : Int) < t.length := by omega
      have htI : (t.length : Int) ≤ 9223372036854775807 := by simp only [maxLen] at htm; omega
      clear hr hs hk hH ht htm hl20 hs20 h100
      go_enter Tryd.func9, Tryd.ntmps9
      go_wp2_with (first
        | (go_at_call 11; refine Hfew.out.mono ?_; rintro e1 w1 ⟨rfl, hw1⟩; rw [hw1]; clear hw1)
        | (go_at_call 12; refine (Hal.out w HH.out).mono ?_; rintro e2 w2 ⟨rfl, k2⟩; have K2 := hid k2; clear k2))
      go_ret
      exact ⟨rfl, K2.out.1 _ HH.out, K2.out.2⟩
    have h100I : ¬ (100 : Int) < t.length := by omega
    have hpl : p.length ≤ 1000 := by omega
    have hps : ∀ s ∈ p, s.size ≤ 1000000 := fun s h => by have := hs20 s h; omega
    have htl : t.length ≤ 200 := by omega
    have Hrf := hid (fun (W : World) (h : Has W F) => rf_all hr hpl hps ht htl hk h)
    have Hrt := hid (fun (W : World) (h : Has W F) => refute_all hr hpl hps hk h)
    have Htl := hid (fun (W : World) (h : Has W F) => tile_all hr hpl hps h)
    have Hr := hid hr
    cases hq : isReg p with
    | false =>
      have Hu := hid (fun (W : World) (h : Has W F) => show Calls Tryd.prog 19 #[.slice A p.length c] W fun e w' => ∃ (A' : Option Addr) (c' : Nat) (m : MS), e = .returned (.tuple #[.slice A' 0 c', .int .i64 2]) ∧ (∀ M, Has W M → Has w' (m + M)) ∧ Ext W w' from (Hrt.out W h).mono (by
        rintro e w' ⟨l, A', c', m, er, rfl, _, _, k1, k2, k3, _, _⟩
        obtain ⟨rfl, rfl⟩ := k3 hq
        exact ⟨A', c', m, rfl, k1, k2⟩))
      have Ht := hid (fun (W : World) (h : Has W F) => show Calls Tryd.prog 22 #[.slice A p.length c] W fun e w' => ∃ (A' : Option Addr) (c' : Nat) (m : MS), e = .returned (.tuple #[.slice A' 0 c', .int .i64 2]) ∧ (∀ M, Has W M → Has w' (m + M)) ∧ Ext W w' from (Htl.out W h).mono (by
        rintro e w' ⟨A', c', m, rfl, _, k1, k2⟩
        have h1 : tileL p = [] := by unfold tileL; rw [if_neg (by simp [hq])]
        have h2 : tileE p = 2 := by unfold tileE; rw [if_neg (by simp [hq])]
        rw [h1, h2]
        exact ⟨A', c', m, rfl, k1, k2⟩))
      clear hr hs hk hH ht htm hl20 hs20 h100 hpl hps htl hq Hrt Hr Htl Hrf
      go_enter Tryd.func9, Tryd.ntmps9
      go_wp2_with (first
        | (go_at_call 12; refine (Hal.out w2 (H2.out.right)).mono ?_; rintro e6 w6 ⟨rfl, k6⟩; have K6 := hid k6; clear k6)
        | (go_at_call 19; refine (Hu.out w1 H1.out.right).mono ?_; rintro e2 w2 ⟨A2, c2, m2, rfl, k2, l2⟩; have H2 := hid (k2 _ H1.out.right); have E2 := hid (E1.out.trans l2); clear k2 l2)
        | (go_at_call 22; refine (Ht.out w HH.out).mono ?_; rintro e1 w1 ⟨A1, c1, m1, rfl, k1, l1⟩; have H1 := hid (k1 _ HH.out); have E1 := hid l1; clear k1 l1)
        | (go_at_call 11; refine Hfew.out.mono ?_; rintro e1 w1 ⟨rfl, hw1⟩; rw [hw1]; clear hw1))
      go_ret
      exact ⟨rfl, K6.out.1 _ H2.out.right, E2.out.trans K6.out.2⟩
    | true =>
      have hp := (isReg.ok hq).1
      have hcv : cntV p = cntF (wd p) (hsR p) (wd p * p.length) 0 0 := by unfold cntV waysV; rw [hq, if_pos rfl, Nat.sub_zero]
      have e2 : cntE p = 0 := by unfold cntE; rw [hq]; rfl
      by_cases hc : 0 < cntV p
      · have Hu := hid (fun (W : World) (h : Has W F) => show Calls Tryd.prog 19 #[.slice A p.length c] W fun e w' => ∃ (A' : Option Addr) (c' : Nat) (m : MS), e = .returned (.tuple #[.slice A' 0 c', .int .i64 10]) ∧ (∀ M, Has W M → Has w' (m + M)) ∧ Ext W w' from (Hrt.out W h).mono (by
          rintro e w' ⟨l, A', c', m, er, rfl, _, _, k1, k2, _, k3, _⟩
          obtain ⟨rfl, rfl⟩ := k3 hq hc
          exact ⟨A', c', m, rfl, k1, k2⟩))
        have hno : refB p t = false := by
          cases h : refB p t with
          | false => rfl
          | true => have := ref_zero hp h; rw [← hcv] at this; omega
        have Hrf2 := hid (fun (W : World) (h : Has W F) => show Calls Tryd.prog 17 #[.slice A p.length c, .slice B t.length ct] W fun e w' => e = .returned (.tuple #[.bool false, .int .i64 0]) ∧ Kp W w' from by
          have h1 := Hrf.out W h
          rw [hno, e2, Bool.and_false] at h1
          exact h1)
        have hT : isT (wd p) p.length (hsR p) none (tileL p) = true := by
          unfold tileL
          rw [if_pos ⟨hq, hc⟩]
          rw [hcv] at hc
          exact path_isT hp.w1 (wd p * p.length) 0 (hsR p) none (Nat.zero_add _) (fun x y h => hsR_in x y h) (fun i hi => by omega) (fun e he => by cases he) hc
        have hTl := tileL_len p
        have Ht := hid (fun (W : World) (h : Has W F) => show Calls Tryd.prog 22 #[.slice A p.length c] W fun e w' => ∃ (A' : Option Addr) (n c' : Nat) (m : MS), e = .returned (.tuple #[.slice A' n c', .int .i64 0]) ∧ (∀ M, Has W M → Has w' (m + M)) ∧ Ext W w' ∧ ∀ (W2 : World), Has W2 (m + F) → Calls Tryd.prog 24 #[.slice A p.length c, .slice A' n c'] W2 fun e w' => e = .returned (.tuple #[.bool true, .int .i64 0]) ∧ Kp W2 w' from (Htl.out W h).mono (by
          rintro e w' ⟨A', c', m, rfl, hD, k1, k2⟩
          have h2 : tileE p = 0 := by unfold tileE; rw [if_pos hq, if_pos hc]
          rw [h2]
          refine ⟨A', (tileL p).length, c', m, rfl, k1, k2, fun W2 h3 => ?_⟩
          have h4 := is_any (Hr.out.more m) hpl hps h3 (hD.rd.less F) (by omega)
          rw [hq, hT, e2] at h4
          exact h4))
        clear hr hs hk hH ht htm hl20 hs20 h100 hpl hps htl e2 hq Hrt Hr hc hp hcv hno hT hTl Htl Hrf
        go_enter Tryd.func9, Tryd.ntmps9
        go_wp2_with (first
          | (go_at_call 12; refine (Hal.out w4 (K4.out.1 _ H3.out).right).mono ?_; rintro e6 w6 ⟨rfl, k6⟩; have K6 := hid k6; clear k6)
          | (go_at_call 24; refine (h1.out w3 H3.out).mono ?_; rintro e4 w4 ⟨rfl, k4⟩; have K4 := hid k4; clear k4)
          | (go_at_call 17; refine (Hrf2.out w2 H2.out.right.right).mono ?_; rintro e3 w3 ⟨rfl, k3⟩; have K3 := hid k3; have H3 := hid (k3.1 _ H2.out.right); clear k3)
          | (go_at_call 19; refine (Hu.out w1 H1.out.right).mono ?_; rintro e2 w2 ⟨A2, c2, m2, rfl, k2, l2⟩; have H2 := hid (k2 _ H1.out); have E2 := hid (E1.out.trans l2); clear k2 l2)
          | (go_at_call 22; refine (Ht.out w HH.out).mono ?_; rintro e1 w1 ⟨A1, n1, c1, m1, rfl, k1, l1, h1⟩; have H1 := hid (k1 _ HH.out); have E1 := hid l1; have h1 := hid h1; clear k1 l1)
          | (go_at_call 11; refine Hfew.out.mono ?_; rintro e1 w1 ⟨rfl, hw1⟩; rw [hw1]; clear hw1))
        go_ret
        exact ⟨rfl, K6.out.1 _ (K4.out.1 _ H3.out).right, ((E2.out.trans K3.out.2).trans K4.out.2).trans K6.out.2⟩
      · have hc0 : cntV p = 0 := by omega
        obtain ⟨BB, hBB⟩ : ∃ BB, BB = refB p t := ⟨_, rfl⟩
        have Hrf2 := hid (fun (W : World) (h : Has W F) => show Calls Tryd.prog 17 #[.slice A p.length c, .slice B t.length ct] W fun e w' => e = .returned (.tuple #[.bool BB, .int .i64 0]) ∧ Kp W w' from by
          have h1 := Hrf.out W h
          rw [hq, ← hBB, e2, Bool.true_and] at h1
          exact h1)
        have Hu := hid (fun (W : World) (h : Has W F) => show Calls Tryd.prog 19 #[.slice A p.length c] W fun e w' => ∃ (A' : Option Addr) (n c' : Nat) (m : MS), e = .returned (.tuple #[.slice A' n c', .int .i64 0]) ∧ (∀ M, Has W M → Has w' (m + M)) ∧ Ext W w' ∧ ∀ (W2 : World), Has W2 (m + F) → Calls Tryd.prog 17 #[.slice A p.length c, .slice A' n c'] W2 fun e w' => e = .returned (.tuple #[.bool true, .int .i64 0]) ∧ Kp W2 w' from (Hrt.out W h).mono (by
          rintro e w' ⟨l, A', c', m, er, rfl, hC, h64, k1, k2, _, _, k3⟩
          obtain ⟨rfl, hre⟩ := k3 hq hc0
          refine ⟨A', l.length, c', m, rfl, k1, k2, fun W2 h2 => ?_⟩
          have h3 := rf_all (Hr.out.more m) hpl hps (hC.rd.less F) (by omega) (hk.more m) h2
          rw [hq, hre, e2] at h3
          exact h3))
        have Ht := hid (fun (W : World) (h : Has W F) => show Calls Tryd.prog 22 #[.slice A p.length c] W fun e w' => ∃ (A' : Option Addr) (c' : Nat) (m : MS), e = .returned (.tuple #[.slice A' 0 c', .int .i64 10]) ∧ (∀ M, Has W M → Has w' (m + M)) ∧ Ext W w' from (Htl.out W h).mono (by
          rintro e w' ⟨A', c', m, rfl, _, k1, k2⟩
          have h1 : tileL p = [] := by unfold tileL; rw [if_neg (fun h => hc h.2)]
          have h2 : tileE p = 10 := by unfold tileE; rw [if_pos hq, if_neg hc]
          rw [h1, h2]
          exact ⟨A', c', m, rfl, k1, k2⟩))
        clear hr hs hk hH ht htm hl20 hs20 h100 hpl hps htl hBB e2 hq Hrt Hr hc hc0 hp hcv Htl Hrf
        cases BB
        all_goals
          go_enter Tryd.func9, Tryd.ntmps9
          go_wp2_with (first
            | (go_at_call 12; refine (Hal.out w4 (K4.out.1 _ H3.out).right).mono ?_; rintro e6 w6 ⟨rfl, k6⟩; have K6 := hid k6; clear k6)
            | (go_at_call 17; refine (h2.out w3 H3.out).mono ?_; rintro e4 w4 ⟨rfl, k4⟩; have K4 := hid k4; clear k4)
            | (go_at_call 17; refine (Hrf2.out w2 H2.out.right).mono ?_; rintro e3 w3 ⟨rfl, k3⟩; have K3 := hid k3; have H3 := hid (k3.1 _ H2.out); clear k3)
            | (go_at_call 19; refine (Hu.out w1 H1.out.right).mono ?_; rintro e2 w2 ⟨A2, n2, c2, m2, rfl, k2, l2, h2⟩; have H2 := hid (k2 _ H1.out.right); have E2 := hid (E1.out.trans l2); have h2 := hid h2; clear k2 l2)
            | (go_at_call 22; refine (Ht.out w HH.out).mono ?_; rintro e1 w1 ⟨A1, c1, m1, rfl, k1, l1⟩; have H1 := hid (k1 _ HH.out); have E1 := hid l1; clear k1 l1)
            | (go_at_call 11; refine Hfew.out.mono ?_; rintro e1 w1 ⟨rfl, hw1⟩; rw [hw1]; clear hw1))
          go_ret
          exact ⟨rfl, K6.out.1 _ (K4.out.1 _ H3.out).right, ((E2.out.trans K3.out.2).trans K4.out.2).trans K6.out.2⟩
end Go.Proofs.YtcdhimnmbpllgaaDoor

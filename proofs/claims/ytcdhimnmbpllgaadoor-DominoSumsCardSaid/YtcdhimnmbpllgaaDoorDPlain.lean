/-
  Plain: the tilings by dominoes, counted cell by cell.
-/
import Derived.Test.YtcdhimnmbpllgaaDoorRows1
namespace Go.Proofs.YtcdhimnmbpllgaaDoor
set_option linter.unusedVariables false
set_option linter.unusedSimpArgs false

/-- Where no domino begins: the next state. -/
def freeD (W : Nat) (hs : Nat → Nat → Bool) (at' cov : Nat) : Bool := hs (at' % W) (at' / W) && cov % 2 == 0
def rightD (W : Nat) (hs : Nat → Nat → Bool) (at' cov : Nat) : Bool := freeD W hs at' cov && (decide (at' % W + 1 ≠ W) && (hs (at' % W + 1) (at' / W) && cov / 2 % 2 == 0))
def downD (W : Nat) (hs : Nat → Nat → Bool) (at' cov : Nat) : Bool := freeD W hs at' cov && hs (at' % W) (at' / W + 1)
/-- How many ways there are to go on, with k cells to come. -/
def cntF (W : Nat) (hs : Nat → Nat → Bool) : Nat → Nat → Nat → Nat
  | 0, _, _ => 1
  | k + 1, at', cov =>
    (if rightD W hs at' cov then cntF W hs k (at' + 1) (cov / 2 ||| 1) else 0)
    + (if downD W hs at' cov then cntF W hs k (at' + 1) (cov / 2 ||| 2 ^ (W - 1)) else 0)
    + (if freeD W hs at' cov then 0 else cntF W hs k (at' + 1) (cov / 2))
/-- The cells that are not covered. -/
def uncF (W : Nat) (hs : Nat → Nat → Bool) (k at' cov : Nat) : Nat := (List.range k).countP fun i => hs ((at' + i) % W) ((at' + i) / W) && !cov.testBit i
theorem uncF_succ (W : Nat) (hs : Nat → Nat → Bool) (k at' cov : Nat) : uncF W hs (k + 1) at' cov = (if freeD W hs at' cov then 1 else 0) + uncF W hs k (at' + 1) (cov / 2) := by
  unfold uncF freeD
  rw [List.range_succ_eq_map, List.countP_cons, List.countP_map]
  have h0 : (hs ((at' + 0) % W) ((at' + 0) / W) && !cov.testBit 0) = (hs (at' % W) (at' / W) && cov % 2 == 0) := by
    rw [Nat.add_zero, Nat.testBit_zero]
    have : cov % 2 = 0 ∨ cov % 2 = 1 := by omega
    rcases this with h | h <;> simp [h]
  rw [h0]
  have h1 : List.countP ((fun i => hs ((at' + i) % W) ((at' + i) / W) && !cov.testBit i) ∘ Nat.succ) (List.range k) = List.countP (fun i => hs ((at' + 1 + i) % W) ((at' + 1 + i) / W) && !(cov / 2).testBit i) (List.range k) := by
    apply List.countP_congr
    intro i _
    show (hs ((at' + (i + 1)) % W) ((at' + (i + 1)) / W) && !cov.testBit (i + 1)) = true ↔ _
    rw [Nat.testBit_succ, show at' + (i + 1) = at' + 1 + i by omega]
  rw [h1]
  omega
theorem uncF_le (W : Nat) (hs : Nat → Nat → Bool) (k at' cov : Nat) : uncF W hs k at' cov ≤ k := by
  unfold uncF
  have := List.countP_le_length (p := fun i => hs ((at' + i) % W) ((at' + i) / W) && !cov.testBit i) (l := List.range k)
  rwa [List.length_range] at this
/-- One more bit. -/
theorem uncF_bit {W : Nat} {hs : Nat → Nat → Bool} {k at' cov b : Nat} (hb : b < k) (h : hs ((at' + b) % W) ((at' + b) / W) = true) (h0 : cov.testBit b = false) : uncF W hs k at' (cov ||| 2 ^ b) + 1 = uncF W hs k at' cov := by
  unfold uncF
  have key : ∀ n, (List.range n).countP (fun i => hs ((at' + i) % W) ((at' + i) / W) && !(cov ||| 2 ^ b).testBit i) + (if b < n then 1 else 0) = (List.range n).countP (fun i => hs ((at' + i) % W) ((at' + i) / W) && !cov.testBit i) := fun n => by
    induction n with
    | zero => simp
    | succ n ih =>
      rw [List.range_succ, List.countP_append, List.countP_append, List.countP_singleton, List.countP_singleton]
      by_cases hc : n = b
      · subst hc
        rw [if_neg (Nat.lt_irrefl _)] at ih
        have p1 : (hs ((at' + n) % W) ((at' + n) / W) && !(cov ||| 2 ^ n).testBit n) = false := by rw [Nat.testBit_or, Nat.testBit_two_pow_self]; simp
        have p2 : (hs ((at' + n) % W) ((at' + n) / W) && !cov.testBit n) = true := by rw [h, h0]; rfl
        rw [p1, p2, if_pos (Nat.lt_succ_self _), ← ih]
        simp
      · have hnb : (2 ^ b).testBit n = false := Nat.testBit_two_pow_of_ne (fun h => hc h.symm)
        have p1 : (hs ((at' + n) % W) ((at' + n) / W) && !(cov ||| 2 ^ b).testBit n) = (hs ((at' + n) % W) ((at' + n) / W) && !cov.testBit n) := by rw [Nat.testBit_or, hnb, Bool.or_false]
        rw [p1]
        have p3 : (if b < n + 1 then 1 else 0) = (if b < n then 1 else 0) := by
          by_cases hlt : b < n
          · rw [if_pos hlt, if_pos (by omega)]
          · rw [if_neg hlt, if_neg (by omega)]
        rw [p3]
        omega
  have := key k
  rw [if_pos hb] at this
  exact this
theorem cell_right {W at' : Nat} (h : at' % W + 1 < W) : (at' + 1) % W = at' % W + 1 ∧ (at' + 1) / W = at' / W := by
  have hdm := Nat.div_add_mod at' W
  have e : at' + 1 = at' % W + 1 + W * (at' / W) := by omega
  constructor
  · rw [e, Nat.add_mul_mod_self_left, Nat.mod_eq_of_lt h]
  · rw [e, Nat.add_mul_div_left _ _ (by omega), Nat.div_eq_of_lt h, Nat.zero_add]
theorem half_lt {W c : Nat} (hW : 1 ≤ W) (h : c < 2 ^ W) : c / 2 < 2 ^ (W - 1) := by
  obtain ⟨v, rfl⟩ : ∃ v, W = v + 1 := ⟨W - 1, by omega⟩
  rw [Nat.pow_succ] at h
  show c / 2 < 2 ^ (v + 1 - 1)
  rw [Nat.add_sub_cancel]
  omega
theorem cov_over {W c : Nat} (hW : 1 ≤ W) (h : c < 2 ^ W) : c / 2 < 2 ^ W := Nat.lt_of_le_of_lt (Nat.div_le_self _ _) h
theorem cov_or {W c b : Nat} (hb : b < W) (h : c < 2 ^ W) : c ||| 2 ^ b < 2 ^ W := Nat.or_lt_two_pow h (Nat.pow_lt_pow_right (by omega) hb)
/-- There are not too many ways. -/
theorem cntF_le {W H : Nat} {hs : Nat → Nat → Bool} (hW : 1 ≤ W) (hin : ∀ x y, hs x y = true → x < W ∧ y < H) : ∀ k at' cov, at' + k = W * H → cov < 2 ^ W → cntF W hs k at' cov ≤ 2 ^ (uncF W hs k at' cov / 2)
  | 0, _, _, _, _ => by simp [cntF, uncF]
  | k + 1, at', cov, hk, hc => by
    have hh := half_lt hW hc
    have ih := fun c (h : c < 2 ^ W) => cntF_le hW hin k (at' + 1) c (by omega) h
    have hx : at' % W < W := Nat.mod_lt _ (by omega)
    have hdm := Nat.div_add_mod at' W
    unfold cntF
    rw [uncF_succ]
    cases hf : freeD W hs at' cov with
    | false =>
      have hr : rightD W hs at' cov = false := by unfold rightD; rw [hf]; rfl
      have hd : downD W hs at' cov = false := by unfold downD; rw [hf]; rfl
      rw [hr, hd]
      simp
      exact ih _ (cov_over hW hc)
    | true =>
      have hR : (if rightD W hs at' cov then cntF W hs k (at' + 1) (cov / 2 ||| 1) else 0) ≤ 2 ^ ((uncF W hs k (at' + 1) (cov / 2) - 1) / 2) := by
        split
        · rename_i hr
          unfold rightD at hr
          rw [hf, Bool.true_and, Bool.and_eq_true, Bool.and_eq_true, decide_eq_true_eq, beq_iff_eq] at hr
          obtain ⟨h1, h2, h3⟩ := hr
          have hcell := cell_right (W := W) (at' := at') (by omega)
          have hk0 : 0 < k := by
            have := (hin _ _ h2).2
            have h4 : W * (at' / W + 1) ≤ W * H := Nat.mul_le_mul_left _ this
            rw [Nat.mul_add] at h4
            omega
          have hb := uncF_bit (W := W) (hs := hs) (k := k) (at' := at' + 1) (cov := cov / 2) (b := 0) hk0 (by rw [Nat.add_zero, hcell.1, hcell.2]; exact h2) (by rw [Nat.testBit_zero]; simp [h3])
          have := ih (cov / 2 ||| 2 ^ 0) (cov_or hW (cov_over hW hc))
          rw [← hb]
          exact this
        · exact Nat.zero_le _
      have hD : (if downD W hs at' cov then cntF W hs k (at' + 1) (cov / 2 ||| 2 ^ (W - 1)) else 0) ≤ 2 ^ ((uncF W hs k (at' + 1) (cov / 2) - 1) / 2) := by
        split
        · rename_i hd
          unfold downD at hd
          rw [hf, Bool.true_and] at hd
          have hcell : (at' + 1 + (W - 1)) % W = at' % W ∧ (at' + 1 + (W - 1)) / W = at' / W + 1 := by
            rw [show at' + 1 + (W - 1) = at' + W by omega]
            exact ⟨Nat.add_mod_right _ _, Nat.add_div_right _ (by omega)⟩
          have hk0 : W - 1 < k := by
            have := (hin _ _ hd).2
            have h4 : W * (at' / W + 1 + 1) ≤ W * H := Nat.mul_le_mul_left _ this
            rw [Nat.mul_add, Nat.mul_add] at h4
            omega
          have hb := uncF_bit (W := W) (hs := hs) (k := k) (at' := at' + 1) (cov := cov / 2) (b := W - 1) hk0 (by rw [hcell.1, hcell.2]; exact hd) (Nat.testBit_lt_two_pow hh)
          have := ih (cov / 2 ||| 2 ^ (W - 1)) (cov_or (by omega) (cov_over hW hc))
          rw [← hb]
          exact this
        · exact Nat.zero_le _
      have h2 : (1 + uncF W hs k (at' + 1) (cov / 2)) / 2 = (uncF W hs k (at' + 1) (cov / 2) - 1) / 2 + 1 ∨ uncF W hs k (at' + 1) (cov / 2) = 0 := by omega
      simp only [if_true]
      rcases h2 with h2 | h2
      · rw [h2, Nat.pow_succ]; omega
      · have hR0 : rightD W hs at' cov = false := by
          cases hr : rightD W hs at' cov with
          | false => rfl
          | true =>
            exfalso
            unfold rightD at hr
            rw [hf, Bool.true_and, Bool.and_eq_true, Bool.and_eq_true, decide_eq_true_eq, beq_iff_eq] at hr
            obtain ⟨h1, h3, h4⟩ := hr
            have hcell := cell_right (W := W) (at' := at') (by omega)
            have hk0 : 0 < k := by
              have := (hin _ _ h3).2
              have h5 : W * (at' / W + 1) ≤ W * H := Nat.mul_le_mul_left _ this
              rw [Nat.mul_add] at h5
              omega
            have hb := uncF_bit (W := W) (hs := hs) (k := k) (at' := at' + 1) (cov := cov / 2) (b := 0) hk0 (by rw [Nat.add_zero, hcell.1, hcell.2]; exact h3) (by rw [Nat.testBit_zero]; simp [h4])
            omega
        have hD0 : downD W hs at' cov = false := by
          cases hd : downD W hs at' cov with
          | false => rfl
          | true =>
            exfalso
            unfold downD at hd
            rw [hf, Bool.true_and] at hd
            have hcell : (at' + 1 + (W - 1)) % W = at' % W ∧ (at' + 1 + (W - 1)) / W = at' / W + 1 := by
              rw [show at' + 1 + (W - 1) = at' + W by omega]
              exact ⟨Nat.add_mod_right _ _, Nat.add_div_right _ (by omega)⟩
            have hk0 : W - 1 < k := by
              have := (hin _ _ hd).2
              have h4 : W * (at' / W + 1 + 1) ≤ W * H := Nat.mul_le_mul_left _ this
              rw [Nat.mul_add, Nat.mul_add] at h4
              omega
            have hb := uncF_bit (W := W) (hs := hs) (k := k) (at' := at' + 1) (cov := cov / 2) (b := W - 1) hk0 (by rw [hcell.1, hcell.2]; exact hd) (Nat.testBit_lt_two_pow hh)
            omega
        rw [hR0, hD0]
        simp
/-- The number of tilings. -/
theorem cntF_small {W H : Nat} {hs : Nat → Nat → Bool} (hW : 1 ≤ W) (hW8 : W ≤ 8) (hH8 : H ≤ 8) (hin : ∀ x y, hs x y = true → x < W ∧ y < H) {k at' cov : Nat} (hk : at' + k = W * H) (hc : cov < 2 ^ W) : cntF W hs k at' cov ≤ 4294967296 := by
  have h1 := cntF_le hW hin k at' cov hk hc
  have h2 := uncF_le W hs k at' cov
  have h3 : W * H ≤ 8 * 8 := Nat.mul_le_mul hW8 hH8
  have h4 : 2 ^ (uncF W hs k at' cov / 2) ≤ 2 ^ 32 := Nat.pow_le_pow_right (by omega) (by omega)
  exact Nat.le_trans h1 (Nat.le_trans h4 (by decide))
end Go.Proofs.YtcdhimnmbpllgaaDoor

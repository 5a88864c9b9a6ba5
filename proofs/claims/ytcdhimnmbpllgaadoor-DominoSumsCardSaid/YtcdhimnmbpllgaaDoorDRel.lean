/-
  Plain: the same cells to come, the same number of ways.
-/
import Derived.Test.YtcdhimnmbpllgaaDoorDPlain
namespace Go.Proofs.YtcdhimnmbpllgaaDoor
set_option linter.unusedVariables false
set_option linter.unusedSimpArgs false

/-- The cells to come that are not covered are the same. -/
def RelD (W : Nat) (f g : Nat → Nat → Bool) (k at' c d : Nat) : Prop := ∀ i, i < k → (f ((at' + i) % W) ((at' + i) / W) && !c.testBit i) = (g ((at' + i) % W) ((at' + i) / W) && !d.testBit i)
theorem RelD.next {W : Nat} {f g : Nat → Nat → Bool} {k at' c d : Nat} (h : RelD W f g (k + 1) at' c d) : RelD W f g k (at' + 1) (c / 2) (d / 2) := fun i hi => by
  have := h (i + 1) (by omega)
  rw [Nat.testBit_succ, Nat.testBit_succ, show at' + (i + 1) = at' + 1 + i by omega] at this
  exact this
theorem RelD.bit {W : Nat} {f g : Nat → Nat → Bool} {k at' c d : Nat} (h : RelD W f g k at' c d) (b : Nat) : RelD W f g k at' (c ||| 2 ^ b) (d ||| 2 ^ b) := fun i hi => by
  have := h i hi
  rw [Nat.testBit_or, Nat.testBit_or]
  cases (2 ^ b).testBit i with
  | true => simp
  | false => simpa using this
theorem RelD.free {W : Nat} {f g : Nat → Nat → Bool} {k at' c d : Nat} (h : RelD W f g (k + 1) at' c d) : freeD W f at' c = freeD W g at' d := by
  have := h 0 (by omega)
  rw [Nat.add_zero, Nat.testBit_zero, Nat.testBit_zero] at this
  unfold freeD
  have h1 : ∀ n : Nat, (n % 2 == 0) = !decide (n % 2 = 1) := fun n => by
    have : n % 2 = 0 ∨ n % 2 = 1 := by omega
    rcases this with h | h <;> simp [h]
  rw [h1, h1]
  exact this
theorem cnt_rel {W H : Nat} {f g : Nat → Nat → Bool} (hW : 1 ≤ W) (hf : ∀ x y, f x y = true → x < W ∧ y < H) (hg : ∀ x y, g x y = true → x < W ∧ y < H) : ∀ k at' c d, at' + k = W * H → c < 2 ^ W → d < 2 ^ W → RelD W f g k at' c d → cntF W f k at' c = cntF W g k at' d
  | 0, _, _, _, _, _, _, _ => rfl
  | k + 1, at', c, d, hk, hc, hd, h => by
    have ih := fun c d (hc : c < 2 ^ W) (hd : d < 2 ^ W) (h : RelD W f g k (at' + 1) c d) => cnt_rel hW hf hg k (at' + 1) c d (by omega) hc hd h
    have hx : at' % W < W := Nat.mod_lt _ (by omega)
    have hdm := Nat.div_add_mod at' W
    have hfr := h.free
    have hyH : at' / W < H := by rw [Nat.div_lt_iff_lt_mul (by omega), Nat.mul_comm]; omega
    have h1 : ∀ n : Nat, (n % 2 == 0) = !decide (n % 2 = 1) := fun n => by
      have : n % 2 = 0 ∨ n % 2 = 1 := by omega
      rcases this with h | h <;> simp [h]
    have hri : rightD W f at' c = rightD W g at' d := by
      unfold rightD
      rw [hfr]
      by_cases hx1 : at' % W + 1 = W
      · simp [hx1]
      · have hcell := cell_right (W := W) (at' := at') (by omega)
        have hk1 : 0 < k := by
          have h4 : W * (at' / W + 1) ≤ W * H := Nat.mul_le_mul_left _ hyH
          rw [Nat.mul_add] at h4
          omega
        have h2 := h 1 (by omega)
        rw [hcell.1, hcell.2, Nat.testBit_succ, Nat.testBit_zero, Nat.testBit_succ, Nat.testBit_zero] at h2
        rw [h1, h1, h2]
    have hdo : downD W f at' c = downD W g at' d := by
      unfold downD
      rw [hfr]
      congr 1
      have hc0 : c.testBit W = false := Nat.testBit_lt_two_pow hc
      have hd0 : d.testBit W = false := Nat.testBit_lt_two_pow hd
      by_cases hlt : W < k + 1
      · have h2 := h W hlt
        rw [hc0, hd0, Nat.add_mod_right, Nat.add_div_right _ (by omega)] at h2
        simpa using h2
      · have hno : ¬ at' / W + 1 < H := fun hy => by
          have h4 : W * (at' / W + 1 + 1) ≤ W * H := Nat.mul_le_mul_left _ hy
          rw [Nat.mul_add, Nat.mul_add] at h4
          omega
        have a : f (at' % W) (at' / W + 1) = false := by
          cases e : f (at' % W) (at' / W + 1) with
          | false => rfl
          | true => exact absurd (hf _ _ e).2 hno
        have b : g (at' % W) (at' / W + 1) = false := by
          cases e : g (at' % W) (at' / W + 1) with
          | false => rfl
          | true => exact absurd (hg _ _ e).2 hno
        rw [a, b]
    unfold cntF
    rw [hfr, hri, hdo]
    have e1 := ih (c / 2 ||| 2 ^ 0) (d / 2 ||| 2 ^ 0) (cov_or (by omega) (cov_over hW hc)) (cov_or (by omega) (cov_over hW hd)) (h.next.bit 0)
    have e2 := ih (c / 2 ||| 2 ^ (W - 1)) (d / 2 ||| 2 ^ (W - 1)) (cov_or (by omega) (cov_over hW hc)) (cov_or (by omega) (cov_over hW hd)) (h.next.bit (W - 1))
    have e3 := ih (c / 2) (d / 2) (cov_over hW hc) (cov_over hW hd) h.next
    rw [Nat.pow_zero] at e1
    rw [e1, e2, e3]
end Go.Proofs.YtcdhimnmbpllgaaDoor

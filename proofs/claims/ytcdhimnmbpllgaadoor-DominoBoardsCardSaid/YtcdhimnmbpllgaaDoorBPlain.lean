/-
  Plain: boards: whether there is a tiling, the first one, and that each of its dominoes is used.
-/
import Derived.Test.YtcdhimnmbpllgaaDoorDT1
import Derived.Test.YtcdhimnmbpllgaaDoorDD4
namespace Go.Proofs.YtcdhimnmbpllgaaDoor
open Go.RowKit
set_option linter.unusedVariables false
set_option linter.unusedSimpArgs false
set_option maxRecDepth 100000

/-- Is there any way to go on? -/
def pF (W : Nat) (hs : Nat → Nat → Bool) : Nat → Nat → Nat → Bool
  | 0, _, _ => true
  | k + 1, at', cov => if freeD W hs at' cov then (rightD W hs at' cov && pF W hs k (at' + 1) (cov / 2 ||| 1)) || (downD W hs at' cov && pF W hs k (at' + 1) (cov / 2 ||| 2 ^ (W - 1))) else pF W hs k (at' + 1) (cov / 2)
theorem pF_iff (W : Nat) (hs : Nat → Nat → Bool) : ∀ k at' cov, pF W hs k at' cov = decide (0 < cntF W hs k at' cov)
  | 0, _, _ => by simp [pF, cntF]
  | k + 1, at', cov => by
    unfold pF cntF
    rw [pF_iff W hs k, pF_iff W hs k, pF_iff W hs k]
    cases hf : freeD W hs at' cov with
    | false =>
      have hr : rightD W hs at' cov = false := by unfold rightD; rw [hf]; rfl
      have hd : downD W hs at' cov = false := by unfold downD; rw [hf]; rfl
      rw [hr, hd]
      simp
    | true =>
      cases rightD W hs at' cov <;> cases downD W hs at' cov <;> simp only [Bool.true_and, Bool.false_and, if_true, if_false, Bool.or_false, Bool.false_or, Nat.add_zero, Nat.zero_add, Bool.false_eq_true]
      · rfl
      · rw [Bool.eq_iff_iff, Bool.or_eq_true, decide_eq_true_eq, decide_eq_true_eq, decide_eq_true_eq]; omega
/-- The first tiling. -/
def pathB (W : Nat) (hs : Nat → Nat → Bool) : Nat → Nat → Nat → List Dom
  | 0, _, _ => []
  | k + 1, at', cov =>
    if freeD W hs at' cov then
      (if rightD W hs at' cov && pF W hs k (at' + 1) (cov / 2 ||| 1) then (((at' % W : Nat) : Int), ((at' / W : Nat) : Int), false) :: pathB W hs k (at' + 1) (cov / 2 ||| 1)
      else (((at' % W : Nat) : Int), ((at' / W : Nat) : Int), true) :: pathB W hs k (at' + 1) (cov / 2 ||| 2 ^ (W - 1)))
    else pathB W hs k (at' + 1) (cov / 2)
theorem path_b (W : Nat) (hs : Nat → Nat → Bool) : ∀ k at' cov, pathF W hs k at' cov 0 = pathB W hs k at' cov
  | 0, _, _ => rfl
  | k + 1, at', cov => by
    unfold pathF pathB
    rw [pF_iff]
    cases hf : freeD W hs at' cov with
    | false => simp only [Bool.false_eq_true, if_false]; exact path_b W hs k _ _
    | true =>
      simp only [if_true]
      unfold nR
      cases hr : rightD W hs at' cov with
      | false => simp only [Bool.false_eq_true, if_false, Bool.false_and, Nat.le_refl, if_true, Nat.sub_zero]; rw [path_b W hs k]
      | true =>
        simp only [if_true, Bool.true_and, decide_eq_true_eq]
        by_cases hc : 0 < cntF W hs k (at' + 1) (cov / 2 ||| 1)
        · rw [if_pos hc, if_neg (by omega), path_b W hs k]
        · rw [if_neg hc, if_pos (by omega), Nat.zero_sub, path_b W hs k]
/-- A tiling covers an even number of cells. -/
theorem cnt_even {W H : Nat} {hs : Nat → Nat → Bool} (hW : 1 ≤ W) (hin : ∀ x y, hs x y = true → x < W ∧ y < H) : ∀ k at' cov, at' + k = W * H → cov < 2 ^ W → 0 < cntF W hs k at' cov → uncF W hs k at' cov % 2 = 0
  | 0, _, _, _, _, _ => by simp [uncF]
  | k + 1, at', cov, hk, hc, hp => by
    have hh := half_lt hW hc
    have ih := fun c (h : c < 2 ^ W) => cnt_even hW hin k (at' + 1) c (by omega) h
    have hx : at' % W < W := Nat.mod_lt _ (by omega)
    have hdm := Nat.div_add_mod at' W
    unfold cntF at hp
    rw [uncF_succ]
    cases hf : freeD W hs at' cov with
    | false =>
      have hr : rightD W hs at' cov = false := by unfold rightD; rw [hf]; rfl
      have hd : downD W hs at' cov = false := by unfold downD; rw [hf]; rfl
      rw [hr, hd, hf] at hp
      simp only [Bool.false_eq_true, if_false, Nat.zero_add] at hp ⊢
      exact ih _ (cov_over hW hc) hp
    | true =>
      rw [hf] at hp
      simp only [if_true, Nat.add_zero] at hp ⊢
      by_cases hr : rightD W hs at' cov = true ∧ 0 < cntF W hs k (at' + 1) (cov / 2 ||| 1)
      · obtain ⟨hr, hp2⟩ := hr
        unfold rightD at hr
        rw [hf, Bool.true_and, Bool.and_eq_true, Bool.and_eq_true, decide_eq_true_eq, beq_iff_eq] at hr
        obtain ⟨h1, h2, h3⟩ := hr
        have hcell := cell_right (W := W) (at' := at') (by omega)
        have hk0 : 0 < k := by
          have := (hin _ _ h2).2
          have h4 : W * (at' / W + 1) ≤ W * H := Nat.mul_le_mul_left _ this
          rw [Nat.mul_add] at h4
          omega
        have hb := uncF_bit (W := W) (hs := hs) (k := k) (at' := at' + 1) (cov := cov / 2) (b := 0) hk0 (by rw [Nat.add_zero, hcell.1, hcell.2]; exact h2) (by rw [Nat.testBit_zero]; simp [h3])
        have := ih (cov / 2 ||| 2 ^ 0) (cov_or hW (cov_over hW hc)) hp2
        omega
      · have hd : downD W hs at' cov = true ∧ 0 < cntF W hs k (at' + 1) (cov / 2 ||| 2 ^ (W - 1)) := by
          cases hdd : downD W hs at' cov with
          | false =>
            exfalso
            rw [hdd] at hp
            simp only [Bool.false_eq_true, if_false, Nat.add_zero] at hp
            split at hp
            · rename_i hr2; exact hr ⟨hr2, hp⟩
            · omega
          | true =>
            refine ⟨rfl, ?_⟩
            rw [hdd, if_pos rfl] at hp
            split at hp
            · rename_i hr2
              have : ¬ 0 < cntF W hs k (at' + 1) (cov / 2 ||| 1) := fun h => hr ⟨hr2, h⟩
              omega
            · omega
        obtain ⟨hd, hp2⟩ := hd
        unfold downD at hd
        rw [hf, Bool.true_and] at hd
        have hcell : (at' + 1 + (W - 1)) % W = at' % W ∧ (at' + 1 + (W - 1)) / W = at' / W + 1 := by
          rw [show at' + 1 + (W - 1) = at' + W by omega]
          exact ⟨Nat.add_mod_right _ _, Nat.add_div_right _ (by omega)⟩
        have hk0 : W - 1 < k := by
          have := (hin _ _ hd).2
          have h4 : W * (at' / W + 1 + 1) ≤ W * H := Nat.mul_le_mul_left _ this
          rw [Nat.mul_add, Nat.mul_add] at h4
          omega
        have hb := uncF_bit (W := W) (hs := hs) (k := k) (at' := at' + 1) (cov := cov / 2) (b := W - 1) hk0 (by rw [hcell.1, hcell.2]; exact hd) (Nat.testBit_lt_two_pow hh)
        have := ih (cov / 2 ||| 2 ^ (W - 1)) (cov_or (by omega) (cov_over hW hc)) hp2
        omega
/-- What a drawn region holds. -/
theorem hsR_drawn {p : List ByteArray} (hp : RegOk p) (f : Nat → Nat → Bool) (x y : Nat) : hsR (drawnL p f) x y = (decide (x < wd p) && (decide (y < p.length) && f x y)) := by
  unfold hsR hsI
  rw [drawnL_wd hp, drawnL_len]
  have e0 : decide ((0 : Int) ≤ (x : Int)) = true := decide_eq_true (by omega)
  have e1 : decide ((0 : Int) ≤ (y : Int)) = true := decide_eq_true (by omega)
  rw [e0, e1, Bool.true_and, Bool.true_and]
  have e2 : decide ((x : Int) < (wd p : Int)) = decide (x < wd p) := by rw [Bool.eq_iff_iff, decide_eq_true_eq, decide_eq_true_eq]; omega
  have e3 : decide ((y : Int) < (p.length : Int)) = decide (y < p.length) := by rw [Bool.eq_iff_iff, decide_eq_true_eq, decide_eq_true_eq]; omega
  rw [e2, e3]
  by_cases hx : x < wd p
  · by_cases hy : y < p.length
    · rw [decide_eq_true hx, decide_eq_true hy, Bool.true_and, Bool.true_and, Bool.true_and, Bool.true_and, Int.toNat_natCast, Int.toNat_natCast, getD_some (drawnL_get (f := f) hy)]
      have hs : x < (drStr f (wd p) y).size := by rw [drStr_size]; exact hx
      have hb := bt_eq (drStr f (wd p) y) x hs
      have hv : (drStr f (wd p) y)[x]'hs = if f x y then 35 else 46 := by
        show (drRow f y (wd p)).toArray[x]'_ = _
        simp [drRow]
      rw [hv] at hb
      rw [← hb]
      cases f x y <;> rfl
    · rw [decide_eq_false hy]; simp
  · rw [decide_eq_false hx]; simp
end Go.Proofs.YtcdhimnmbpllgaaDoor

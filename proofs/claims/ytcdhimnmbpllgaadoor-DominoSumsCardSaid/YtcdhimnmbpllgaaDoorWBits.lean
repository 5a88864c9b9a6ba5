/-
  Plain: the specification's count, state by state (ways): the sum of a list's entries by weights, and one cell's step. Plain: both counts are one, and what a state holds stays small. Plain: one state of the specification's count, done: what is added, and where; every entry stays small. Plain: the specification's count as its loops go: a cell's next list, and what holds of it. The bits of the specification's count: taken off, put on, read.
-/
import Derived.Test.YtcdhimnmbpllgaaDoorDPlain
import Derived.Test.YtcdhimnmbpllgaaDoorDW2
namespace Go.Proofs.YtcdhimnmbpllgaaDoor
set_option linter.unusedVariables false
set_option linter.unusedSimpArgs false

/-- The sum of the first j entries, each with its weight. -/
def dotN (l : List Nat) (g : Nat → Nat) : Nat → Nat
  | 0 => 0
  | j + 1 => dotN l g j + l.getD j 0 * g j
theorem dotN_zero (g : Nat → Nat) (n : Nat) : ∀ j, dotN (List.replicate n 0) g j = 0
  | 0 => rfl
  | j + 1 => by
    unfold dotN
    rw [dotN_zero g n j]
    have : (List.replicate n 0).getD j 0 = 0 := by
      rw [List.getD_eq_getElem?_getD, List.getElem?_replicate]
      split <;> rfl
    rw [this]; omega
theorem dotN_set {l : List Nat} {i : Nat} (hi : i < l.length) (v : Nat) (g : Nat → Nat) : ∀ j, dotN (l.set i (l.getD i 0 + v)) g j = dotN l g j + (if i < j then v * g i else 0)
  | 0 => by simp [dotN]
  | j + 1 => by
    unfold dotN
    rw [dotN_set hi v g j]
    by_cases h : i = j
    · subst h
      have e : (l.set i (l.getD i 0 + v)).getD i 0 = l.getD i 0 + v := by
        rw [List.getD_eq_getElem?_getD, List.getElem?_set_self hi]; rfl
      rw [e, if_neg (Nat.lt_irrefl i), if_pos (Nat.lt_succ_self i), Nat.add_mul]
      omega
    · have e : (l.set i (l.getD i 0 + v)).getD j 0 = l.getD j 0 := by
        rw [List.getD_eq_getElem?_getD, List.getElem?_set_ne h, ← List.getD_eq_getElem?_getD]
      rw [e]
      by_cases h2 : i < j
      · rw [if_pos h2, if_pos (by omega)]; omega
      · rw [if_neg h2, if_neg (by omega)]; omega
theorem dotN_mono {l : List Nat} {g h : Nat → Nat} : ∀ j, (∀ i, i < j → g i ≤ h i) → dotN l g j ≤ dotN l h j
  | 0, _ => Nat.le_refl _
  | j + 1, H => by
    unfold dotN
    exact Nat.add_le_add (dotN_mono j fun i hi => H i (by omega)) (Nat.mul_le_mul_left _ (H j (by omega)))
theorem dotN_congr {l : List Nat} {g h : Nat → Nat} : ∀ j, (∀ i, i < j → g i = h i) → dotN l g j = dotN l h j
  | 0, _ => rfl
  | j + 1, H => by
    unfold dotN
    rw [dotN_congr j fun i hi => H i (by omega), H j (by omega)]
theorem dotN_get {l : List Nat} {g : Nat → Nat} {i : Nat} : ∀ j, i < j → l.getD i 0 * g i ≤ dotN l g j
  | 0, h => by omega
  | j + 1, h => by
    unfold dotN
    by_cases e : i = j
    · subst e; omega
    · have := dotN_get (l := l) (g := g) (i := i) j (by omega)
      omega

/-- A state without the bit of a column. -/
def offB (s x : Nat) : Nat := if s.testBit x then s ^^^ 2 ^ x else s
/-- One cell of the specification: what a state's ways on are, of those of the states behind the cell. -/
def stepW (W H : Nat) (f : Nat → Nat → Bool) (at' : Nat) (g : Nat → Nat) (s : Nat) : Nat :=
  let x := at' % W
  let y := at' / W
  if s.testBit x || !f x y then (if !s.testBit x || f x y then g (offB s x) else 0)
  else (if f x (y + 1) && decide (y + 1 < H) then g (offB s x ||| 2 ^ x) else 0)
    + (if f (x + 1) y && (decide (x + 1 < W) && !s.testBit (x + 1)) then g (offB s x ||| 2 ^ (x + 1)) else 0)
/-- The ways on from a state, with k cells to come. -/
def gF (W H : Nat) (f : Nat → Nat → Bool) : Nat → Nat → Nat → Nat
  | 0, _, s => if s = 0 then 1 else 0
  | k + 1, at', s => stepW W H f at' (gF W H f k (at' + 1)) s
theorem offB_bit (s x c : Nat) : (offB s x).testBit c = (s.testBit c && decide (c ≠ x)) := by
  unfold offB
  by_cases h : s.testBit x = true
  · rw [if_pos h, Nat.testBit_xor, Nat.testBit_two_pow]
    by_cases e : x = c
    · subst e; simp [h]
    · simp [e, Ne.symm e]
  · rw [if_neg h]
    by_cases e : c = x
    · subst e; simp [h]
    · simp [e]
theorem offB_lt {s x W : Nat} (hs : s < 2 ^ W) (hx : x < W) : offB s x < 2 ^ W := by
  unfold offB
  split
  · exact Nat.xor_lt_two_pow hs (Nat.pow_lt_pow_right (by omega) hx)
  · exact hs

/-- The states of both counts: by the next cells, and by columns. -/
structure RelC (W : Nat) (f : Nat → Nat → Bool) (at' cov s : Nat) : Prop where
  c : cov < 2 ^ W
  l : s < 2 ^ W
  b : ∀ i, i < W → cov.testBit i = s.testBit ((at' + i) % W)
  g : ∀ i, i < W → cov.testBit i = true → f ((at' + i) % W) ((at' + i) / W) = true
theorem RelC.off {W : Nat} {f : Nat → Nat → Bool} {at' cov s : Nat} (hW : 1 ≤ W) (h : RelC W f at' cov s) : RelC W f (at' + 1) (cov / 2) (offB s (at' % W)) := by
  have hx : at' % W < W := Nat.mod_lt _ hW
  refine ⟨Nat.lt_of_le_of_lt (Nat.div_le_self _ _) h.c, offB_lt h.l hx, fun i hi => ?_, fun i hi hb => ?_⟩
  · rw [offB_bit, Nat.testBit_div_two]
    by_cases e : i + 1 = W
    · have h1 : (at' + 1 + i) % W = at' % W := by rw [show at' + 1 + i = at' + W by omega, Nat.add_mod_right]
      rw [h1, e, Nat.testBit_lt_two_pow h.c]; simp
    · have h1 := h.b (i + 1) (by omega)
      rw [h1, show at' + (i + 1) = at' + 1 + i by omega]
      have h2 : (at' + 1 + i) % W ≠ at' % W := by
        intro e2
        have d1 := Nat.div_add_mod (at' + 1 + i) W
        have d2 := Nat.div_add_mod at' W
        rw [e2] at d1
        have h3 : W * ((at' + 1 + i) / W) = W * (at' / W) + (i + 1) := by omega
        have h4 : W * ((at' + 1 + i) / W - at' / W) = i + 1 := by rw [Nat.mul_sub]; omega
        rcases Nat.eq_zero_or_pos ((at' + 1 + i) / W - at' / W) with h5 | h5
        · rw [h5] at h4; omega
        · have := Nat.le_mul_of_pos_right W h5
          omega
      simp [h2]
  · rw [Nat.testBit_div_two] at hb
    by_cases e : i + 1 = W
    · rw [e, Nat.testBit_lt_two_pow h.c] at hb
      exact absurd hb (by decide)
    · have := h.g (i + 1) (by omega) hb
      rw [show at' + 1 + i = at' + (i + 1) by omega]
      exact this
theorem RelC.on {W : Nat} {f : Nat → Nat → Bool} {at' cov s j : Nat} (h : RelC W f at' cov s) (hj : j < W) (hf : f ((at' + j) % W) ((at' + j) / W) = true) : RelC W f at' (cov ||| 2 ^ j) (s ||| 2 ^ ((at' + j) % W)) := by
  have hW : 0 < W := by omega
  refine ⟨Nat.or_lt_two_pow h.c (Nat.pow_lt_pow_right (by omega) hj), Nat.or_lt_two_pow h.l (Nat.pow_lt_pow_right (by omega) (Nat.mod_lt _ hW)), fun i hi => ?_, fun i hi hb => ?_⟩
  · rw [Nat.testBit_or, Nat.testBit_or, h.b i hi, Nat.testBit_two_pow, Nat.testBit_two_pow]
    by_cases e : j = i
    · subst e; simp
    · have h2 : ¬ (at' + j) % W = (at' + i) % W := by
        intro e2
        rcases Nat.lt_or_gt_of_ne e with h3 | h3
        · have := Nat.sub_mod_eq_zero_of_mod_eq e2.symm
          rw [show at' + i - (at' + j) = i - j by omega, Nat.mod_eq_of_lt (by omega)] at this
          omega
        · have := Nat.sub_mod_eq_zero_of_mod_eq e2
          rw [show at' + j - (at' + i) = j - i by omega, Nat.mod_eq_of_lt (by omega)] at this
          omega
      simp [e, h2]
  · rw [Nat.testBit_or, Nat.testBit_two_pow] at hb
    by_cases e : j = i
    · subst e; exact hf
    · simp [e] at hb
      exact h.g i hi hb
end Go.Proofs.YtcdhimnmbpllgaaDoor

namespace Go.Proofs.YtcdhimnmbpllgaaDoor
set_option linter.unusedVariables false
set_option linter.unusedSimpArgs false

theorem gF_cnt {W H : Nat} {f : Nat → Nat → Bool} (hW : 1 ≤ W) (hin : ∀ x y, f x y = true → x < W ∧ y < H) : ∀ k at' cov s, at' + k = W * H → RelC W f at' cov s → gF W H f k at' s = cntF W f k at' cov
  | 0, at', cov, s, hk, h => by
    have h0 : s = 0 := by
      apply Nat.eq_of_testBit_eq
      intro c
      rw [Nat.zero_testBit]
      by_cases hc : c < W
      · have hi : (c + W - at' % W) % W < W := Nat.mod_lt _ hW
        have hb := h.b _ hi
        have hx : at' % W < W := Nat.mod_lt _ hW
        have e : (at' + (c + W - at' % W) % W) % W = c := by
          have d1 := Nat.div_add_mod at' W
          rw [Nat.add_mod_mod, show at' + (c + W - at' % W) = W * (at' / W) + (c + W) by omega, Nat.mul_add_mod, Nat.add_mod_right, Nat.mod_eq_of_lt hc]
        rw [e] at hb
        rw [← hb]
        cases hq : cov.testBit ((c + W - at' % W) % W) with
        | false => rfl
        | true =>
          have := (hin _ _ (h.g _ hi hq)).2
          have h3 : H ≤ (at' + (c + W - at' % W) % W) / W := by
            rw [Nat.le_div_iff_mul_le hW, Nat.mul_comm]; omega
          omega
      · exact Nat.testBit_lt_two_pow (Nat.lt_of_lt_of_le h.l (Nat.pow_le_pow_right (by omega) (by omega)))
    subst h0
    rfl
  | k + 1, at', cov, s, hk, h => by
    have hx : at' % W < W := Nat.mod_lt _ hW
    have hoff := h.off hW
    have ih := fun c s' (h' : RelC W f (at' + 1) c s') => gF_cnt hW hin k (at' + 1) c s' (by omega) h'
    have hb0 := h.b 0 (by omega)
    have hg0 := h.g 0 (by omega)
    rw [Nat.add_zero] at hb0 hg0
    have hz : cov.testBit 0 = (cov % 2 == 1) := by rw [Nat.testBit_zero]; cases Nat.mod_two_eq_zero_or_one cov with | inl h => simp [h] | inr h => simp [h]
    show stepW W H f at' (gF W H f k (at' + 1)) s = _
    unfold stepW cntF rightD downD freeD
    simp only
    rw [← hb0, hz]
    rcases Nat.mod_two_eq_zero_or_one cov with h2 | h2
    · cases hf : f (at' % W) (at' / W) with
      | false => simp [h2, ih _ _ hoff]
      | true =>
        have hd : f (at' % W) (at' / W + 1) = true → gF W H f k (at' + 1) (offB s (at' % W) ||| 2 ^ (at' % W)) = cntF W f k (at' + 1) (cov / 2 ||| 2 ^ (W - 1)) := fun hq => by
          have e1 : (at' + 1 + (W - 1)) % W = at' % W := by rw [show at' + 1 + (W - 1) = at' + W by omega, Nat.add_mod_right]
          have e2 : (at' + 1 + (W - 1)) / W = at' / W + 1 := by rw [show at' + 1 + (W - 1) = at' + W by omega, Nat.add_div_right _ hW]
          have := hoff.on (j := W - 1) (by omega) (by rw [e1, e2]; exact hq)
          rw [e1] at this
          exact ih _ _ this
        have hr : at' % W + 1 < W → f (at' % W + 1) (at' / W) = true → gF W H f k (at' + 1) (offB s (at' % W) ||| 2 ^ (at' % W + 1)) = cntF W f k (at' + 1) (cov / 2 ||| 1) := fun hw hq => by
          have d1 := Nat.div_add_mod at' W
          have e0 : at' + 1 + 0 = W * (at' / W) + (at' % W + 1) := by omega
          have e1 : (at' + 1 + 0) % W = at' % W + 1 := by rw [e0, Nat.mul_add_mod, Nat.mod_eq_of_lt hw]
          have e2 : (at' + 1 + 0) / W = at' / W := by rw [e0, Nat.mul_add_div hW, Nat.div_eq_of_lt hw, Nat.add_zero]
          have := hoff.on (j := 0) (by omega) (by rw [e1, e2]; exact hq)
          rw [e1] at this
          exact ih _ _ this
        have hdn : f (at' % W) (at' / W + 1) = true → at' / W + 1 < H := fun hq => (hin _ _ hq).2
        have hrb : at' % W + 1 < W → s.testBit (at' % W + 1) = (cov / 2 % 2 == 1) := fun hw => by
          have d1 := Nat.div_add_mod at' W
          have e1 : (at' + 1) % W = at' % W + 1 := by rw [show at' + 1 = W * (at' / W) + (at' % W + 1) by omega, Nat.mul_add_mod, Nat.mod_eq_of_lt hw]
          have := h.b 1 (by omega)
          rw [e1] at this
          rw [← this, show (1 : Nat) = 0 + 1 from rfl, ← Nat.testBit_div_two, Nat.testBit_zero]
          cases Nat.mod_two_eq_zero_or_one (cov / 2) with | inl h => simp [h] | inr h => simp [h]
        have hne : (at' % W + 1 ≠ W) ↔ at' % W + 1 < W := by omega
        have hA : (if f (at' % W) (at' / W + 1) && decide (at' / W + 1 < H) then gF W H f k (at' + 1) (offB s (at' % W) ||| 2 ^ (at' % W)) else 0) = if f (at' % W) (at' / W + 1) then cntF W f k (at' + 1) (cov / 2 ||| 2 ^ (W - 1)) else 0 := by
          cases hq : f (at' % W) (at' / W + 1) with
          | false => simp
          | true => rw [hd hq]; simp [hdn hq]
        have hB : (if f (at' % W + 1) (at' / W) && (decide (at' % W + 1 < W) && !s.testBit (at' % W + 1)) then gF W H f k (at' + 1) (offB s (at' % W) ||| 2 ^ (at' % W + 1)) else 0) = if decide (at' % W + 1 ≠ W) && (f (at' % W + 1) (at' / W) && cov / 2 % 2 == 0) then cntF W f k (at' + 1) (cov / 2 ||| 1) else 0 := by
          by_cases hw : at' % W + 1 < W
          · rw [hrb hw]
            cases hq : f (at' % W + 1) (at' / W) with
            | false => simp
            | true =>
              rw [hr hw hq]
              rcases Nat.mod_two_eq_zero_or_one (cov / 2) with h3 | h3
              · simp [h3, hw, hne.2 hw]
              · simp [h3]
          · have : at' % W + 1 = W := by omega
            simp [this]
        rw [hA, hB]
        simp [h2, Nat.add_comm]
    · have hf : f (at' % W) (at' / W) = true := hg0 (by rw [hz, h2]; rfl)
      simp [h2, hf, ih _ _ hoff]
end Go.Proofs.YtcdhimnmbpllgaaDoor

namespace Go.Proofs.YtcdhimnmbpllgaaDoor
set_option linter.unusedVariables false
set_option linter.unusedSimpArgs false

def addL (l : List Nat) (i v : Nat) : List Nat := l.set i (l.getD i 0 + v)
theorem addL_len (l : List Nat) (i v : Nat) : (addL l i v).length = l.length := List.length_set
theorem addL_dot {l : List Nat} {i v n : Nat} (g : Nat → Nat) (hl : l.length = n) (hi : i < n) : dotN (addL l i v) g n = dotN l g n + v * g i := by
  unfold addL
  rw [dotN_set (by omega), if_pos hi]
/-- What a state adds. -/
def updW (W H : Nat) (f : Nat → Nat → Bool) (at' : Nat) (l : List Nat) (v s : Nat) : List Nat :=
  let x := at' % W
  let y := at' / W
  if s.testBit x || !f x y then (if !s.testBit x || f x y then addL l (offB s x) v else l)
  else
    let l1 := if f x (y + 1) && decide (y + 1 < H) then addL l (offB s x ||| 2 ^ x) v else l
    if f (x + 1) y && (decide (x + 1 < W) && !s.testBit (x + 1)) then addL l1 (offB s x ||| 2 ^ (x + 1)) v else l1
theorem updW_dot {W H : Nat} {f : Nat → Nat → Bool} {at' v s : Nat} {l : List Nat} (g : Nat → Nat) (hW : 1 ≤ W) (hl : l.length = 2 ^ W) (hs : s < 2 ^ W) :
    (updW W H f at' l v s).length = 2 ^ W ∧ dotN (updW W H f at' l v s) g (2 ^ W) = dotN l g (2 ^ W) + v * stepW W H f at' g s := by
  have hx : at' % W < W := Nat.mod_lt _ hW
  have ho := offB_lt hs hx
  have hd : offB s (at' % W) ||| 2 ^ (at' % W) < 2 ^ W := Nat.or_lt_two_pow ho (Nat.pow_lt_pow_right (by omega) hx)
  have hr : at' % W + 1 < W → offB s (at' % W) ||| 2 ^ (at' % W + 1) < 2 ^ W := fun h => Nat.or_lt_two_pow ho (Nat.pow_lt_pow_right (by omega) h)
  unfold updW stepW
  simp only
  by_cases h1 : (s.testBit (at' % W) || !f (at' % W) (at' / W)) = true
  · rw [if_pos h1, if_pos h1]
    by_cases h2 : (!s.testBit (at' % W) || f (at' % W) (at' / W)) = true
    · rw [if_pos h2, if_pos h2]
      exact ⟨by rw [addL_len, hl], addL_dot g hl ho⟩
    · rw [if_neg h2, if_neg h2]
      exact ⟨hl, by rw [Nat.mul_zero, Nat.add_zero]⟩
  · rw [if_neg h1, if_neg h1, Nat.mul_add]
    obtain ⟨l1, hl1⟩ : ∃ l1, l1 = (if f (at' % W) (at' / W + 1) && decide (at' / W + 1 < H) then addL l (offB s (at' % W) ||| 2 ^ (at' % W)) v else l) := ⟨_, rfl⟩
    rw [← hl1]
    have k1 : l1.length = 2 ^ W := by
      rw [hl1]; split
      · rw [addL_len, hl]
      · exact hl
    have k2 : dotN l1 g (2 ^ W) = dotN l g (2 ^ W) + v * (if f (at' % W) (at' / W + 1) && decide (at' / W + 1 < H) then g (offB s (at' % W) ||| 2 ^ (at' % W)) else 0) := by
      rw [hl1]; split
      · exact addL_dot g hl hd
      · rw [Nat.mul_zero, Nat.add_zero]
    by_cases h2 : (f (at' % W + 1) (at' / W) && (decide (at' % W + 1 < W) && !s.testBit (at' % W + 1))) = true
    · rw [if_pos h2, if_pos h2]
      have hw : at' % W + 1 < W := by
        simp only [Bool.and_eq_true, decide_eq_true_eq] at h2
        exact h2.2.1
      refine ⟨by rw [addL_len, k1], ?_⟩
      rw [addL_dot g k1 (hr hw), k2, Nat.add_assoc]
    · rw [if_neg h2, if_neg h2]
      exact ⟨k1, by rw [k2]; simp only [Nat.mul_zero, Nat.add_zero]⟩
/-- The cells to come that are not covered, by columns. -/
def uncS (W : Nat) (f : Nat → Nat → Bool) (k at' s : Nat) : Nat := (List.range k).countP fun i => f ((at' + i) % W) ((at' + i) / W) && !(decide (i < W) && s.testBit ((at' + i) % W))
theorem uncS_succ (W : Nat) (f : Nat → Nat → Bool) (hW : 1 ≤ W) (k at' s : Nat) : uncS W f (k + 1) at' s = (if f (at' % W) (at' / W) && !s.testBit (at' % W) then 1 else 0) + uncS W f k (at' + 1) (offB s (at' % W)) := by
  have hx : at' % W < W := Nat.mod_lt _ hW
  unfold uncS
  rw [List.range_succ_eq_map, List.countP_cons, List.countP_map, Nat.add_comm]
  congr 1
  · simp only [Nat.add_zero, show decide (0 < W) = true from decide_eq_true (by omega), Bool.true_and]
  · apply List.countP_congr
    intro i hi
    simp only [Function.comp]
    have e : at' + Nat.succ i = at' + 1 + i := by omega
    rw [e, offB_bit]
    by_cases h1 : i + 1 < W
    · have h2 : (at' + 1 + i) % W ≠ at' % W := by
        intro e2
        have := Nat.sub_mod_eq_zero_of_mod_eq e2
        rw [show at' + 1 + i - at' = i + 1 by omega, Nat.mod_eq_of_lt h1] at this
        omega
      simp [h1, h2, show i < W by omega]
    · by_cases h3 : i + 1 = W
      · have h4 : (at' + 1 + i) % W = at' % W := by rw [show at' + 1 + i = at' + W by omega, Nat.add_mod_right]
        simp [h1, h4]
      · simp [h1, show ¬ i < W by omega]
theorem uncS_on {W : Nat} {f : Nat → Nat → Bool} {k at' s j : Nat} (hj : j < W) (hk : j < k) (hf : f ((at' + j) % W) ((at' + j) / W) = true) (hs : s.testBit ((at' + j) % W) = false) : uncS W f k at' (s ||| 2 ^ ((at' + j) % W)) + 1 = uncS W f k at' s := by
  unfold uncS
  induction k with
  | zero => omega
  | succ k ih =>
    rw [List.range_succ, List.countP_append, List.countP_append, List.countP_singleton, List.countP_singleton]
    by_cases e : j = k
    · subst e
      have h1 : ∀ l : List Nat, (∀ i ∈ l, i < j) → List.countP (fun i => f ((at' + i) % W) ((at' + i) / W) && !(decide (i < W) && (s ||| 2 ^ ((at' + j) % W)).testBit ((at' + i) % W))) l = List.countP (fun i => f ((at' + i) % W) ((at' + i) / W) && !(decide (i < W) && s.testBit ((at' + i) % W))) l := fun l hl => List.countP_congr fun i hi => by
        have := hl i hi
        have h2 : ¬ (at' + j) % W = (at' + i) % W := by
          intro e2
          have := Nat.sub_mod_eq_zero_of_mod_eq e2
          rw [show at' + j - (at' + i) = j - i by omega, Nat.mod_eq_of_lt (by omega)] at this
          omega
        simp [Nat.testBit_or, Nat.testBit_two_pow, h2]
      rw [h1 _ fun i hi => List.mem_range.1 hi]
      simp [hf, hs, hj, Nat.testBit_or, Nat.testBit_two_pow]
    · have ih := ih (by omega)
      have h2 : (decide (k < W) && (s ||| 2 ^ ((at' + j) % W)).testBit ((at' + k) % W)) = (decide (k < W) && s.testBit ((at' + k) % W)) := by
        by_cases hkW : k < W
        · have h2 : ¬ (at' + j) % W = (at' + k) % W := by
            intro e2
            have := Nat.sub_mod_eq_zero_of_mod_eq e2.symm
            rw [show at' + k - (at' + j) = k - j by omega, Nat.mod_eq_of_lt (by omega)] at this
            omega
          simp [Nat.testBit_or, Nat.testBit_two_pow, h2]
        · simp [hkW]
      rw [h2]
      omega
/-- The most that a state may weigh. -/
def potW (W : Nat) (f : Nat → Nat → Bool) (k at' s : Nat) : Nat := 2 ^ (uncS W f k at' s / 2)
theorem step_pot {W H : Nat} {f : Nat → Nat → Bool} (hW : 1 ≤ W) {k at' s : Nat} (hk : at' + (k + 1) = W * H) : stepW W H f at' (potW W f k (at' + 1)) s ≤ potW W f (k + 1) at' s := by
  have hx : at' % W < W := Nat.mod_lt _ hW
  have hsucc := uncS_succ W f hW k at' s
  unfold stepW potW
  simp only
  by_cases h1 : (s.testBit (at' % W) || !f (at' % W) (at' / W)) = true
  · rw [if_pos h1]
    have h0 : (f (at' % W) (at' / W) && !s.testBit (at' % W)) = false := by
      revert h1
      cases f (at' % W) (at' / W) <;> cases s.testBit (at' % W) <;> simp
    rw [h0] at hsucc
    simp only [Bool.false_eq_true, if_false, Nat.zero_add] at hsucc
    rw [hsucc]
    split
    · exact Nat.le_refl _
    · exact Nat.zero_le _
  · rw [if_neg h1]
    have h0 : (f (at' % W) (at' / W) && !s.testBit (at' % W)) = true := by
      revert h1
      cases f (at' % W) (at' / W) <;> cases s.testBit (at' % W) <;> simp
    rw [h0, if_pos rfl] at hsucc
    obtain ⟨u, hu⟩ : ∃ u, u = uncS W f (k + 1) at' s := ⟨_, rfl⟩
    rw [← hu] at hsucc ⊢
    have hD : (if f (at' % W) (at' / W + 1) && decide (at' / W + 1 < H) then 2 ^ (uncS W f k (at' + 1) (offB s (at' % W) ||| 2 ^ (at' % W)) / 2) else 0) * 2 ≤ 2 ^ (u / 2) := by
      by_cases hq : (f (at' % W) (at' / W + 1) && decide (at' / W + 1 < H)) = true
      · rw [if_pos hq]
        simp only [Bool.and_eq_true, decide_eq_true_eq] at hq
        have e1 : (at' + 1 + (W - 1)) % W = at' % W := by rw [show at' + 1 + (W - 1) = at' + W by omega, Nat.add_mod_right]
        have e2 : (at' + 1 + (W - 1)) / W = at' / W + 1 := by rw [show at' + 1 + (W - 1) = at' + W by omega, Nat.add_div_right _ hW]
        have h3 : W - 1 < k := by
          have d1 := Nat.div_add_mod at' W
          have h4 : W * (at' / W + 2) ≤ W * H := Nat.mul_le_mul_left _ (by omega)
          rw [Nat.mul_add] at h4
          omega
        have := uncS_on (W := W) (f := f) (k := k) (at' := at' + 1) (s := offB s (at' % W)) (j := W - 1) (by omega) h3 (by rw [e1, e2]; exact hq.1) (by rw [e1, offB_bit]; simp)
        rw [e1] at this
        rw [← Nat.pow_succ]
        exact Nat.pow_le_pow_right (by omega) (by omega)
      · rw [if_neg hq, Nat.zero_mul]; exact Nat.zero_le _
    have hR : (if f (at' % W + 1) (at' / W) && (decide (at' % W + 1 < W) && !s.testBit (at' % W + 1)) then 2 ^ (uncS W f k (at' + 1) (offB s (at' % W) ||| 2 ^ (at' % W + 1)) / 2) else 0) * 2 ≤ 2 ^ (u / 2) := by
      by_cases hq : (f (at' % W + 1) (at' / W) && (decide (at' % W + 1 < W) && !s.testBit (at' % W + 1))) = true
      · rw [if_pos hq]
        simp only [Bool.and_eq_true, decide_eq_true_eq, Bool.not_eq_true'] at hq
        have d1 := Nat.div_add_mod at' W
        have e0 : at' + 1 + 0 = W * (at' / W) + (at' % W + 1) := by omega
        have e1 : (at' + 1 + 0) % W = at' % W + 1 := by rw [e0, Nat.mul_add_mod, Nat.mod_eq_of_lt hq.2.1]
        have e2 : (at' + 1 + 0) / W = at' / W := by rw [e0, Nat.mul_add_div hW, Nat.div_eq_of_lt hq.2.1, Nat.add_zero]
        have h3 : 0 < k := by
          have h5 : at' / W < H := by
            rw [Nat.div_lt_iff_lt_mul hW, Nat.mul_comm]; omega
          have h4 : W * (at' / W + 1) ≤ W * H := Nat.mul_le_mul_left _ (by omega)
          rw [Nat.mul_add] at h4
          omega
        have := uncS_on (W := W) (f := f) (k := k) (at' := at' + 1) (s := offB s (at' % W)) (j := 0) (by omega) h3 (by rw [e1, e2]; exact hq.1) (by rw [e1, offB_bit, hq.2.2]; simp)
        rw [e1] at this
        rw [← Nat.pow_succ]
        exact Nat.pow_le_pow_right (by omega) (by omega)
      · rw [if_neg hq, Nat.zero_mul]; exact Nat.zero_le _
    omega
theorem potW_pos (W : Nat) (f : Nat → Nat → Bool) (k at' s : Nat) : 1 ≤ potW W f k at' s := Nat.one_le_two_pow
theorem potW_zero {W H : Nat} {f : Nat → Nat → Bool} (hW8 : W ≤ 8) (hH8 : H ≤ 8) : potW W f (W * H) 0 0 ≤ 4294967296 := by
  unfold potW uncS
  have h1 := List.countP_le_length (p := fun i => f ((0 + i) % W) ((0 + i) / W) && !(decide (i < W) && (0 : Nat).testBit ((0 + i) % W))) (l := List.range (W * H))
  rw [List.length_range] at h1
  have h2 : W * H ≤ 64 := Nat.mul_le_mul hW8 hH8
  exact Nat.le_trans (Nat.pow_le_pow_right (by omega) (show _ ≤ 32 by omega)) (by decide)
end Go.Proofs.YtcdhimnmbpllgaaDoor

namespace Go.Proofs.YtcdhimnmbpllgaaDoor
set_option linter.unusedVariables false
set_option linter.unusedSimpArgs false

theorem addL_zero {l : List Nat} {i : Nat} : addL l i 0 = l := by
  unfold addL
  apply List.ext_getElem?
  intro j
  rw [List.getElem?_set]
  by_cases h : i = j
  · subst h
    rw [if_pos rfl]
    by_cases h2 : i < l.length
    · rw [if_pos h2, List.getD_eq_getElem?_getD, List.getElem?_eq_getElem h2]; rfl
    · rw [if_neg h2, List.getElem?_eq_none (by omega)]
  · rw [if_neg h]
theorem updW_zero {W H : Nat} {f : Nat → Nat → Bool} {at' s : Nat} {l : List Nat} : updW W H f at' l 0 s = l := by
  unfold updW
  simp only [addL_zero, ite_self]
/-- The next list, when the first j states are done. -/
def nextW (W H : Nat) (f : Nat → Nat → Bool) (at' : Nat) (l : List Nat) : Nat → List Nat
  | 0 => List.replicate (2 ^ W) 0
  | j + 1 => updW W H f at' (nextW W H f at' l j) (l.getD j 0) j
theorem nextW_dot {W H : Nat} {f : Nat → Nat → Bool} {at' : Nat} {l : List Nat} (hW : 1 ≤ W) : ∀ j, j ≤ 2 ^ W → (nextW W H f at' l j).length = 2 ^ W ∧ ∀ g, dotN (nextW W H f at' l j) g (2 ^ W) = dotN l (stepW W H f at' g) j
  | 0, _ => ⟨List.length_replicate, fun g => dotN_zero g _ _⟩
  | j + 1, h => by
    obtain ⟨h1, h2⟩ := nextW_dot hW j (by omega)
    refine ⟨(updW_dot (fun _ => 0) hW h1 (by omega)).1, fun g => ?_⟩
    have := (updW_dot (W := W) (H := H) (f := f) (at' := at') (v := l.getD j 0) (s := j) g hW h1 (by omega)).2
    show dotN (updW W H f at' (nextW W H f at' l j) (l.getD j 0) j) g (2 ^ W) = _
    rw [this, h2 g]
    rfl
theorem dotN_le {l : List Nat} {g : Nat → Nat} {i j : Nat} (h : i ≤ j) : dotN l g i ≤ dotN l g j := by
  induction j with
  | zero => have : i = 0 := by omega
            subst this; exact Nat.le_refl _
  | succ j ih =>
    by_cases e : i = j + 1
    · subst e; exact Nat.le_refl _
    · exact Nat.le_trans (ih (by omega)) (by show _ ≤ dotN l g j + _; omega)
/-- What holds of the list at a cell. -/
structure WayI (W H : Nat) (f : Nat → Nat → Bool) (k at' : Nat) (l : List Nat) (N : Nat) : Prop where
  len : l.length = 2 ^ W
  sum : dotN l (gF W H f k at') (2 ^ W) = N
  pot : dotN l (potW W f k at') (2 ^ W) ≤ 4294967296
theorem WayI.small {W H : Nat} {f : Nat → Nat → Bool} {k at' N : Nat} {l : List Nat} (h : WayI W H f k at' l N) {i : Nat} (hi : i < 2 ^ W) : l.getD i 0 ≤ 4294967296 := by
  have h1 := dotN_get (l := l) (g := potW W f k at') (2 ^ W) hi
  have h2 := Nat.le_mul_of_pos_right (l.getD i 0) (potW_pos W f k at' i)
  have := h.pot
  omega
theorem WayI.next {W H : Nat} {f : Nat → Nat → Bool} {k at' N : Nat} {l : List Nat} (hW : 1 ≤ W) (hk : at' + (k + 1) = W * H) (h : WayI W H f (k + 1) at' l N) : WayI W H f k (at' + 1) (nextW W H f at' l (2 ^ W)) N := by
  obtain ⟨h1, h2⟩ := nextW_dot (W := W) (H := H) (f := f) (at' := at') (l := l) hW (2 ^ W) (Nat.le_refl _)
  refine ⟨h1, ?_, ?_⟩
  · rw [h2]; exact h.sum
  · rw [h2]
    exact Nat.le_trans (dotN_mono _ fun i _ => step_pot hW hk) h.pot
theorem nextW_small {W H : Nat} {f : Nat → Nat → Bool} {k at' N j : Nat} {l : List Nat} (hW : 1 ≤ W) (hk : at' + (k + 1) = W * H) (h : WayI W H f (k + 1) at' l N) (hj : j ≤ 2 ^ W) {i : Nat} (hi : i < 2 ^ W) : (nextW W H f at' l j).getD i 0 ≤ 4294967296 := by
  obtain ⟨h1, h2⟩ := nextW_dot (W := W) (H := H) (f := f) (at' := at') (l := l) hW j hj
  have h3 := dotN_get (l := nextW W H f at' l j) (g := potW W f k (at' + 1)) (2 ^ W) hi
  have h4 := Nat.le_mul_of_pos_right ((nextW W H f at' l j).getD i 0) (potW_pos W f k (at' + 1) i)
  rw [h2] at h3
  have h5 : dotN l (stepW W H f at' (potW W f k (at' + 1))) j ≤ dotN l (potW W f (k + 1) at') j := dotN_mono _ fun i _ => step_pot hW hk
  have h6 : dotN l (potW W f (k + 1) at') j ≤ dotN l (potW W f (k + 1) at') (2 ^ W) := dotN_le hj
  have := h.pot
  omega
theorem WayI.first {W H : Nat} {f : Nat → Nat → Bool} (hW8 : W ≤ 8) (hH8 : H ≤ 8) : WayI W H f (W * H) 0 ((List.replicate (2 ^ W) 0).set 0 1) (gF W H f (W * H) 0 0) := by
  have hp : 0 < 2 ^ W := Nat.two_pow_pos W
  have e : (List.replicate (2 ^ W) 0).set 0 1 = addL (List.replicate (2 ^ W) 0) 0 1 := by
    unfold addL
    rw [List.getD_eq_getElem?_getD, List.getElem?_replicate, if_pos hp]; rfl
  have hd : ∀ g, dotN ((List.replicate (2 ^ W) 0).set 0 1) g (2 ^ W) = g 0 := fun g => by
    rw [e, addL_dot g List.length_replicate hp, dotN_zero]; omega
  exact ⟨by rw [List.length_set, List.length_replicate], hd _, by rw [hd]; exact potW_zero hW8 hH8⟩
theorem WayI.last {W H : Nat} {f : Nat → Nat → Bool} {at' N : Nat} {l : List Nat} (h : WayI W H f 0 at' l N) : l.getD 0 0 = N := by
  have hp : 0 < 2 ^ W := Nat.two_pow_pos W
  have h0 : ∀ j, 0 < j → dotN l (gF W H f 0 at') j = l.getD 0 0 := by
    intro j
    induction j with
    | zero => intro h; omega
    | succ j ih =>
      intro _
      by_cases e : j = 0
      · subst e; simp [dotN, gF]
      · show dotN l (gF W H f 0 at') j + l.getD j 0 * gF W H f 0 at' j = _
        rw [ih (by omega)]
        simp [gF, e]
  rw [← h.sum, h0 _ hp]
theorem addL_le {l : List Nat} {i j v : Nat} : (addL l i v).getD j 0 ≤ l.getD j 0 + v := by
  unfold addL
  rw [List.getD_eq_getElem?_getD, List.getElem?_set]
  by_cases h : i = j
  · subst h
    rw [if_pos rfl]
    by_cases h2 : i < l.length
    · rw [if_pos h2]; exact Nat.le_refl _
    · rw [if_neg h2]; exact Nat.zero_le _
  · rw [if_neg h, ← List.getD_eq_getElem?_getD]; omega
theorem ways_cnt {W H : Nat} {f : Nat → Nat → Bool} (hW : 1 ≤ W) (hin : ∀ x y, f x y = true → x < W ∧ y < H) : gF W H f (W * H) 0 0 = cntF W f (W * H) 0 0 :=
  gF_cnt hW hin _ _ _ _ (Nat.zero_add _) ⟨Nat.two_pow_pos W, Nat.two_pow_pos W, fun i _ => by rw [Nat.zero_testBit, Nat.zero_testBit], fun i _ h => by rw [Nat.zero_testBit] at h; exact absurd h (by decide)⟩
end Go.Proofs.YtcdhimnmbpllgaaDoor

namespace Go.Proofs.YtcdhimnmbpllgaaDoor
open Go.RowKit
set_option linter.unusedVariables false
set_option linter.unusedSimpArgs false

theorem andNot_i64 (s x : Nat) (hs : s < 4294967296) (hx : x < 32) : bits .andNot .i64 (s : Int) ((2 ^ x : Nat) : Int) = ((offB s x : Nat) : Int) := by
  have hp : 2 ^ x < 2 ^ 32 := Nat.pow_lt_pow_right (by omega) hx
  have h1 : (BitVec.ofInt 64 (s : Int)).toNat = s := by
    rw [BitVec.ofInt_natCast, BitVec.toNat_ofNat]; exact Nat.mod_eq_of_lt (by omega)
  have h2 : (BitVec.ofInt 64 ((2 ^ x : Nat) : Int)).toNat = 2 ^ x := by
    rw [BitVec.ofInt_natCast, BitVec.toNat_ofNat]; exact Nat.mod_eq_of_lt (by omega)
  have h3 : (BitVec.ofInt 64 (s : Int) &&& ~~~ BitVec.ofInt 64 ((2 ^ x : Nat) : Int)).toNat = offB s x := by
    apply Nat.eq_of_testBit_eq
    intro i
    rw [offB_bit, BitVec.testBit_toNat, BitVec.getLsbD_and, BitVec.getLsbD_not, ← BitVec.testBit_toNat, ← BitVec.testBit_toNat, h1, h2, Nat.testBit_two_pow]
    by_cases h : i < 64
    · by_cases e : x = i
      · subst e; simp
      · simp [h, e, Ne.symm e]
    · have : s.testBit i = false := Nat.testBit_lt_two_pow (Nat.lt_of_lt_of_le (show s < 2 ^ 32 from hs) (Nat.pow_le_pow_right (by omega) (show 32 ≤ i by omega)))
      simp [this]
  have h4 : offB s x < 2 ^ 32 := offB_lt hs hx
  show IntKind.i64.wrap ((BitVec.ofInt 64 (s : Int) &&& ~~~ BitVec.ofInt 64 ((2 ^ x : Nat) : Int)).toNat : Int) = _
  rw [h3, IntKind.wrap_i64]
  omega
theorem shr_bit (s x : Nat) : s / 2 ^ x % 2 = if s.testBit x then 1 else 0 := by
  rw [Nat.testBit_eq_decide_div_mod_eq]
  rcases Nat.mod_two_eq_zero_or_one (s / 2 ^ x) with h | h <;> simp [h]
end Go.Proofs.YtcdhimnmbpllgaaDoor

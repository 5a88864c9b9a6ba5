/-
  Plain: Burnside's lemma for a short list of moves. Plain: how many colourings a symmetry leaves as they are. Plain: colourings as numbers, moved by a permutation of the cells; its cycles. Plain: the cells of one period, moved by the symmetries. Plain: Burnside's count for a pattern. The walks of the number of a cell, and of cells. The walk of cells. Plain: what the walk of cycles needs. Owned flags. The walk of cycles. The walk of Colourings. The walk of Colourings, its main case. Owned numbers; what taken computes. The walk of taken.
-/
import Derived.Test.YteibbnmlmbhkpaaDoorGPlain
namespace Go.Proofs.YteibbnmlmbhkpaaDoor
set_option linter.unusedVariables false

def sumL {α : Type} (f : α → Nat) : List α → Nat
  | [] => 0
  | x :: l => f x + sumL f l
theorem sumL_congr {α : Type} {f g : α → Nat} : ∀ {l : List α}, (∀ x ∈ l, f x = g x) → sumL f l = sumL g l
  | [], _ => rfl
  | x :: l, h => by
    unfold sumL
    rw [h x (by simp), sumL_congr (fun y hy => h y (by simp [hy]))]
theorem sumL_const {α : Type} (c : Nat) : ∀ l : List α, sumL (fun _ => c) l = l.length * c
  | [] => by simp [sumL]
  | x :: l => by
    unfold sumL
    rw [sumL_const c l, List.length_cons, Nat.add_mul]
    omega
theorem sumL_zero {α : Type} : ∀ l : List α, sumL (fun _ => 0) l = 0
  | [] => rfl
  | x :: l => by unfold sumL; rw [sumL_zero l]
theorem sumL_add {α : Type} (f g : α → Nat) : ∀ l : List α, sumL (fun x => f x + g x) l = sumL f l + sumL g l
  | [] => rfl
  | x :: l => by
    unfold sumL
    rw [sumL_add f g l]; omega
theorem countP_sum {α : Type} (q : α → Bool) : ∀ l : List α, l.countP q = sumL (fun y => if q y = true then 1 else 0) l
  | [] => rfl
  | x :: l => by
    unfold sumL
    rw [List.countP_cons, countP_sum q l]; omega
theorem sum_comm {α β : Type} (P : α → β → Bool) (m : List β) : ∀ l : List α, sumL (fun x => m.countP (P x)) l = sumL (fun y => l.countP (fun x => P x y)) m
  | [] => by simp [sumL, sumL_zero]
  | x :: l => by
    show m.countP (P x) + sumL (fun x => m.countP (P x)) l = _
    rw [sum_comm P m l, countP_sum (P x) m, ← sumL_add]
    apply sumL_congr
    intro y _
    rw [List.countP_cons]; omega
theorem map_nodup {f : Nat → Nat} {l : List Nat} (hn : l.Nodup) (hf : ∀ x ∈ l, ∀ y ∈ l, f x = f y → x = y) : (l.map f).Nodup := by
  unfold List.Nodup
  rw [List.pairwise_map]
  exact hn.imp_of_mem fun {a b} ha hb h he => h (hf a ha b hb he)
theorem countP_le_of {L L' : List Nat} (hn : L.Nodup) {P Q : Nat → Bool} {f g : Nat → Nat} (hf : ∀ x ∈ L, P x = true → f x ∈ L' ∧ Q (f x) = true ∧ g (f x) = x) : L.countP P ≤ L'.countP Q := by
  rw [List.countP_eq_length_filter, List.countP_eq_length_filter, ← List.length_map f]
  have hn' : (L.filter P).Nodup := List.Pairwise.filter P hn
  refine List.Nodup.length_le_of_subset (map_nodup hn' fun x hx y hy he => ?_) fun y hy => ?_
  · rw [List.mem_filter] at hx hy
    rw [← (hf x hx.1 hx.2).2.2, ← (hf y hy.1 hy.2).2.2, he]
  · obtain ⟨x, hx, rfl⟩ := List.mem_map.1 hy
    rw [List.mem_filter] at hx
    have := hf x hx.1 hx.2
    exact List.mem_filter.2 ⟨this.1, this.2.1⟩
theorem countP_bij {L : List Nat} (hn : L.Nodup) {P Q : Nat → Bool} {f g : Nat → Nat} (hf : ∀ x ∈ L, P x = true → f x ∈ L ∧ Q (f x) = true ∧ g (f x) = x) (hg : ∀ y ∈ L, Q y = true → g y ∈ L ∧ P (g y) = true ∧ f (g y) = y) : L.countP P = L.countP Q :=
  Nat.le_antisymm (countP_le_of hn hf) (countP_le_of hn hg)
/-- Kinds that act on the numbers below M. -/
structure Acts (K : List Nat) (M : Nat) (act : Nat → Nat → Nat) : Prop where
  nd : K.Nodup
  k8 : ∀ k ∈ K, k < 8
  one : 0 ∈ K
  mul : ∀ a ∈ K, ∀ b ∈ K, cmpK a b ∈ K
  inv : ∀ a ∈ K, invK a ∈ K
  lt : ∀ k ∈ K, ∀ x, x < M → act k x < M
  comp : ∀ a ∈ K, ∀ b ∈ K, ∀ x, x < M → act (cmpK a b) x = act a (act b x)
  id : ∀ x, x < M → act 0 x = x
theorem cmpK_inv {k h : Nat} (hk : k < 8) (hh : h < 8) : cmpK (cmpK k h) (invK h) = k ∧ cmpK (cmpK k (invK h)) h = k ∧ cmpK (invK h) h = 0 := by
  rcases k8_cases hk with rfl | rfl | rfl | rfl | rfl | rfl | rfl | rfl <;> rcases k8_cases hh with rfl | rfl | rfl | rfl | rfl | rfl | rfl | rfl <;> decide
theorem least_of (f : Nat → Nat) : ∀ (K : List Nat), K ≠ [] → ∃ h ∈ K, ∀ k ∈ K, f h ≤ f k
  | [], h => absurd rfl h
  | [a], _ => ⟨a, by simp, fun k hk => by rw [List.mem_singleton.1 hk]; exact Nat.le_refl _⟩
  | a :: b :: l, _ => by
    obtain ⟨h, hm, hl⟩ := least_of f (b :: l) (by simp)
    rcases Nat.le_total (f a) (f h) with hc | hc
    · exact ⟨a, by simp, fun k hk => by
        rcases List.mem_cons.1 hk with rfl | hk
        · exact Nat.le_refl _
        · exact Nat.le_trans hc (hl k hk)⟩
    · exact ⟨h, List.mem_cons_of_mem _ hm, fun k hk => by
        rcases List.mem_cons.1 hk with rfl | hk
        · exact hc
        · exact hl k hk⟩
def leastB (K : List Nat) (act : Nat → Nat → Nat) (x : Nat) : Bool := K.all fun k => decide (x ≤ act k x)
theorem leastB_iff {K : List Nat} {act : Nat → Nat → Nat} {x : Nat} : leastB K act x = true ↔ ∀ k ∈ K, x ≤ act k x := by
  unfold leastB
  rw [List.all_eq_true]
  exact ⟨fun h k hk => of_decide_eq_true (h k hk), fun h k hk => decide_eq_true (h k hk)⟩
/-- Burnside's lemma. -/
theorem burnside {K : List Nat} {M : Nat} {act : Nat → Nat → Nat} (h : Acts K M act) :
    sumL (fun k => (List.range M).countP (fun x => act k x == x)) K = K.length * (List.range M).countP (leastB K act) := by
  have hch : ∀ x, ∃ g, g ∈ K ∧ ∀ k ∈ K, act g x ≤ act k x := fun x => by
    obtain ⟨g, h1, h2⟩ := least_of (fun k => act k x) K (List.ne_nil_of_mem h.one)
    exact ⟨g, h1, h2⟩
  obtain ⟨g, hg⟩ := Classical.axiomOfChoice hch
  obtain ⟨mn, hmn⟩ : ∃ mn : Nat → Nat, mn = fun x => act (g x) x := ⟨_, rfl⟩
  have mlt : ∀ x, x < M → mn x < M := fun x hx => by rw [hmn]; exact h.lt _ (hg x).1 x hx
  have mle : ∀ x, x < M → leastB K act (mn x) = true := fun x hx => leastB_iff.2 fun k hk => by
    rw [hmn]
    show act (g x) x ≤ act k (act (g x) x)
    rw [← h.comp k hk _ (hg x).1 x hx]
    exact (hg x).2 _ (h.mul k hk _ (hg x).1)
  have mact : ∀ k ∈ K, ∀ y, y < M → leastB K act y = true → mn (act k y) = y := fun k hk y hy hl => by
    have hl' := leastB_iff.1 hl
    rw [hmn]
    show act (g (act k y)) (act k y) = y
    have h1 := (hg (act k y)).2 _ (h.inv k hk)
    rw [← h.comp _ (h.inv k hk) k hk y hy, (cmpK_inv (h.k8 k hk) (h.k8 k hk)).2.2, h.id y hy] at h1
    have h2 := hl' _ (h.mul _ (hg (act k y)).1 k hk)
    rw [h.comp _ (hg (act k y)).1 k hk y hy] at h2
    omega
  rw [sum_comm (fun k x => act k x == x) (List.range M) K]
  have e1 : sumL (fun x => K.countP (fun k => act k x == x)) (List.range M) = sumL (fun x => K.countP (fun k => act k (mn x) == x)) (List.range M) := by
    apply sumL_congr
    intro x hx
    rw [List.mem_range] at hx
    have hgx := (hg x).1
    have hg8 := h.k8 _ hgx
    refine countP_bij h.nd (f := fun k => cmpK k (invK (g x))) (g := fun k => cmpK k (g x)) (fun k hk hp => ?_) (fun k hk hp => ?_)
    · refine ⟨h.mul k hk _ (h.inv _ hgx), ?_, (cmpK_inv (h.k8 k hk) hg8).2.1⟩
      have e : act (cmpK k (invK (g x))) (act (g x) x) = act k x := by
        rw [← h.comp _ (h.mul k hk _ (h.inv _ hgx)) _ hgx x hx, (cmpK_inv (h.k8 k hk) hg8).2.1]
      rw [hmn]
      show (act (cmpK k (invK (g x))) (act (g x) x) == x) = true
      rw [e]; exact hp
    · refine ⟨h.mul k hk _ hgx, ?_, (cmpK_inv (h.k8 k hk) hg8).1⟩
      show (act (cmpK k (g x)) x == x) = true
      rw [h.comp k hk _ hgx x hx]
      rw [hmn] at hp
      exact hp
  rw [e1, sum_comm (fun x k => act k (mn x) == x) K (List.range M), ← sumL_const]
  apply sumL_congr
  intro k hk
  refine countP_bij List.nodup_range (f := mn) (g := act k) (fun x hx hp => ?_) (fun y hy hl => ?_)
  · rw [List.mem_range] at hx
    exact ⟨List.mem_range.2 (mlt x hx), mle x hx, beq_iff_eq.1 hp⟩
  · rw [List.mem_range] at hy
    refine ⟨List.mem_range.2 (h.lt k hk y hy), ?_, mact k hk y hy hl⟩
    rw [mact k hk y hy hl]; exact beq_self_eq_true _
end Go.Proofs.YteibbnmlmbhkpaaDoor

namespace Go.Proofs.YteibbnmlmbhkpaaDoor
set_option linter.unusedVariables false

/-- A digit of a number. -/
def dig (k i x : Nat) : Nat := x / k ^ i % k
theorem dig_lt {k : Nat} (hk : 1 ≤ k) (i x : Nat) : dig k i x < k := Nat.mod_lt _ (by omega)
theorem dig_low {k : Nat} (hk : 1 ≤ k) {n i x d : Nat} (hi : i < n) : dig k i (x + d * k ^ n) = dig k i x := by
  unfold dig
  have hp : 0 < k ^ i := Nat.pow_pos (by omega)
  obtain ⟨j, hj⟩ : ∃ j, n = i + (j + 1) := ⟨n - i - 1, by omega⟩
  rw [hj, Nat.pow_add, show d * (k ^ i * k ^ (j + 1)) = k ^ i * (d * k ^ (j + 1)) by rw [Nat.mul_left_comm], Nat.add_mul_div_left _ _ hp, Nat.pow_succ, show d * (k ^ j * k) = k * (d * k ^ j) by rw [← Nat.mul_assoc, Nat.mul_comm], Nat.add_mul_mod_self_left]
theorem dig_top {k : Nat} (hk : 1 ≤ k) {n x d : Nat} (hx : x < k ^ n) (hd : d < k) : dig k n (x + d * k ^ n) = d := by
  unfold dig
  have hp : 0 < k ^ n := Nat.pow_pos (by omega)
  rw [Nat.mul_comm d, Nat.add_mul_div_left _ _ hp, Nat.div_eq_of_lt hx, Nat.zero_add, Nat.mod_eq_of_lt hd]
theorem sumL_append {α : Type} (f : α → Nat) : ∀ l m : List α, sumL f (l ++ m) = sumL f l + sumL f m
  | [], m => by simp [sumL]
  | x :: l, m => by
    rw [List.cons_append]
    show f x + sumL f (l ++ m) = f x + sumL f l + sumL f m
    rw [sumL_append f l m]; omega
theorem sumL_succ (f : Nat → Nat) (n : Nat) : sumL f (List.range (n + 1)) = sumL f (List.range n) + f n := by
  rw [List.range_succ, sumL_append]; rfl
theorem range_mul (P : Nat → Bool) (m : Nat) : ∀ k : Nat, (List.range (m * k)).countP P = sumL (fun d => (List.range m).countP (fun x => P (x + d * m))) (List.range k)
  | 0 => rfl
  | k + 1 => by
    rw [Nat.mul_succ, List.range_add, List.countP_append, range_mul P m k, sumL_succ, List.countP_map]
    congr 1
    apply List.countP_congr
    intro x _
    simp only [Function.comp]
    rw [show m * k + x = x + k * m by rw [Nat.mul_comm]; omega]
theorem count_one {c : Nat} : ∀ {k : Nat}, c < k → (List.range k).countP (fun d => d == c) = 1
  | 0, h => absurd h (Nat.not_lt_zero _)
  | k + 1, h => by
    rw [List.range_succ, List.countP_append]
    by_cases hc : c = k
    · subst hc
      have : (List.range c).countP (fun d => d == c) = 0 := by
        rw [List.countP_eq_zero]
        intro d hd
        rw [List.mem_range] at hd
        simp; omega
      rw [this]; simp
    · rw [count_one (k := k) (by omega)]
      simp; omega
/-- Is a colouring the same over each class? -/
def sameB (k : Nat) (r : Nat → Nat) (n x : Nat) : Bool := (List.range n).all fun i => dig k i x == dig k (r i) x
theorem fixed_count {k : Nat} (hk : 1 ≤ k) (r : Nat → Nat) : ∀ n : Nat, (∀ i, i < n → r i ≤ i) → (List.range (k ^ n)).countP (sameB k r n) = k ^ (List.range n).countP (fun i => r i == i)
  | 0, _ => by simp [sameB, List.range_succ]
  | n + 1, hr => by
    have ih := fixed_count hk r n fun i hi => hr i (by omega)
    rw [Nat.pow_succ, range_mul]
    have hlow : ∀ d x, d < k → x < k ^ n → sameB k r (n + 1) (x + d * k ^ n) = (sameB k r n x && (d == dig k (r n) (x + d * k ^ n))) := fun d x hd hx => by
      unfold sameB
      rw [all_range_succ, dig_top hk hx hd]
      congr 1
      rw [Bool.eq_iff_iff, List.all_eq_true, List.all_eq_true]
      have : ∀ i ∈ List.range n, (dig k i (x + d * k ^ n) == dig k (r i) (x + d * k ^ n)) = (dig k i x == dig k (r i) x) := fun i hi => by
        rw [List.mem_range] at hi
        have := hr i (by omega)
        rw [dig_low hk hi, dig_low hk (by omega)]
      exact ⟨fun h i hi => by rw [← this i hi]; exact h i hi, fun h i hi => by rw [this i hi]; exact h i hi⟩
    rw [List.range_succ (n := n), List.countP_append]
    by_cases hn : r n = n
    · have h1 : ∀ d ∈ List.range k, (List.range (k ^ n)).countP (fun x => sameB k r (n + 1) (x + d * k ^ n)) = k ^ (List.range n).countP (fun i => r i == i) := fun d hd => by
        rw [List.mem_range] at hd
        rw [← ih]
        apply List.countP_congr
        intro x hx
        rw [List.mem_range] at hx
        rw [hlow d x hd hx, hn, dig_top hk hx hd]
        simp
      rw [sumL_congr h1, sumL_const, List.length_range]
      simp [hn, Nat.pow_succ, Nat.mul_comm]
    · have hlt : r n < n := by have := hr n (by omega); omega
      have h1 : ∀ d ∈ List.range k, (List.range (k ^ n)).countP (fun x => sameB k r (n + 1) (x + d * k ^ n)) = (List.range (k ^ n)).countP (fun x => sameB k r n x && (d == dig k (r n) x)) := fun d hd => by
        rw [List.mem_range] at hd
        apply List.countP_congr
        intro x hx
        rw [List.mem_range] at hx
        rw [hlow d x hd hx, dig_low hk hlt]
      rw [sumL_congr h1, sum_comm (fun d x => sameB k r n x && (d == dig k (r n) x)) (List.range (k ^ n)) (List.range k)]
      have h2 : ∀ x ∈ List.range (k ^ n), (List.range k).countP (fun d => sameB k r n x && (d == dig k (r n) x)) = if sameB k r n x = true then 1 else 0 := fun x _ => by
        cases hf : sameB k r n x with
        | true => simp only [Bool.true_and, if_true]; exact count_one (dig_lt hk _ _)
        | false => simp
      rw [sumL_congr h2, ← countP_sum, ih]
      simp [hn]
end Go.Proofs.YteibbnmlmbhkpaaDoor

namespace Go.Proofs.YteibbnmlmbhkpaaDoor
set_option linter.unusedVariables false

/-- The number with given digits. -/
def valD (k : Nat) (c : Nat → Nat) : Nat → Nat
  | 0 => 0
  | n + 1 => valD k c n + c n * k ^ n
theorem valD_lt {k : Nat} (hk : 1 ≤ k) {c : Nat → Nat} : ∀ {n : Nat}, (∀ i, i < n → c i < k) → valD k c n < k ^ n
  | 0, _ => by simp [valD]
  | n + 1, h => by
    have ih := valD_lt hk (n := n) fun i hi => h i (by omega)
    have h1 : c n + 1 ≤ k := h n (by omega)
    have h2 := Nat.mul_le_mul_right (k ^ n) h1
    rw [Nat.add_mul, Nat.one_mul] at h2
    show valD k c n + c n * k ^ n < k ^ (n + 1)
    rw [Nat.pow_succ, Nat.mul_comm (k ^ n)]
    omega
theorem dig_valD {k : Nat} (hk : 1 ≤ k) {c : Nat → Nat} : ∀ {n i : Nat}, (∀ i, i < n → c i < k) → i < n → dig k i (valD k c n) = c i
  | 0, i, _, hi => absurd hi (Nat.not_lt_zero _)
  | n + 1, i, h, hi => by
    show dig k i (valD k c n + c n * k ^ n) = c i
    by_cases hin : i = n
    · subst hin
      exact dig_top hk (valD_lt hk fun j hj => h j (by omega)) (h i (by omega))
    · rw [dig_low hk (by omega)]
      exact dig_valD hk (fun j hj => h j (by omega)) (by omega)
theorem dig_ext {k : Nat} (hk : 1 ≤ k) : ∀ {n x y : Nat}, x < k ^ n → y < k ^ n → (∀ i, i < n → dig k i x = dig k i y) → x = y
  | 0, x, y, hx, hy, _ => by rw [Nat.pow_zero] at hx hy; omega
  | n + 1, x, y, hx, hy, h => by
    have hp : 0 < k ^ n := Nat.pow_pos (by omega)
    have e : ∀ z, z = z % k ^ n + z / k ^ n * k ^ n := fun z => by rw [Nat.mul_comm]; exact (Nat.mod_add_div z _).symm
    have hd : ∀ z, z < k ^ (n + 1) → z / k ^ n < k := fun z hz => by
      rw [Nat.div_lt_iff_lt_mul hp, Nat.mul_comm]
      rwa [Nat.pow_succ] at hz
    have ht := h n (by omega)
    rw [e x, e y, dig_top hk (Nat.mod_lt _ hp) (hd x hx), dig_top hk (Nat.mod_lt _ hp) (hd y hy)] at ht
    have hl : x % k ^ n = y % k ^ n := dig_ext hk (Nat.mod_lt _ hp) (Nat.mod_lt _ hp) fun i hi => by
      have h1 := h i (by omega)
      rw [e x, e y, dig_low hk hi, dig_low hk hi] at h1
      exact h1
    rw [e x, e y, hl, ht]
/-- What a permutation of the cells makes of a colouring. -/
def Mvd (σ : Nat → Nat) (k n x y : Nat) : Prop := y < k ^ n ∧ ∀ i, i < n → dig k (σ i) y = dig k i x
/-- A permutation of n cells, and the one that undoes it. -/
structure Perm (σ τ : Nat → Nat) (n : Nat) : Prop where
  s : ∀ i, i < n → σ i < n
  t : ∀ i, i < n → τ i < n
  st : ∀ i, i < n → σ (τ i) = i
  ts : ∀ i, i < n → τ (σ i) = i
theorem Mvd.ex {σ τ : Nat → Nat} {k n : Nat} (h : Perm σ τ n) (hk : 1 ≤ k) (x : Nat) : ∃ y, Mvd σ k n x y :=
  ⟨valD k (fun j => dig k (τ j) x) n, valD_lt hk fun i _ => dig_lt hk _ _, fun i hi => by
    rw [dig_valD hk (fun i _ => dig_lt hk _ _) (h.s i hi), h.ts i hi]⟩
theorem Mvd.uniq {σ τ : Nat → Nat} {k n x y z : Nat} (h : Perm σ τ n) (hk : 1 ≤ k) (h1 : Mvd σ k n x y) (h2 : Mvd σ k n x z) : y = z :=
  dig_ext hk h1.1 h2.1 fun i hi => by
    have e := h.st i hi
    rw [← e, h1.2 _ (h.t i hi), h2.2 _ (h.t i hi)]
/-- What is come to by going round. -/
def iterN (σ : Nat → Nat) : Nat → Nat → Nat
  | 0, i => i
  | t + 1, i => σ (iterN σ t i)
theorem iterN_add (σ : Nat → Nat) (s : Nat) (i : Nat) : ∀ t, iterN σ (t + s) i = iterN σ t (iterN σ s i)
  | 0 => by rw [Nat.zero_add]; rfl
  | t + 1 => by rw [Nat.succ_add]; show σ _ = σ _; rw [iterN_add σ s i t]
def Cyc (σ : Nat → Nat) (i j : Nat) : Prop := ∃ t, iterN σ t i = j
theorem Cyc.refl (σ : Nat → Nat) (i : Nat) : Cyc σ i i := ⟨0, rfl⟩
theorem Cyc.step (σ : Nat → Nat) (i : Nat) : Cyc σ i (σ i) := ⟨1, rfl⟩
theorem Cyc.trans {σ : Nat → Nat} {i j l : Nat} (h : Cyc σ i j) (h' : Cyc σ j l) : Cyc σ i l := by
  obtain ⟨s, rfl⟩ := h
  obtain ⟨t, rfl⟩ := h'
  exact ⟨t + s, iterN_add σ s i t⟩
theorem Perm.iter_lt {σ τ : Nat → Nat} {n : Nat} (h : Perm σ τ n) {i : Nat} (hi : i < n) : ∀ t, iterN σ t i < n
  | 0 => hi
  | t + 1 => h.s _ (h.iter_lt hi t)
theorem Perm.iter_inj {σ τ : Nat → Nat} {n : Nat} (h : Perm σ τ n) {i : Nat} (hi : i < n) : ∀ s t, iterN σ (s + t) i = iterN σ s i → iterN σ t i = i
  | 0, t, he => by rwa [Nat.zero_add] at he
  | s + 1, t, he => by
    rw [Nat.succ_add] at he
    have h1 : σ (iterN σ (s + t) i) = σ (iterN σ s i) := he
    refine h.iter_inj hi s t ?_
    rw [← h.ts _ (h.iter_lt hi (s + t)), ← h.ts _ (h.iter_lt hi s), h1]
/-- One comes back. -/
theorem Perm.back {σ τ : Nat → Nat} {n : Nat} (h : Perm σ τ n) {i : Nat} (hi : i < n) : ∃ p, 0 < p ∧ iterN σ p i = i := by
  apply Classical.byContradiction
  intro hno
  have hinj : ∀ a b, a < b → iterN σ a i ≠ iterN σ b i := fun a b hab he => hno ⟨b - a, by omega, h.iter_inj hi a (b - a) (by rw [show a + (b - a) = b by omega]; exact he.symm)⟩
  have h1 : ((List.range (n + 1)).map fun t => iterN σ t i).Nodup := map_nodup List.nodup_range fun x hx y hy he => by
    rcases Nat.lt_trichotomy x y with hl | hl | hl
    · exact absurd he (hinj x y hl)
    · exact hl
    · exact absurd he.symm (hinj y x hl)
  have h2 := List.Nodup.length_le_of_subset (l₂ := List.range n) h1 fun y hy => by
    obtain ⟨t, _, rfl⟩ := List.mem_map.1 hy
    exact List.mem_range.2 (h.iter_lt hi t)
  simp at h2
  omega
theorem Perm.cyc_symm {σ τ : Nat → Nat} {n : Nat} (h : Perm σ τ n) {i j : Nat} (hi : i < n) (hc : Cyc σ i j) : Cyc σ j i := by
  obtain ⟨t, rfl⟩ := hc
  obtain ⟨p, hp, hb⟩ := h.back hi
  have hm : ∀ q, iterN σ (q * p) i = i := fun q => by
    induction q with
    | zero => rw [Nat.zero_mul]; rfl
    | succ q ih => rw [Nat.succ_mul, iterN_add, hb, ih]
  have h1 : t ≤ (t + 1) * p := Nat.le_trans (by omega) (Nat.le_mul_of_pos_right (t + 1) hp)
  refine ⟨(t + 1) * p - t, ?_⟩
  rw [← iterN_add, show (t + 1) * p - t + t = (t + 1) * p by omega, hm]
/-- The least of each cycle. -/
structure Leasts (σ : Nat → Nat) (n : Nat) (r : Nat → Nat) : Prop where
  cyc : ∀ i, i < n → Cyc σ i (r i)
  le : ∀ i, i < n → ∀ j, Cyc σ i j → r i ≤ j
theorem Leasts.ex (σ : Nat → Nat) (n : Nat) : ∃ r, Leasts σ n r := by
  have hch : ∀ i, ∃ r, Cyc σ i r ∧ ∀ j, Cyc σ i j → r ≤ j := fun i => by
    have key : ∀ m j, j ≤ m → Cyc σ i j → ∃ r, Cyc σ i r ∧ ∀ j, Cyc σ i j → r ≤ j := fun m => by
      induction m with
      | zero => exact fun j hj hc => ⟨j, hc, fun l _ => by omega⟩
      | succ m ih =>
        intro j hj hc
        by_cases hx : ∃ l, l ≤ m ∧ Cyc σ i l
        · obtain ⟨l, hl, hcl⟩ := hx; exact ih l hl hcl
        · exact ⟨j, hc, fun l hcl => by
            have : ¬ l ≤ m := fun hl => hx ⟨l, hl, hcl⟩
            omega⟩
    exact key i i (Nat.le_refl _) (Cyc.refl σ i)
  obtain ⟨r, hr⟩ := Classical.axiomOfChoice hch
  exact ⟨r, fun i _ => (hr i).1, fun i _ => (hr i).2⟩
theorem Leasts.self {σ : Nat → Nat} {n : Nat} {r : Nat → Nat} (h : Leasts σ n r) {i : Nat} (hi : i < n) : r i ≤ i := h.le i hi i (Cyc.refl σ i)
theorem Leasts.next {σ τ : Nat → Nat} {n : Nat} {r : Nat → Nat} (h : Leasts σ n r) (hp : Perm σ τ n) {i : Nat} (hi : i < n) : r (σ i) = r i := by
  have h1 := h.le (σ i) (hp.s i hi) (r i) ((hp.cyc_symm hi (Cyc.step σ i)).trans (h.cyc i hi))
  have h2 := h.le i hi (r (σ i)) ((Cyc.step σ i).trans (h.cyc (σ i) (hp.s i hi)))
  omega
/-- A colouring that a symmetry leaves as it is has one colour on each cycle. -/
theorem fixed_iff {σ τ : Nat → Nat} {k n : Nat} {r : Nat → Nat} (hp : Perm σ τ n) (hk : 1 ≤ k) (h : Leasts σ n r) {x : Nat} (hx : x < k ^ n) : Mvd σ k n x x ↔ sameB k r n x = true := by
  unfold sameB
  rw [List.all_eq_true]
  constructor
  · intro hm i hi
    rw [List.mem_range] at hi
    have hit : ∀ t, dig k (iterN σ t i) x = dig k i x := fun t => by
      induction t with
      | zero => rfl
      | succ t ih => rw [← ih]; exact hm.2 _ (hp.iter_lt hi t)
    obtain ⟨t, ht⟩ := h.cyc i hi
    rw [← ht, hit t]; exact beq_self_eq_true _
  · intro hs
    have hs' : ∀ i, i < n → dig k i x = dig k (r i) x := fun i hi => beq_iff_eq.1 (hs i (List.mem_range.2 hi))
    exact ⟨hx, fun i hi => by rw [hs' _ (hp.s i hi), h.next hp hi, ← hs' i hi]⟩
end Go.Proofs.YteibbnmlmbhkpaaDoor

namespace Go.Proofs.YteibbnmlmbhkpaaDoor
set_option linter.unusedVariables false

/-- The number of a cell. -/
def num (g : Gd) (x y : Int) : Nat := (redX g x).toNat * g.D + (redY g x y).toNat
/-- The number of the cell to which a move takes the cell of a number. -/
def sig (g : Gd) (k : Nat) (e f : Int) (i : Nat) : Nat := num g (lX k ((i / g.D : Nat) : Int) ((i % g.D : Nat) : Int) + e) (lY k ((i / g.D : Nat) : Int) ((i % g.D : Nat) : Int) + f)
theorem red_range {g : Gd} (hA : 1 ≤ g.A) (hD : 1 ≤ g.D) (x y : Int) : (0 ≤ redX g x ∧ redX g x < g.A) ∧ (0 ≤ redY g x y ∧ redY g x y < g.D) := by
  unfold redX redY
  exact ⟨⟨Int.emod_nonneg _ (by omega), Int.emod_lt_of_pos _ (by omega)⟩, ⟨Int.emod_nonneg _ (by omega), Int.emod_lt_of_pos _ (by omega)⟩⟩
theorem num_lt {g : Gd} (hA : 1 ≤ g.A) (hD : 1 ≤ g.D) (x y : Int) : num g x y < g.A * g.D := by
  obtain ⟨⟨h1, h2⟩, h3, h4⟩ := red_range hA hD x y
  unfold num
  have h5 : (redX g x).toNat + 1 ≤ g.A := by omega
  have h6 := Nat.mul_le_mul_right g.D h5
  rw [Nat.add_mul, Nat.one_mul] at h6
  omega
theorem num_cell {g : Gd} (hA : 1 ≤ g.A) (hD : 1 ≤ g.D) (x y : Int) : ((num g x y / g.D : Nat) : Int) = redX g x ∧ ((num g x y % g.D : Nat) : Int) = redY g x y := by
  obtain ⟨⟨h1, h2⟩, h3, h4⟩ := red_range hA hD x y
  have h5 : (redY g x y).toNat < g.D := by omega
  unfold num
  constructor
  · rw [Nat.mul_comm, Nat.mul_add_div (by omega), Nat.div_eq_of_lt h5]; omega
  · rw [Nat.mul_comm, Nat.mul_add_mod, Nat.mod_eq_of_lt h5]; omega
theorem num_same {p : List ByteArray} {g : Gd} (hp : PatOk p) (h : IsLat p g) {x y x' y' : Int} (hs : Sy p 0 (x - x') (y - y')) : num g x y = num g x' y' := by
  obtain ⟨h1, h2⟩ := (h.iff hp _ _).1 hs
  have hA := h.a1
  have hD := h.d1
  obtain ⟨q, hq⟩ := Int.dvd_of_emod_eq_zero h1
  have hx : x = x' + g.A * q := by omega
  have e1 : redX g x = redX g x' := by
    unfold redX
    rw [hx, Int.add_mul_emod_self_left]
  have e2 : (x - x') / g.A = q := by rw [hq, Int.mul_ediv_cancel_left _ (by omega)]
  rw [e2] at h2
  have e3 : x / g.A = x' / g.A + q := by rw [hx, Int.add_mul_ediv_left _ _ (by omega)]
  obtain ⟨t, ht⟩ := Int.dvd_of_emod_eq_zero h2
  have e4 : redY g x y = redY g x' y' := by
    unfold redY
    rw [e3, Int.add_mul]
    have : y - (x' / g.A * g.B + q * g.B) = y' - x' / g.A * g.B + g.D * t := by omega
    rw [this, Int.add_mul_emod_self_left]
  unfold num
  rw [e1, e4]
/-- A cell and its reduced one are a translation of the lattice apart. -/
theorem red_sy {p : List ByteArray} {g : Gd} (hp : PatOk p) (h : IsLat p g) (x y : Int) : Sy p 0 (redX g x - x) (redY g x y - y) := by
  have hA := h.a1
  have hD := h.d1
  rw [h.iff hp]
  unfold redX redY
  have e1 := Int.emod_def x g.A
  have e2 : x % g.A - x = g.A * (-(x / g.A)) := by rw [e1, Int.mul_neg]; omega
  rw [e2, Int.mul_emod_right, Int.mul_ediv_cancel_left _ (by omega)]
  refine ⟨rfl, ?_⟩
  have e3 := Int.emod_def (y - x / g.A * g.B) g.D
  rw [e3, Int.neg_mul]
  have e4 : y - x / g.A * g.B - g.D * ((y - x / g.A * g.B) / g.D) - y - -(x / g.A * g.B) = g.D * (-((y - x / g.A * g.B) / g.D)) := by rw [Int.mul_neg]; omega
  rw [e4, Int.mul_emod_right]
theorem sig_lt {g : Gd} (hA : 1 ≤ g.A) (hD : 1 ≤ g.D) (k : Nat) (e f : Int) (i : Nat) : sig g k e f i < g.A * g.D := num_lt hA hD _ _
theorem num_of {g : Gd} (hA : 1 ≤ g.A) (hD : 1 ≤ g.D) {i : Nat} (hi : i < g.A * g.D) : num g ((i / g.D : Nat) : Int) ((i % g.D : Nat) : Int) = i := by
  have h1 : i / g.D < g.A := by rw [Nat.div_lt_iff_lt_mul (by omega)]; exact hi
  have h2 : i % g.D < g.D := Nat.mod_lt _ (by omega)
  have h3 := Nat.div_add_mod i g.D
  generalize i / g.D = u at *
  generalize i % g.D = v at *
  have e1 : redX g (u : Int) = (u : Int) := by unfold redX; exact Int.emod_eq_of_lt (by omega) (by omega)
  have e2 : redY g (u : Int) (v : Int) = (v : Int) := by
    unfold redY
    rw [Int.ediv_eq_zero_of_lt (by omega) (by omega), Int.zero_mul, Int.sub_zero]
    exact Int.emod_eq_of_lt (by omega) (by omega)
  unfold num
  rw [e1, e2, Int.toNat_natCast, Int.toNat_natCast, Nat.mul_comm]
  exact h3
/-- A move that keeps the floor, of any translation of its class, moves the numbers alike. -/
theorem sig_class {p : List ByteArray} {g : Gd} (hp : PatOk p) (h : IsLat p g) {k : Nat} (hk : k < 8) {e f e' f' : Int} (hs : Sy p k e f) (hs' : Sy p k e' f') (i : Nat) : sig g k e f i = sig g k e' f' i := by
  unfold sig
  refine num_same hp h ?_
  have := hs.diff hk hs'
  rw [show ∀ a : Int, a + e - (a + e') = e - e' from fun a => by omega, show ∀ a : Int, a + f - (a + f') = f - f' from fun a => by omega]
  exact this
theorem sig_comp {p : List ByteArray} {g : Gd} (hp : PatOk p) (h : IsLat p g) {a b : Nat} (ha : a < 8) (hb : b < 8) {e f e' f' : Int} (hs : Sy p a e f) (hs' : Sy p b e' f') (i : Nat) :
    sig g a e f (sig g b e' f' i) = sig g (cmpK a b) (lX a e' f' + e) (lY a e' f' + f) i := by
  have hA := h.a1
  have hD := h.d1
  rw [sig, sig, (num_cell hA hD _ _).1, (num_cell hA hD _ _).2, sig]
  generalize ((i / g.D : Nat) : Int) = x
  generalize ((i % g.D : Nat) : Int) = y
  refine num_same hp h ?_
  have h1 := (red_sy hp h (lX b x y + e') (lY b x y + f'))
  have h2 := hs.conj ha h1
  rw [cmpK_X ha hb, cmpK_Y ha hb]
  have ex : ∀ s t s' t' : Int, lX a (s - s') (t - t') = lX a s t - lX a s' t' := fun s t s' t' => by
    have := lX_add a (s - s') (t - t') s' t'
    rw [Int.sub_add_cancel, Int.sub_add_cancel] at this
    omega
  have ey : ∀ s t s' t' : Int, lY a (s - s') (t - t') = lY a s t - lY a s' t' := fun s t s' t' => by
    have := lY_add a (s - s') (t - t') s' t'
    rw [Int.sub_add_cancel, Int.sub_add_cancel] at this
    omega
  rw [ex, ey, lX_add a (lX b x y), lY_add a (lX b x y)] at h2
  rw [show ∀ u v w z : Int, u + e - (v + (w + e)) = u - (v + w) from fun u v w z => by omega, show ∀ u v w : Int, u + f - (v + (w + f)) = u - (v + w) from fun u v w => by omega]
  · exact h2
  · exact 0
theorem sig_id {p : List ByteArray} {g : Gd} (hp : PatOk p) (h : IsLat p g) {e f : Int} (hs : Sy p 0 e f) {i : Nat} (hi : i < g.A * g.D) : sig g 0 e f i = i := by
  rw [sig_class hp h (by omega) hs (Sy.zero p)]
  unfold sig
  rw [Int.add_zero, Int.add_zero]
  exact num_of h.a1 h.d1 hi
theorem sig_perm {p : List ByteArray} {g : Gd} (hp : PatOk p) (h : IsLat p g) {k : Nat} (hk : k < 8) {e f : Int} (hs : Sy p k e f) : ∃ τ, Perm (sig g k e f) τ (g.A * g.D) := by
  have hi := hs.inv hk
  refine ⟨sig g (invK k) (-(lX (invK k) e f)) (-(lY (invK k) e f)), fun i _ => sig_lt h.a1 h.d1 _ _ _ i, fun i _ => sig_lt h.a1 h.d1 _ _ _ i, fun i hl => ?_, fun i hl => ?_⟩
  · have hc := hs.comp hk (invK_lt hk) hi
    rw [sig_comp hp h hk (invK_lt hk) hs hi]
    rw [(invK_cmp hk).2] at hc ⊢
    exact sig_id hp h hc hl
  · have hc := hi.comp (invK_lt hk) hk hs
    rw [sig_comp hp h (invK_lt hk) hk hi hs]
    rw [(invK_cmp hk).1] at hc ⊢
    exact sig_id hp h hc hl
end Go.Proofs.YteibbnmlmbhkpaaDoor

namespace Go.Proofs.YteibbnmlmbhkpaaDoor
set_option linter.unusedVariables false

theorem sumL_map {α β : Type} (f : β → Nat) (g : α → β) : ∀ l : List α, sumL f (l.map g) = sumL (fun x => f (g x)) l
  | [] => rfl
  | x :: l => by show f (g x) + sumL f (l.map g) = _ + _; rw [sumL_map f g l]
theorem sumL_mono {α : Type} {f g : α → Nat} : ∀ {l : List α}, (∀ x ∈ l, f x + 1 ≤ g x) → sumL f l + l.length ≤ sumL g l
  | [], _ => by simp [sumL]
  | x :: l, h => by
    have h1 := h x (by simp)
    have h2 := sumL_mono (l := l) fun y hy => h y (by simp [hy])
    show f x + sumL f l + (l.length + 1) ≤ g x + sumL g l
    omega
def kd (m : Mv) : Nat := (kindOf m).toNat
theorem kd_knd {k : Nat} (hk : k < 8) (e f : Int) : kd (knd k e f) = k := by unfold kd; rw [kindOf_knd k hk]; rfl
theorem sym_kinds {p : List ByteArray} {g : Gd} (hp : PatOk p) (h : IsLat p g) : ((symL p g).map kd).Nodup := by
  have h6 := h.a6 hp
  unfold List.Nodup
  rw [List.pairwise_map]
  unfold symL
  rw [List.pairwise_flatMap]
  have hkd : ∀ k : Nat, k < 8 → ∀ m, m ∈ ((List.range g.A).flatMap fun (e : Nat) => (List.range g.D).filterMap fun (f : Nat) => if keepsB p (knd k e f) then some (knd k e f) else none) → kd m = k := fun k hk m hm => by
    obtain ⟨e, _, hm⟩ := List.mem_flatMap.1 hm
    obtain ⟨f, _, hm⟩ := List.mem_filterMap.1 hm
    split at hm
    · injection hm with hm; rw [← hm]; exact kd_knd hk _ _
    · cases hm
  constructor
  · intro k hk
    rw [List.mem_range] at hk
    have hsy : ∀ e f : Nat, e < g.A → f < g.D → (if keepsB p (knd k e f) then some (knd k e f) else none) ≠ none → Sy p k e f := fun e f he hf hn => by
      split at hn
      · rename_i h2; exact (keepsB_iff hp hk (by omega) (by omega)).1 h2
      · exact absurd rfl hn
    have h1 : ((List.range g.A).flatMap fun (e : Nat) => (List.range g.D).filterMap fun (f : Nat) => if keepsB p (knd k e f) then some (knd k e f) else none).length ≤ 1 := by
      refine flat_one _ _ (fun e he => filt_one _ _ fun i j hi hj h1 h2 => ?_) fun e e' he he' h1 h2 => ?_
      · exact (sym_same hp h hk he hi he hj (hsy _ _ he hi h1) (hsy _ _ he hj h2)).2
      · have hx : ∀ e : Nat, e < g.A → ((List.range g.D).filterMap fun (f : Nat) => if keepsB p (knd k e f) then some (knd k e f) else none) ≠ [] → ∃ f : Nat, f < g.D ∧ Sy p k e f := fun e he hne => by
          obtain ⟨m, hm⟩ := List.exists_mem_of_ne_nil _ hne
          obtain ⟨f, hf, h3⟩ := List.mem_filterMap.1 hm
          rw [List.mem_range] at hf
          exact ⟨f, hf, hsy e f he hf (by rw [h3]; simp)⟩
        obtain ⟨f, hf, hs⟩ := hx e he h1
        obtain ⟨f', hf', hs'⟩ := hx e' he' h2
        exact (sym_same hp h hk he hf he' hf' hs hs').1
    generalize ((List.range g.A).flatMap fun (e : Nat) => (List.range g.D).filterMap fun (f : Nat) => if keepsB p (knd k e f) then some (knd k e f) else none) = t at h1
    match t, h1 with
    | [], _ => exact List.Pairwise.nil
    | [a], _ => exact List.pairwise_singleton _ _
    | a :: b :: t, h1 => simp at h1
  · refine List.nodup_range.imp_of_mem fun {a b} ha hb hab x hx y hy he => ?_
    rw [List.mem_range] at ha hb
    exact hab (by rw [← hkd a ha x hx, ← hkd b hb y hy, he])
/-- The cells that are the least of their cycle, for a move. -/
def CycN (g : Gd) (m : Mv) (c : Nat) : Prop := ∃ r, Leasts (sig g (kd m) m.e m.f) (g.A * g.D) r ∧ c = (List.range (g.A * g.D)).countP fun i => r i == i
theorem CycN.ex (g : Gd) (m : Mv) : ∃ c, CycN g m c := by
  obtain ⟨r, hr⟩ := Leasts.ex (sig g (kd m) m.e m.f) (g.A * g.D)
  exact ⟨_, r, hr, rfl⟩
theorem CycN.uniq {g : Gd} {m : Mv} {c d : Nat} (h : CycN g m c) (h' : CycN g m d) : c = d := by
  obtain ⟨r, hr, rfl⟩ := h
  obtain ⟨s, hs, rfl⟩ := h'
  apply List.countP_congr
  intro i hi
  rw [List.mem_range] at hi
  have h1 := hr.le i hi _ (hs.cyc i hi)
  have h2 := hs.le i hi _ (hr.cyc i hi)
  rw [show r i = s i by omega]
theorem CycN.pos {g : Gd} {m : Mv} {c : Nat} (h : CycN g m c) (hn : 1 ≤ g.A * g.D) : 1 ≤ c := by
  obtain ⟨r, hr, rfl⟩ := h
  have := hr.self (i := 0) (by omega)
  exact List.countP_pos_iff.2 ⟨0, List.mem_range.2 (by omega), by rw [beq_iff_eq]; omega⟩
/-- What each move makes of each colouring: given by tk. -/
theorem burn_pat {p : List ByteArray} {g : Gd} (hp : PatOk p) (h : IsLat p g) {k : Nat} (hk : 1 ≤ k) (cyc : Mv → Nat) (hcyc : ∀ m ∈ symL p g, CycN g m (cyc m)) (tk : Mv → Nat → Nat)
    (htk : ∀ m ∈ symL p g, ∀ x, x < k ^ (g.A * g.D) → Mvd (sig g (kd m) m.e m.f) k (g.A * g.D) x (tk m x)) :
    sumL (fun m => k ^ cyc m) (symL p g) = (symL p g).length * (List.range (k ^ (g.A * g.D))).countP (fun x => (symL p g).all fun m => decide (x ≤ tk m x)) := by
  have hmem := fun m => mem_symL hp h m
  generalize hl : symL p g = l at *
  obtain ⟨n, hn⟩ : ∃ n, n = g.A * g.D := ⟨_, rfl⟩
  rw [← hn] at htk ⊢
  have hrep : ∀ k', ∃ m, k' ∈ l.map kd → m ∈ l ∧ kd m = k' := fun k' => by
    by_cases hx : k' ∈ l.map kd
    · obtain ⟨m, h1, h2⟩ := List.mem_map.1 hx
      exact ⟨m, fun _ => ⟨h1, h2⟩⟩
    · exact ⟨knd 0 0 0, fun hc => absurd hc hx⟩
  obtain ⟨rep, hrp⟩ := Classical.axiomOfChoice hrep
  have hsy : ∀ m ∈ l, kd m < 8 ∧ Sy p (kd m) m.e m.f := fun m hm => by
    obtain ⟨k', e, f, hk', _, _, rfl, hs⟩ := (hmem m).1 hm
    rw [kd_knd hk']
    exact ⟨hk', hs⟩
  have hin : ∀ k' e f, k' < 8 → Sy p k' e f → k' ∈ l.map kd := fun k' e f hk' hs => by
    obtain ⟨r, s, hr, hss, h1, _⟩ := hs.class hp h hk'
    exact List.mem_map.2 ⟨knd k' r s, (hmem _).2 ⟨k', r, s, hk', hr, hss, rfl, h1⟩, kd_knd hk' _ _⟩
  have hone : ∀ a ∈ l.map kd, kd (rep a) = a ∧ rep a ∈ l := fun a ha => ⟨(hrp a ha).2, (hrp a ha).1⟩
  have hperm : ∀ m ∈ l, ∃ τ, Perm (sig g (kd m) m.e m.f) τ n := fun m hm => by
    rw [hn]; exact sig_perm hp h (hsy m hm).1 (hsy m hm).2
  have hacts : Acts (l.map kd) (k ^ n) (fun a x => tk (rep a) x) := by
    refine ⟨?_, ?_, ?_, ?_, ?_, ?_, ?_, ?_⟩
    · rw [← hl]; exact sym_kinds hp h
    · intro a ha
      obtain ⟨e1, e2⟩ := hone a ha
      have := (hsy _ e2).1
      rwa [e1] at this
    · exact hin 0 0 0 (by omega) (Sy.zero p)
    · intro a ha b hb
      obtain ⟨e1, e2⟩ := hone a ha
      obtain ⟨e3, e4⟩ := hone b hb
      have h1 := hsy _ e2
      have h2 := hsy _ e4
      rw [e1] at h1
      rw [e3] at h2
      exact hin _ _ _ (cmpK_lt h1.1 h2.1) (h1.2.comp h1.1 h2.1 h2.2)
    · intro a ha
      obtain ⟨e1, e2⟩ := hone a ha
      have h1 := hsy _ e2
      rw [e1] at h1
      exact hin _ _ _ (invK_lt h1.1) (h1.2.inv h1.1)
    · intro a ha x hx
      exact (htk _ (hone a ha).2 x hx).1
    · intro a ha b hb x hx
      obtain ⟨e1, e2⟩ := hone a ha
      obtain ⟨e3, e4⟩ := hone b hb
      have h1 := hsy _ e2
      have h2 := hsy _ e4
      rw [e1] at h1
      rw [e3] at h2
      have hc := h1.2.comp h1.1 h2.1 h2.2
      have hab := hin _ _ _ (cmpK_lt h1.1 h2.1) hc
      obtain ⟨e5, e6⟩ := hone _ hab
      have h3 := hsy _ e6
      rw [e5] at h3
      obtain ⟨τ, hτ⟩ := hperm _ e6
      have m1 := htk _ e6 x hx
      have m2 := htk _ e4 x hx
      have m3 := htk _ e2 _ m2.1
      refine Mvd.uniq hτ hk m1 ⟨m3.1, fun i hi => ?_⟩
      rw [← m2.2 i hi, ← m3.2 _ (by have := sig_lt h.a1 h.d1 (kd (rep b)) (rep b).e (rep b).f i; rw [hn]; exact this)]
      congr 1
      rw [e5, e3, e1, sig_comp hp h h1.1 h2.1 h1.2 h2.2]
      exact sig_class hp h h3.1 h3.2 hc i
    · intro x hx
      obtain ⟨e1, e2⟩ := hone 0 (hin 0 0 0 (by omega) (Sy.zero p))
      have h1 := hsy _ e2
      obtain ⟨τ, hτ⟩ := hperm _ e2
      rw [e1] at h1
      refine Mvd.uniq hτ hk (htk _ e2 x hx) ⟨hx, fun i hi => ?_⟩
      rw [e1, sig_id hp h h1.2 (by rw [← hn]; exact hi)]
  have hb := burnside hacts
  have huq : ∀ m ∈ l, rep (kd m) = m := fun m hm => by
    obtain ⟨e1, e2⟩ := hone _ (List.mem_map.2 ⟨m, hm, rfl⟩)
    obtain ⟨k1, a, b, hk1, ha, hb, h1, hs⟩ := (hmem _).1 e2
    obtain ⟨k2, a', b', hk2, ha', hb', h2, hs'⟩ := (hmem _).1 hm
    rw [h1, h2, kd_knd hk2, kd_knd hk1] at e1
    subst e1
    obtain ⟨e3, e4⟩ := sym_same hp h hk1 ha hb ha' hb' hs hs'
    rw [h1, h2, e3, e4]
  rw [List.length_map, sumL_map] at hb
  have e1 : sumL (fun m => k ^ cyc m) l = sumL (fun m => (List.range (k ^ n)).countP (fun x => tk (rep (kd m)) x == x)) l := by
    apply sumL_congr
    intro m hm
    rw [huq m hm]
    obtain ⟨r, hr, hc⟩ := hcyc m hm
    obtain ⟨τ, hτ⟩ := hperm m hm
    rw [← hn] at hr hc
    rw [hc, ← fixed_count hk r n fun i hi => hr.self hi]
    apply List.countP_congr
    intro x hx
    rw [List.mem_range] at hx
    rw [← fixed_iff hτ hk hr hx, beq_iff_eq]
    constructor
    · intro hm'
      exact Mvd.uniq hτ hk (htk m hm x hx) hm'
    · intro he
      have := htk m hm x hx
      rwa [he] at this
  rw [e1, hb]
  congr 1
  apply List.countP_congr
  intro x _
  rw [leastB_iff, List.all_eq_true]
  constructor
  · intro hx m hm
    have := hx (kd m) (List.mem_map.2 ⟨m, hm, rfl⟩)
    rw [huq m hm] at this
    exact decide_eq_true this
  · intro hx a ha
    exact of_decide_eq_true (hx _ (hone a ha).2)
/-- One more colour makes more colourings. -/
theorem burn_more {l : List Mv} (hl : 1 ≤ l.length) {k : Nat} {cyc : Mv → Nat} (hc : ∀ m ∈ l, 1 ≤ cyc m) : sumL (fun m => k ^ cyc m) l / l.length < sumL (fun m => (k + 1) ^ cyc m) l / l.length := by
  have h1 := sumL_mono (f := fun m => k ^ cyc m) (g := fun m => (k + 1) ^ cyc m) (l := l) fun m hm => Nat.pow_lt_pow_left (Nat.lt_succ_self k) (by have := hc m hm; omega)
  have h2 := Nat.div_le_div_right (c := l.length) h1
  rw [Nat.add_div_right _ (by omega)] at h2
  omega
theorem burn_one {l : List Mv} (hl : 1 ≤ l.length) (cyc : Mv → Nat) : sumL (fun m => 1 ^ cyc m) l / l.length = 1 := by
  rw [sumL_congr (g := fun _ => 1) fun m _ => Nat.one_pow _, sumL_const, Nat.mul_one, Nat.div_self (by omega)]
theorem burn_div {l : List Mv} (hl : 1 ≤ l.length) {s c : Nat} (h : s = l.length * c) : s / l.length = c := by
  rw [h, Nat.mul_div_cancel_left _ (by omega)]
end Go.Proofs.YteibbnmlmbhkpaaDoor

namespace Go.Proofs.YteibbnmlmbhkpaaDoor
open Go.RowKit
set_option linter.unusedVariables false
set_option linter.unusedSimpArgs false
set_option maxHeartbeats 2000000
set_option maxRecDepth 100000

theorem number_any {F : MS} {p : List ByteArray} {g : Gd} {gb bx : Nat} {w : World} (h : PGr F p g gb) (hx : F.at bx 0 (.pointer (some ⟨gb, 0, none⟩))) (hH : Has w F) (x y : Int) (hxs : -1000 ≤ x ∧ x ≤ 1000) (hys : -1000 ≤ y ∧ y ≤ 1000) :
    Calls Tryd.prog 78 #[.int .i64 x, .int .i64 y, .pointer (some ⟨bx, 0, none⟩)] w fun e w' => e = .returned (.int .i64 (num g x y)) ∧ Kp w w' := by
  have h6 := h.lat.a6 h.pok
  have hA := h.lat.a1
  have hD := h.lat.d1
  have Hred := hid (fun (W : World) => reduced_any g hA h6.1 hD h6.2.1 h.lat.bd x y hxs hys W)
  have hrr := red_range hA hD x y
  obtain ⟨z, hz⟩ : ∃ z : Int, z = (num g x y : Int) := ⟨_, rfl⟩
  have hz2 : z = redX g x * g.D + redY g x y := by
    rw [hz]; unfold num
    rw [Int.natCast_add, Int.natCast_mul]
    rw [show ((redX g x).toNat : Int) = redX g x by omega, show ((redY g x y).toNat : Int) = redY g x y by omega]
  rw [← hz]
  clear hz
  have f0 := hx.c0 hH
  have f1 := h.c0.c0 hH
  have f2 := h.c1.c0 hH
  have f3 := h.c2.c0 hH
  have Hf := hid (show ∀ W, Kp w W → (W.cell? ⟨bx, 0, none⟩ = some (.pointer (some ⟨gb, 0, none⟩)) ∧ W.cell? ⟨gb, 2, none⟩ = some (.int .i64 g.D)) from fun W hW => ⟨hx.c0 (hW.1 _ hH), h.c2.c0 (hW.1 _ hH)⟩)
  obtain ⟨gA, gB, gD⟩ := g
  generalize redX ⟨gA, gB, gD⟩ x = rx at *
  generalize redY ⟨gA, gB, gD⟩ x y = ry at *
  simp only at h6 hA hD hrr hz2 f1 f2 f3 Hf
  obtain ⟨md, hmd⟩ : ∃ md, md = rx * (gD : Int) := ⟨_, rfl⟩
  have hmr : 0 ≤ md ∧ md ≤ 36 := by
    have h7 : gD = 1 ∨ gD = 2 ∨ gD = 3 ∨ gD = 4 ∨ gD = 5 ∨ gD = 6 := by omega
    rw [hmd]
    rcases h7 with rfl | rfl | rfl | rfl | rfl | rfl <;> omega
  rw [← hmd] at hz2
  have u1 : IntKind.i64.wrap (rx * (gD : Int)) = md := by rw [← hmd, IntKind.wrap_i64]; omega
  have u2 : wrap64 (rx * (gD : Int)) = md := by rw [← hmd]; unfold wrap64; omega
  have u3 : IntKind.i64.wrap (md + ry) = z := by rw [hz2, IntKind.wrap_i64]; omega
  have u4 : wrap64 (md + ry) = z := by rw [hz2]; unfold wrap64; omega
  clear h hx hH hxs hys h6 hA hD hrr hz2 hmd hmr
  go_enter Tryd.func78, Tryd.ntmps78
  go_wp2_with (go_at_call 79; refine (Hred.out _).mono ?_; rintro e1 w1 ⟨rfl, k1⟩; have K1 := hid k1; obtain ⟨g0, g1⟩ := Hf.out w1 k1; clear k1)
  go_ret
  exact ⟨rfl, K1.out⟩
end Go.Proofs.YteibbnmlmbhkpaaDoor

namespace Go.Proofs.YteibbnmlmbhkpaaDoor
open Go.RowKit
set_option linter.unusedVariables false
set_option linter.unusedSimpArgs false
set_option maxHeartbeats 2000000
set_option maxRecDepth 100000

def CelR : Nat × Nat → List Value → MS → Prop := fun c cs ms => cs = [.int .i64 c.1, .int .i64 c.2] ∧ ms = 0
theorem CelR.len : ∀ a cs m, CelR a cs m → cs.length = 2 := fun a cs m h => by rw [h.1]; rfl
theorem CelR.one : ∀ a cs m, CelR a cs m → ∀ u ∈ cs, u.oneCell' = true := fun a cs m h u hu => by
  rw [h.1] at hu; simp at hu; rcases hu with rfl | rfl <;> rfl
def RT.cel : RT (Nat × Nat) := ⟨2, fun _ c cs => cs = [.int .i64 c.1, .int .i64 c.2], fun _ _ _ h => by rw [h]; rfl, fun _ _ _ _ h => h⟩
theorem row92 : RowTy Tryd.prog 92 121 (.agg #[.int .i64 0, .int .i64 0]) 2 16 := ⟨by kernel_rfl, by kernel_rfl, rfl⟩
/-- The first cells of a period. -/
def celL (D n : Nat) : List (Nat × Nat) := (List.range n).map fun i => (i / D, i % D)
theorem celL_len (D n : Nat) : (celL D n).length = n := by simp [celL]
theorem celL_succ {D x y : Nat} (hy : y < D) : celL D (x * D + (y + 1)) = celL D (x * D + y) ++ [(x, y)] := by
  unfold celL
  rw [show x * D + (y + 1) = x * D + y + 1 by omega, List.range_succ, List.map_append]
  congr 1
  show [((x * D + y) / D, (x * D + y) % D)] = _
  rw [Nat.mul_comm, Nat.mul_add_div (by omega), Nat.div_eq_of_lt hy, Nat.mul_add_mod, Nat.mod_eq_of_lt hy]
  rfl
theorem cells_any {F : MS} {p : List ByteArray} {g : Gd} {gb : Nat} {w : World} (h : PGr F p g gb) (hH : Has w F) :
    Calls Tryd.prog 55 #[.pointer (some ⟨gb, 0, none⟩)] w fun e w' => ∃ bx A c X, e = .returned (.tuple #[.slice A (g.A * g.D : Nat) c, .func (.func 78) #[] #[.pointer (some ⟨bx, 0, none⟩)]]) ∧ Kp w w' ∧ Has w' X ∧ X.at bx 0 (.pointer (some ⟨gb, 0, none⟩)) ∧ RdS X RT.cel (celL g.D (g.A * g.D)) (.slice A (g.A * g.D) c) := by
  have h6 := h.lat.a6 h.pok
  have hA := h.lat.a1
  have hD := h.lat.d1
  obtain ⟨bx, hbx⟩ : ∃ bx, bx = w.heap.size := ⟨_, rfl⟩
  obtain ⟨W1, hW1⟩ : ∃ W1, W1 = w.alloc (.cells #[.pointer (some ⟨gb, 0, none⟩)] 70) := ⟨_, rfl⟩
  have HA := hid (show Has W1 (blk bx #[.pointer (some ⟨gb, 0, none⟩)] 70 + MS.all w) by rw [hW1, hbx]; exact (Has.all w).alloc _)
  have HE := hid (show Ext w W1 by rw [hW1]; exact Ext.alloc w _)
  have Hat := hid (show (blk bx #[.pointer (some ⟨gb, 0, none⟩)] 70 + MS.all w).at bx 0 (.pointer (some ⟨gb, 0, none⟩)) from (blk_at (cs := #[.pointer (some ⟨gb, 0, none⟩)]) (e := 70) (i := 0) rfl).less (MS.all w))
  have HK := hid (show ∀ W Y, Has W (Y + (blk bx #[.pointer (some ⟨gb, 0, none⟩)] 70 + MS.all w)) → Ext W1 W → Kp w W from fun W Y hW hE => ⟨fun M hM => hM.of_all (X := Y + blk bx #[.pointer (some ⟨gb, 0, none⟩)] 70) (hW.eq (by ac_rfl)), HE.out.trans hE⟩)
  have Hf := hid (show ∀ W Y, Has W (Y + (blk bx #[.pointer (some ⟨gb, 0, none⟩)] 70 + MS.all w)) → (W.cell? ⟨bx, 0, none⟩ = some (.pointer (some ⟨gb, 0, none⟩)) ∧ W.cell? ⟨gb, 0, none⟩ = some (.int .i64 g.A) ∧ W.cell? ⟨gb, 2, none⟩ = some (.int .i64 g.D)) from fun W Y hW => by
    have hF : Has W F := hH.of_all (X := Y + blk bx #[.pointer (some ⟨gb, 0, none⟩)] 70) (hW.eq (by ac_rfl))
    exact ⟨Hat.out.c0 hW.right, h.c0.c0 hF, h.c2.c0 hF⟩)
  generalize blk bx #[.pointer (some ⟨gb, 0, none⟩)] 70 + MS.all w = G at *
  obtain ⟨gA, gB, gD⟩ := g
  simp only at h6 hA hD Hf ⊢
  have hA6 : (gA : Int) ≤ 6 := by omega
  have hD6 : (gD : Int) ≤ 6 := by omega
  have H6 := hid h6
  obtain ⟨f0, f1, f2⟩ := Hf.out W1 0 (HA.out.eq (by rw [MS.zero_add]))
  clear h hH h6 hA hD HE
  rw [hW1] at f0 f1 f2
  go_enter Tryd.func55, Tryd.ntmps55
  rw [hbx] at f0
  go_wp2
  rw [← hW1, ← hbx]
  clear f0 f1 f2 hW1 hbx
  go_loopw [4, 12] (fun vo v wr => ∃ x : Nat, ∃ B dd ms, x ≤ gA ∧ v = .int .i64 x ∧ vo = .slice B (x * gD : Nat) dd ∧ SlR 121 2 CelR (celL gD (x * gD)) (.slice B (x * gD) dd) ms ∧ Has wr (ms + G) ∧ Ext W1 wr) (fun _ v _ => gA - (intOf v).toNat)
  case atStart => exact ⟨0, none, 0, 0, Nat.zero_le _, rfl, by rw [Nat.zero_mul], by rw [Nat.zero_mul]; exact ⟨[], 0, 0, Sl.nil _ _, RowsR.nil, by rw [MS.zero_add]⟩, HA.out.eq (by rw [MS.zero_add]), Ext.refl _⟩
  case round =>
    obtain ⟨x, B, dd, ms, hx, rfl, rfl, hS, hW, hE⟩ := hrel
    have HS := hid hS
    have HW := hid hW
    have HE := hid hE
    clear hS hW hE HA
    obtain ⟨f0, f1, f2⟩ := Hf.out wr ms HW.out
    by_cases hlt : x < gA
    · have hltI : (x : Int) < gA := by omega
      have Hlt := hid hlt
      clear hlt hx
      obtain ⟨xd, hxd⟩ : ∃ xd, xd = x * gD := ⟨_, rfl⟩
      rw [← hxd] at HS ⊢
      have Hxd := hid hxd
      clear hxd
      go_wp2
      clear f0 f1 f2
      go_loopw [4, 20] (fun vo v wr => ∃ y : Nat, ∃ B dd ms, y ≤ gD ∧ v = .int .i64 y ∧ vo = .slice B (xd + y : Nat) dd ∧ SlR 121 2 CelR (celL gD (xd + y)) (.slice B (xd + y) dd) ms ∧ Has wr (ms + G) ∧ Ext W1 wr) (fun _ v _ => gD - (intOf v).toNat)
      case atStart => exact ⟨0, B, dd, ms, Nat.zero_le _, rfl, rfl, HS.out, HW.out, HE.out⟩
      case round =>
        clear HS HW HE
        obtain ⟨y, B2, d2, m2, hy, rfl, rfl, hS, hW, hE⟩ := hrel
        have HS := hid hS
        have HW := hid hW
        have HE := hid hE
        clear hS hW hE
        by_cases hly : y < gD
        · have hlyI : (y : Int) < gD := by omega
          have Hly := hid hly
          obtain ⟨n, hn⟩ : ∃ n, n = xd + y := ⟨_, rfl⟩
          rw [← hn] at HS ⊢
          have Hn6 := hid (show n ≤ 100 by
            have h1 := H6.out
            have h2 := Hlt.out
            have h3 : x * gD ≤ 6 * 6 := Nat.mul_le_mul (by omega) (by omega)
            have h4 := Hxd.out
            omega)
          have Hsu := hid (show celL gD (xd + (y + 1)) = celL gD n ++ [(x, y)] by rw [Hxd.out, celL_succ hly, hn, Hxd.out])
          have Hn := hid hn
          clear hly hy hn
          go_wp2_with (at_builtin; refine wpList_push rfl (.tmp 23) (.tmp 27) row92 rfl (.slice B2 n d2) rfl _ rfl (by simp) CelR CelR.one CelR.len (celL gD n) (x, y) m2 0 _ HS.out ⟨rfl, rfl⟩ ((HW.out).eq (by rw [MS.zero_add])) n (celL_len _ _) (by have := Hn6.out; omega) (by omega) ?_; intro A8 c8 w8 m8 j4 j5 j6; have J4 := hid j4; have J5 := hid j5; have J6 := hid (HE.out.trans j6); clear j4 j5 j6)
          go_roundw
          case rel => exact ⟨y + 1, A8, c8, m8, Hly.out, by go_num, by rw [Hn.out]; rfl, by rw [Hsu.out, show xd + (y + 1) = n + 1 by have := Hn.out; omega]; exact J4.out, J5.out, J6.out⟩
          case measure => have := Hly.out; simp [intOf]; omega
        · have hye : y = gD := by omega
          subst hye
          clear hly hy
          go_wp2
          go_roundw
          case rel => exact ⟨x + 1, B2, d2, m2, Hlt.out, by go_num, by rw [Hxd.out, Nat.succ_mul], by rw [Nat.succ_mul, ← Hxd.out]; exact HS.out, HW.out, HE.out⟩
          case measure => have := Hlt.out; simp [intOf]; omega
    · have hxe : x = gA := by omega
      subst hxe
      clear hlt hx
      go_wp2
      go_ret2
      refine ⟨bx, B, dd, ms + G, rfl, HK.out _ _ HW.out HE.out, HW.out, Hat.out.more ms, ?_⟩
      have h1 := SlR.rd (R := CelR) (T := RT.cel) (fun a cs m h => h.1) HS.out
      exact h1.less _
end Go.Proofs.YteibbnmlmbhkpaaDoor

namespace Go.Proofs.YteibbnmlmbhkpaaDoor
set_option linter.unusedVariables false

/-- The cells that are marked: the cycles of all cells ahead of i, and the first t cells of that of i. -/
def Seen (σ : Nat → Nat) (i t : Nat) (f : Nat → Bool) (n : Nat) : Prop := ∀ j, j < n → (f j = true ↔ (∃ i', i' < i ∧ Cyc σ i' j) ∨ ∃ s, s < t ∧ iterN σ s i = j)
theorem Seen.none (σ : Nat → Nat) (n : Nat) : Seen σ 0 0 (fun _ => false) n := fun j _ => by
  constructor
  · intro h; cases h
  · rintro (⟨i', h, _⟩ | ⟨s, h, _⟩) <;> omega
theorem Seen.mark {σ : Nat → Nat} {i t : Nat} {f : Nat → Bool} {n : Nat} (h : Seen σ i t f n) : Seen σ i (t + 1) (fun j => if j = iterN σ t i then true else f j) n := fun j hj => by
  constructor
  · intro hf
    by_cases hc : j = iterN σ t i
    · exact .inr ⟨t, Nat.lt_succ_self t, hc.symm⟩
    · simp only [hc, if_false] at hf
      rcases (h j hj).1 hf with h1 | ⟨s, h1, h2⟩
      · exact .inl h1
      · exact .inr ⟨s, by omega, h2⟩
  · intro hd
    show (if j = iterN σ t i then true else f j) = true
    by_cases hc : j = iterN σ t i
    · rw [if_pos hc]
    · rw [if_neg hc]
      rcases hd with h1 | ⟨s, h1, h2⟩
      · exact (h j hj).2 (.inl h1)
      · refine (h j hj).2 (.inr ⟨s, ?_, h2⟩)
        have : s ≠ t := fun e => hc (by rw [← h2, e])
        omega
/-- A cell is marked when its turn comes just if it is not the least of its cycle. -/
theorem Seen.turn {σ τ : Nat → Nat} {n : Nat} {r : Nat → Nat} {i : Nat} {f : Nat → Bool} (h : Seen σ i 0 f n) (hp : Perm σ τ n) (hr : Leasts σ n r) (hi : i < n) : f i = !(r i == i) := by
  have h1 : f i = true ↔ r i ≠ i := by
    rw [h i hi]
    constructor
    · rintro (⟨i', h2, h3⟩ | ⟨s, h2, _⟩)
      · have := hr.le i hi i' (hp.cyc_symm (by omega) h3); omega
      · omega
    · intro hne
      have h2 := hr.self hi
      exact .inl ⟨r i, by omega, hp.cyc_symm hi (hr.cyc i hi)⟩
  cases hf : f i with
  | true => have := h1.1 hf; simp [this]
  | false =>
    have : ¬ r i ≠ i := fun hc => by rw [h1.2 hc] at hf; cases hf
    have : r i = i := Classical.byContradiction this
    simp [this]
/-- A cell that was marked already changes nothing. -/
theorem Seen.skip {σ τ : Nat → Nat} {n : Nat} {i : Nat} {f : Nat → Bool} (h : Seen σ i 0 f n) (hp : Perm σ τ n) (hi : i < n) (hf : f i = true) : Seen σ (i + 1) 0 f n := fun j hj => by
  have hq : ∃ i', i' < i ∧ Cyc σ i' i := by
    rcases (h i hi).1 hf with h1 | ⟨s, h1, _⟩
    · exact h1
    · omega
  rw [h j hj]
  constructor
  · rintro (⟨i', h1, h2⟩ | ⟨s, h1, _⟩)
    · exact .inl ⟨i', by omega, h2⟩
    · omega
  · rintro (⟨i', h1, h2⟩ | ⟨s, h1, _⟩)
    · by_cases hc : i' = i
      · obtain ⟨i0, h3, h4⟩ := hq
        exact .inl ⟨i0, h3, h4.trans (by rw [← hc]; exact h2)⟩
      · exact .inl ⟨i', by omega, h2⟩
    · omega
/-- One who goes round comes back to where he began. -/
theorem Seen.round {σ τ : Nat → Nat} {n : Nat} {i t : Nat} {f : Nat → Bool} (h : Seen σ i t f n) (hp : Perm σ τ n) (hi : i < n) (hno : ¬ ∃ i', i' < i ∧ Cyc σ i' i) (hf : f (iterN σ t i) = true) : Seen σ (i + 1) 0 f n := by
  have hs : ∃ s, s < t ∧ iterN σ s i = iterN σ t i := by
    rcases (h _ (hp.iter_lt hi t)).1 hf with ⟨i', h1, h2⟩ | h1
    · exact absurd ⟨i', h1, h2.trans (hp.cyc_symm hi ⟨t, rfl⟩)⟩ hno
    · exact h1
  obtain ⟨s, hst, he⟩ := hs
  have hb : iterN σ (t - s) i = i := hp.iter_inj hi s (t - s) (by rw [show s + (t - s) = t by omega]; exact he.symm)
  obtain ⟨q, hq⟩ : ∃ q, q = t - s := ⟨_, rfl⟩
  rw [← hq] at hb
  have hm : ∀ c, iterN σ (c * q) i = i := fun c => by
    induction c with
    | zero => rw [Nat.zero_mul]; rfl
    | succ c ih => rw [Nat.succ_mul, iterN_add, hb, ih]
  intro j hj
  rw [h j hj]
  constructor
  · rintro (⟨i', h1, h2⟩ | ⟨u, h1, h2⟩)
    · exact .inl ⟨i', by omega, h2⟩
    · exact .inl ⟨i, by omega, ⟨u, h2⟩⟩
  · rintro (⟨i', h1, h2⟩ | ⟨u, h1, _⟩)
    · by_cases hc : i' = i
      · obtain ⟨u, h3⟩ := h2
        rw [hc] at h3
        refine .inr ⟨u % q, Nat.lt_of_lt_of_le (Nat.mod_lt _ (by omega)) (by omega), ?_⟩
        rw [← h3]
        have h4 := Nat.mod_add_div u q
        rw [Nat.mul_comm] at h4
        calc iterN σ (u % q) i = iterN σ (u % q) (iterN σ (u / q * q) i) := by rw [hm]
          _ = iterN σ (u % q + u / q * q) i := (iterN_add σ _ i _).symm
          _ = iterN σ u i := by rw [h4]
      · exact .inl ⟨i', by omega, h2⟩
    · omega
/-- There are no more steps than cells. -/
theorem Seen.few {σ τ : Nat → Nat} {n : Nat} {i t : Nat} (hp : Perm σ τ n) (hi : i < n) (hd : ∀ a b, a < b → b < t → iterN σ a i ≠ iterN σ b i) : t ≤ n := by
  have h1 : ((List.range t).map fun t => iterN σ t i).Nodup := map_nodup List.nodup_range fun x hx y hy he => by
    rw [List.mem_range] at hx hy
    rcases Nat.lt_trichotomy x y with hl | hl | hl
    · exact absurd he (hd x y hl hy)
    · exact hl
    · exact absurd he.symm (hd y x hl hx)
  have h2 := List.Nodup.length_le_of_subset (l₂ := List.range n) h1 fun y hy => by
    obtain ⟨t, _, rfl⟩ := List.mem_map.1 hy
    exact List.mem_range.2 (hp.iter_lt hi t)
  simpa using h2
theorem Seen.fresh {σ τ : Nat → Nat} {n : Nat} {i t : Nat} {f : Nat → Bool} (h : Seen σ i t f n) (hp : Perm σ τ n) (hi : i < n) (hf : f (iterN σ t i) = false) (hd : ∀ a b, a < b → b < t → iterN σ a i ≠ iterN σ b i) : ∀ a b, a < b → b < t + 1 → iterN σ a i ≠ iterN σ b i := fun a b hab hb he => by
  by_cases hc : b = t
  · rw [hc] at he
    have := (h _ (hp.iter_lt hi t)).2 (.inr ⟨a, by omega, he⟩)
    rw [hf] at this; cases this
  · exact hd a b hab (by omega) he
end Go.Proofs.YteibbnmlmbhkpaaDoor

namespace Go.Proofs.YteibbnmlmbhkpaaDoor
open Go.RowKit
set_option linter.unusedVariables false
set_option linter.unusedSimpArgs false
set_option maxRecDepth 100000

/-- Cells of an array that hold flags. -/
def FlgA (off n : Nat) (f : Nat → Bool) (cur : Array Value) : Prop := off + n ≤ cur.size ∧ ∀ j, j < n → cur[off + j]? = some (.bool (f j))
theorem FlgA.set {off n : Nat} {f : Nat → Bool} {cur : Array Value} (h : FlgA off n f cur) {a : Nat} (ha : a < n) : FlgA off n (fun j => if j = a then true else f j) (cur.setIfInBounds (off + a) (.bool true)) := by
  refine ⟨by rw [Array.size_setIfInBounds]; exact h.1, fun j hj => ?_⟩
  by_cases hc : j = a
  · rw [hc, Array.getElem?_setIfInBounds_self_of_lt (by have := h.1; omega)]; simp
  · rw [Array.getElem?_setIfInBounds_ne (by omega), h.2 j hj]; simp [hc]
theorem flags_made {n : Nat} {v : Value} {m : MS} (hn : 1 ≤ n) (h : Sl 4 1 v n (madeCells (Value.bool false).cells (n * 1)).toList m) : ∃ b off c cur, v = .slice (some ⟨b, off, none⟩) n c ∧ m = blk b cur 4 ∧ n ≤ c ∧ c ≤ maxLen ∧ FlgA off n (fun _ => false) cur := by
  obtain ⟨h0, h1⟩ := h
  rcases h1 with ⟨_, h2, _⟩ | ⟨b, off, c, cur, h2, h3, h4, h5, h6, h7⟩
  · omega
  · refine ⟨b, off, c, cur, h2, h3, h4, h5, by omega, fun j hj => ?_⟩
    rw [h7 j (by omega)]
    have e : (madeCells (Value.bool false).cells (n * 1)).toList = List.replicate n (.bool false) := by
      rw [Nat.mul_one]; exact toList_madeCells_one (.bool false) n
    rw [e, List.getElem?_replicate, if_pos hj]
theorem FlgA.cell {W : World} {F : MS} {b off n : Nat} {f : Nat → Bool} {cur : Array Value} (h : FlgA off n f cur) (hW : Has W (blk b cur 4 + F)) {j : Nat} (hj : j < n) : W.cell? ⟨b, off + j, none⟩ = some (.bool (f j)) := hW.at_ (h.2 j hj)
def isT : Option Value → Bool
  | some (.bool q) => q
  | _ => false
/-- The flags that are up can be counted in the world. -/
theorem flags_count (b off n : Nat) (M : MS) : ∃ cnt : World → Nat, ∀ W f cur, FlgA off n f cur → Has W (blk b cur 4 + M) → cnt W = (List.range n).countP f :=
  ⟨fun W => (List.range n).countP fun j => isT (W.cell? ⟨b, off + j, none⟩), fun W f cur hf hW => by
    apply List.countP_congr
    intro j hj
    rw [List.mem_range] at hj
    rw [hf.cell hW hj]
    exact Iff.rfl⟩
theorem count_mark {n a : Nat} {f : Nat → Bool} (ha : a < n) (hf : f a = false) : (List.range n).countP (fun j => if j = a then true else f j) = (List.range n).countP f + 1 := by
  have key : ∀ n, (List.range n).countP (fun j => if j = a then true else f j) = (List.range n).countP f + if a < n then 1 else 0 := fun n => by
    induction n with
    | zero => simp
    | succ n ih =>
      rw [List.range_succ, List.countP_append, List.countP_append, ih]
      by_cases hc : n = a
      · subst hc
        rw [if_neg (by omega), if_pos (by omega)]
        simp [List.countP_cons, hf]
      · by_cases hlt : a < n
        · rw [if_pos hlt, if_pos (by omega)]
          simp [List.countP_cons, hc]; omega
        · rw [if_neg hlt, if_neg (by omega)]
          simp [List.countP_cons, hc]
  rw [key n, if_pos ha]
theorem info4 : (Tryd.prog.info? 4).map (fun i => (i.zero, i.size, i.bytes)) = some (some (.bool false), 1, 1) := by kernel_rfl
theorem und119 : Tryd.prog.underlying 119 = some (.slice 4) := by kernel_rfl
/-- Where a symmetry takes a cell. -/
theorem sig_to {p : List ByteArray} {g : Gd} (hp : PatOk p) (h : IsLat p g) {m : Mv} (hm : m ∈ symL p g) {i : Nat} (hi : i < g.A * g.D) :
    sig g (kd m) m.e m.f i = num g (m.toX ((i / g.D : Nat) : Int) ((i % g.D : Nat) : Int)) (m.toY ((i / g.D : Nat) : Int) ((i % g.D : Nat) : Int)) ∧ (-1000 ≤ m.toX ((i / g.D : Nat) : Int) ((i % g.D : Nat) : Int) ∧ m.toX ((i / g.D : Nat) : Int) ((i % g.D : Nat) : Int) ≤ 1000) ∧ (-1000 ≤ m.toY ((i / g.D : Nat) : Int) ((i % g.D : Nat) : Int) ∧ m.toY ((i / g.D : Nat) : Int) ((i % g.D : Nat) : Int) ≤ 1000) := by
  obtain ⟨k, e, f, hk, he, hf, rfl, hs⟩ := (mem_symL hp h _).1 hm
  have h6 := h.a6 hp
  have hD := h.d1
  have h1 : i / g.D < g.A := by rw [Nat.div_lt_iff_lt_mul (by omega)]; exact hi
  have h2 : i % g.D < g.D := Nat.mod_lt _ (by omega)
  unfold sig
  rw [kd_knd hk]
  generalize i / g.D = u at *
  generalize i % g.D = v at *
  rw [knd_toX hk _ _ _ _ (by omega) (by omega) (by omega), knd_toY hk _ _ _ _ (by omega) (by omega) (by omega)]
  have hl := lXY_small (k := k) (e := (u : Int)) (f := (v : Int)) (by omega) (by omega)
  refine ⟨rfl, ?_, ?_⟩ <;> omega
end Go.Proofs.YteibbnmlmbhkpaaDoor

namespace Go.Proofs.YteibbnmlmbhkpaaDoor
open Go.RowKit
set_option linter.unusedVariables false
set_option linter.unusedSimpArgs false
set_option maxHeartbeats 4000000
set_option maxRecDepth 100000

theorem cycles_any {F : MS} {p : List ByteArray} {g : Gd} {gb : Nat} {w : World} (h : PGr F p g gb) (hH : Has w F) {m : Mv} (hm : m ∈ symL p g) :
    Calls Tryd.prog 40 #[.pointer (some ⟨gb, 0, none⟩), m.v] w fun e w' => ∃ c : Nat, e = .returned (.int .i64 c) ∧ CycN g m c ∧ Kp w w' := by
  have hp := h.pok
  have hl := h.lat
  have h6 := hl.a6 hp
  have hA := hl.a1
  have hD := hl.d1
  obtain ⟨r, hr⟩ := Leasts.ex (sig g (kd m) m.e m.f) (g.A * g.D)
  have hkm : kd m < 8 ∧ Sy p (kd m) m.e m.f := by
    obtain ⟨k', e, f, hk', _, _, rfl, hs⟩ := (mem_symL hp hl m).1 hm
    rw [kd_knd hk']
    exact ⟨hk', hs⟩
  obtain ⟨τ, hτ⟩ := sig_perm hp hl hkm.1 hkm.2
  have Hto := hid (fun (i : Nat) (hi : i < g.A * g.D) => sig_to hp hl hm hi)
  have HC := hid (show ∀ c, c = (List.range (g.A * g.D)).countP (fun i => r i == i) → CycN g m c from fun c hc => ⟨r, hr, hc⟩)
  have Hce := hid (fun (W : World) (hW : Has W F) => cells_any h hW)
  have hn36 : g.A * g.D ≤ 6 * 6 := Nat.mul_le_mul h6.1 h6.2.1
  have hn1 : 1 ≤ g.A * g.D := Nat.mul_pos (by omega) (by omega)
  obtain ⟨σ, hσ⟩ : ∃ σ, σ = sig g (kd m) m.e m.f := ⟨_, rfl⟩
  obtain ⟨n, hn⟩ : ∃ n, n = g.A * g.D := ⟨_, rfl⟩
  rw [← hσ] at hr hτ Hto
  rw [← hn] at hr hτ Hto HC Hce hn36 hn1
  have Hr := hid hr
  have Hτ := hid hτ
  have Hmv := hid (fun (x y : Int) (W : World) => to_any m x y W)
  obtain ⟨ma, mb, mc, md, me, mf⟩ := m
  obtain ⟨bm, hbm⟩ : ∃ bm, bm = w.heap.size := ⟨_, rfl⟩
  obtain ⟨W1, hW1⟩ : ∃ W1, W1 = w.alloc (.cells #[.int .i64 ma, .int .i64 mb, .int .i64 mc, .int .i64 md, .int .i64 me, .int .i64 mf] 41) := ⟨_, rfl⟩
  have HB := hid (show Has W1 (blk bm #[.int .i64 ma, .int .i64 mb, .int .i64 mc, .int .i64 md, .int .i64 me, .int .i64 mf] 41 + MS.all w) by rw [hW1, hbm]; exact (Has.all w).alloc _)
  have HE := hid (show Ext w W1 by rw [hW1]; exact Ext.alloc w _)
  have HF1 := hid (hH.of_all HB.out)
  have H := hid h
  have HK1 := hid (show Kp w W1 from ⟨fun M hM => hM.of_all HB.out, HE.out⟩)
  have hnI : (n : Int) ≤ 36 := by omega
  clear hp hl h6 hA hD hr hkm hτ hσ hn h hH hm
  show Calls Tryd.prog 40 #[.pointer (some ⟨gb, 0, none⟩), .agg #[.int .i64 ma, .int .i64 mb, .int .i64 mc, .int .i64 md, .int .i64 me, .int .i64 mf]] w _
  go_enter Tryd.func40, Tryd.ntmps40
  go_wp2_with (first
    | (go_at_call 55; rw [← hW1, ← hbm]; clear hW1 hbm; refine (Hce.out W1 HF1.out).mono ?_; rintro e2 w2 ⟨bx, A, c, X, rfl, k2, hX, hx, hr⟩; have HM := hid (H.out.all' (k2.1 _ HF1.out)); have HX := hid (at_all hx hX); have Hcl := hid (rd_all (F := X) (T := RT.cel) (fun _ _ h => h) hr hX); have K2 := hid (HK1.out.trans k2); have B2 := hid (k2.1 _ HB.out); clear k2 hX hx hr)
    | (refine wpList_make_sl rfl (.tmp 17) (.tmp 17) 119 rfl 4 _ 1 1 und119 info4 .i64 .i64 n rfl rfl (by omega) (by simp only [maxLen]; omega) (MS.all w2) (Has.all w2) ?_; intro v' w3 m3 j1 j2 j3 _; obtain ⟨b, off, c3, cur, rfl, rfl, hc1, hc2, hfl⟩ := flags_made (by omega) j1; have HFl := hid hfl; have J3 := hid j2; have E3 := hid j3; clear j1 j2 j3 hfl))
  have HKp := hid (show ∀ W Y, Has W (Y + MS.all w2) → Ext w2 W → Kp w W from fun W Y hW hE => K2.out.trans ⟨fun M hM => hM.of_all hW, hE⟩)
  have Hmc := hid (show ∀ W Y, Has W (Y + MS.all w2) → (W.cell? ⟨bm, 0, none⟩ = some (.int .i64 ma) ∧ W.cell? ⟨bm, 1, none⟩ = some (.int .i64 mb) ∧ W.cell? ⟨bm, 2, none⟩ = some (.int .i64 mc) ∧ W.cell? ⟨bm, 3, none⟩ = some (.int .i64 md) ∧ W.cell? ⟨bm, 4, none⟩ = some (.int .i64 me) ∧ W.cell? ⟨bm, 5, none⟩ = some (.int .i64 mf)) from fun W Y hW => by
    have hb := B2.out.of_all hW
    exact ⟨hb.at_ rfl, hb.at_ rfl, hb.at_ rfl, hb.at_ rfl, hb.at_ rfl, hb.at_ rfl⟩)
  have Hnum := hid (fun (W : World) (Y : MS) (hW : Has W (Y + MS.all w2)) (x y : Int) (hx : -1000 ≤ x ∧ x ≤ 1000) (hy : -1000 ≤ y ∧ y ≤ 1000) => number_any HM.out HX.out hW.right x y hx hy)
  clear HM HX K2 B2 HB HE HF1 Hce H HK1
  generalize MS.all w2 = M2 at *
  go_loopw [8, 21] (fun vc v wr => ∃ i : Nat, ∃ cur f, i ≤ n ∧ v = .int .i64 i ∧ vc = .int .i64 ((List.range i).countP (fun i => r i == i) : Nat) ∧ Seen σ i 0 f n ∧ FlgA off n f cur ∧ Has wr (blk b cur 4 + M2) ∧ Ext w2 wr) (fun _ v _ => n - (intOf v).toNat)
  case atStart => exact ⟨0, cur, _, Nat.zero_le _, rfl, rfl, Seen.none σ n, HFl.out, J3.out, E3.out⟩
  case round =>
    obtain ⟨i, cur, f, hi, rfl, rfl, hsn, hfl, hW, hE⟩ := hrel
    have HS := hid hsn
    have HFl := hid hfl
    have HW := hid hW
    have HE := hid hE
    clear hsn hfl hW hE
    by_cases hlt : i < n
    · have hltI : (i : Int) < n := by omega
      have Hlt := hid hlt
      have f0 := HFl.out.cell HW.out hlt
      have hturn := HS.out.turn Hτ.out Hr.out hlt
      have Hcs := hid (show (List.range (i + 1)).countP (fun i => r i == i) = (List.range i).countP (fun i => r i == i) + if (r i == i) = true then 1 else 0 by rw [List.range_succ, List.countP_append]; simp [List.countP_cons])
      have hcn : (List.range i).countP (fun i => r i == i) ≤ 36 := by have := List.countP_le_length (p := fun i => r i == i) (l := List.range i); rw [List.length_range] at this; omega
      generalize (List.range i).countP (fun i => r i == i) = cn at *
      have hcnI : (cn : Int) ≤ 36 := by omega
      clear hlt hi
      cases hfi : f i with
      | true =>
        rw [hfi] at f0 hturn
        have Hfi := hid hfi
        have hri : (r i == i) = false := by
          cases hc : (r i == i) with
          | false => rfl
          | true => rw [hc] at hturn; cases hturn
        rw [hri] at Hcs
        clear hfi hturn hri
        go_wp2
        go_roundw
        case rel => exact ⟨i + 1, cur, f, Hlt.out, by go_num, by rw [Hcs.out]; rfl, HS.out.skip Hτ.out Hlt.out Hfi.out, HFl.out, HW.out, HE.out⟩
        case measure => have := Hlt.out; simp [intOf]; omega
      | false =>
        rw [hfi] at f0 hturn
        have hri : (r i == i) = true := by
          cases hc : (r i == i) with
          | true => rfl
          | false => rw [hc] at hturn; cases hturn
        rw [hri] at Hcs
        have Hno := hid (show ¬ ∃ i', i' < i ∧ Cyc σ i' i from fun hc => by
          have := (HS.out i Hlt.out).2 (.inl hc); rw [hfi] at this; cases this)
        clear hfi hturn hri
        obtain ⟨cnt, hcnt⟩ := flags_count b off n M2
        have Hcnt := hid hcnt
        clear hcnt
        go_wp2
        go_loopw [10] (fun v wr => ∃ t : Nat, ∃ cur f, v = .int .i64 (iterN σ t i : Nat) ∧ Seen σ i t f n ∧ (∀ a b, a < b → b < t → iterN σ a i ≠ iterN σ b i) ∧ FlgA off n f cur ∧ Has wr (blk b cur 4 + M2) ∧ Ext w2 wr) (fun _ wr => n - cnt wr)
        case atStart => exact ⟨0, cur, f, rfl, HS.out, fun a b h1 h2 => by omega, HFl.out, HW.out, HE.out⟩
        case round =>
          clear HS HFl HW HE f0
          obtain ⟨t, cur, f, rfl, hsn, hdi, hfl, hW, hE⟩ := hrel
          have HS := hid hsn
          have Hdi := hid hdi
          have HFl := hid hfl
          have HW := hid hW
          have HE := hid hE
          clear hsn hfl hW hE hdi
          have hat : iterN σ t i < n := Hτ.out.iter_lt Hlt.out t
          have Hat := hid hat
          have Hit := hid (show iterN σ (t + 1) i = σ (iterN σ t i) from rfl)
          have HSm := hid HS.out.mark
          have HSr := hid (fun hf => HS.out.round Hτ.out Hlt.out Hno.out hf)
          have HSf := hid (fun hf => HS.out.fresh Hτ.out Hlt.out hf Hdi.out)
          generalize iterN σ t i = a at *
          have haI : (a : Int) < n := by omega
          have f0 := HFl.out.cell HW.out hat
          clear hat
          cases hfa : f a with
          | true =>
            rw [hfa] at f0
            have Hr2 := hid (HSr.out hfa)
            clear hfa
            go_wp2
            go_roundw
            case rel => exact ⟨i + 1, cur, f, Hlt.out, by go_num, by rw [Hcs.out]; go_num, Hr2.out, HFl.out, HW.out, HE.out⟩
            case measure => have := Hlt.out; simp [intOf]; omega
          | false =>
            rw [hfa] at f0
            have Hfa := hid hfa
            have Hdn := hid (HSf.out hfa)
            clear hfa
            have hcel : (celL g.D n)[a]? = some (a / g.D, a % g.D) := by
              unfold celL
              rw [List.getElem?_map, List.getElem?_range Hat.out]; rfl
            obtain ⟨bA, oA, cs, hA', hcs', hcat⟩ := Hcl.out.get hcel (by decide)
            obtain rfl : cs = [.int .i64 (a / g.D : Nat), .int .i64 (a % g.D : Nat)] := hcs'
            subst hA'
            have hto := Hto.out a Hat.out
            obtain ⟨u, hu⟩ : ∃ u : Int, u = ((a / g.D : Nat) : Int) := ⟨_, rfl⟩
            obtain ⟨v, hv⟩ : ∃ v : Int, v = ((a % g.D : Nat) : Int) := ⟨_, rfl⟩
            rw [← hu, ← hv] at hto hcat
            have Hmvv := hid (fun W => show Calls Tryd.prog 42 #[.agg #[.int .i64 ma, .int .i64 mb, .int .i64 mc, .int .i64 md, .int .i64 me, .int .i64 mf], .int .i64 u, .int .i64 v] W fun e w' => e = .returned (.tuple #[.int .i64 ((⟨ma, mb, mc, md, me, mf⟩ : Mv).toX u v), .int .i64 ((⟨ma, mb, mc, md, me, mf⟩ : Mv).toY u v)]) ∧ Kp W w' from Hmv.out u v W)
            have KA := hid (show ∀ W cur', Has W (blk b cur' 4 + M2) → (W.cell? ⟨bm, 0, none⟩ = some (.int .i64 ma) ∧ W.cell? ⟨bm, 1, none⟩ = some (.int .i64 mb) ∧ W.cell? ⟨bm, 2, none⟩ = some (.int .i64 mc) ∧ W.cell? ⟨bm, 3, none⟩ = some (.int .i64 md) ∧ W.cell? ⟨bm, 4, none⟩ = some (.int .i64 me) ∧ W.cell? ⟨bm, 5, none⟩ = some (.int .i64 mf) ∧ W.cell? ⟨bA, oA + a * 2, none⟩ = some (.int .i64 u) ∧ W.cell? ⟨bA, oA + a * 2 + 1, none⟩ = some (.int .i64 v)) from fun W cur' hW => by
              obtain ⟨c0, c1, c2, c3, c4, c5⟩ := Hmc.out W _ hW
              refine ⟨c0, c1, c2, c3, c4, c5, ?_, ?_⟩
              · exact (hcat 0 _ rfl).c0 hW.right
              · exact (hcat 1 _ rfl).c0 hW.right)
            have Hnx := hid hto
            clear hcel hcat hto hu hv
            generalize (⟨ma, mb, mc, md, me, mf⟩ : Mv).toX u v = tx at *
            generalize (⟨ma, mb, mc, md, me, mf⟩ : Mv).toY u v = ty at *
            go_wp2_with (refine wpList_store_blk rfl (.tmp 54) (.const (.bool true)) 4 rfl size4 b (off + a) (.bool true) rfl rfl rfl cur 4 M2 HW.out (by have := HFl.out.1; have := Hat.out; omega) ?_; intro w6 k1 k2; have J6 := hid k1; have E6 := hid (HE.out.trans k2); clear k1 k2)
            have hS := KA.out w6.drew _ J6.out.drew
            refine wp_region_txt (fun W => W.cell? ⟨bm, 0, none⟩ = some (.int .i64 ma) ∧ W.cell? ⟨bm, 1, none⟩ = some (.int .i64 mb) ∧ W.cell? ⟨bm, 2, none⟩ = some (.int .i64 mc) ∧ W.cell? ⟨bm, 3, none⟩ = some (.int .i64 md) ∧ W.cell? ⟨bm, 4, none⟩ = some (.int .i64 me) ∧ W.cell? ⟨bm, 5, none⟩ = some (.int .i64 mf) ∧ W.cell? ⟨bA, oA + a * 2, none⟩ = some (.int .i64 u) ∧ W.cell? ⟨bA, oA + a * 2 + 1, none⟩ = some (.int .i64 v)) none
              [(0, true), (1, true), (2, true), (3, true), (4, true), (5, true), (6, true), (7, true), (8, true), (9, true), (10, true), (11, true), (12, false), (13, true), (14, true), (15, false), (16, true)] (by kernel_rfl) rfl (by kernel_rfl) (by kernel_rfl) (by repeat (first | with_reducible refine PanicOk.thn ?_ | with_reducible refine PanicOk.blk ?_ | exact PanicOk.body _ _ _)) ?_
            repeat
              (refine txt_quiet ?_ hS rfl rfl (fun W hW => ?_) ?_
               rotate_left 1
               · obtain ⟨hW1, hW2, hW3, hW4, hW5, hW6, hW7, hW8⟩ := hW
                 go_simp
                 exact rfl
               simp only [Act.put, List.setIfInBounds_toArray, List.set_cons_zero, List.set_cons_succ])
            refine txt_op rfl rfl ?_
            refine op_call 42 #[.agg #[.int .i64 ma, .int .i64 mb, .int .i64 mc, .int .i64 md, .int .i64 me, .int .i64 mf], .int .i64 u, .int .i64 v] w6.drew (by go_simp) _ (Hmvv.out w6.drew) ?_
            rintro e1 w7 ⟨rfl, k1⟩
            have J7 := hid (k1.1 _ J6.out.drew)
            have E7 := hid ((E6.out.trans (Ext.drew _)).trans k1.2)
            refine ⟨_, rfl, fun _ => KA.out w7 _ J7.out, ?_⟩
            clear hS k1
            simp only [Act.put, List.setIfInBounds_toArray, List.set_cons_zero, List.set_cons_succ]
            have hS := KA.out w7 _ J7.out
            repeat
              (refine txt_quiet ?_ hS rfl rfl (fun W hW => ?_) ?_
               rotate_left 1
               · obtain ⟨hW1, hW2, hW3, hW4, hW5, hW6, hW7, hW8⟩ := hW
                 go_simp
                 exact rfl
               simp only [Act.put, List.setIfInBounds_toArray, List.set_cons_zero, List.set_cons_succ])
            refine txt_op rfl rfl ?_
            refine op_call 78 #[.int .i64 tx, .int .i64 ty, .pointer (some ⟨bx, 0, none⟩)] w7 (by go_simp) _ (Hnum.out w7 _ J7.out tx ty Hnx.out.2.1 Hnx.out.2.2) ?_
            rintro e2 w8 ⟨rfl, k1⟩
            have J8 := hid (k1.1 _ J7.out)
            have E8 := hid (E7.out.trans k1.2)
            refine ⟨_, rfl, fun _ => KA.out w8 _ J8.out, ?_⟩
            clear hS k1
            simp only [Act.put, List.setIfInBounds_toArray, List.set_cons_zero, List.set_cons_succ]
            have hS := KA.out w8 _ J8.out
            repeat
              (refine txt_quiet ?_ hS rfl rfl (fun W hW => ?_) ?_
               rotate_left 1
               · obtain ⟨hW1, hW2, hW3, hW4, hW5, hW6, hW7, hW8⟩ := hW
                 go_simp
                 exact rfl
               simp only [Act.put, List.setIfInBounds_toArray, List.set_cons_zero, List.set_cons_succ])
            refine txt_done ?_
            go_wp2
            go_roundw
            case rel => exact ⟨t + 1, _, _, by rw [Hit.out, Hnx.out.1], HSm.out, Hdn.out, HFl.out.set Hat.out, J8.out, E8.out⟩
            case measure =>
              have h1 := Hcnt.out _ _ _ HFl.out HW.out
              have h2 := Hcnt.out _ _ _ (HFl.out.set Hat.out) J8.out
              rw [count_mark Hat.out Hfa.out] at h2
              have h3 := List.countP_le_length (p := fun j => if j = a then true else f j) (l := List.range n)
              rw [count_mark Hat.out Hfa.out, List.length_range] at h3
              omega
    · have hie : i = n := by omega
      subst hie
      clear hlt hi
      go_wp2
      go_ret
      exact ⟨_, rfl, HC.out _ rfl, HKp.out _ _ HW.out HE.out⟩
end Go.Proofs.YteibbnmlmbhkpaaDoor

namespace Go.Proofs.YteibbnmlmbhkpaaDoor
open Go.RowKit
set_option linter.unusedVariables false
set_option linter.unusedSimpArgs false
set_option maxHeartbeats 4000000
set_option maxRecDepth 100000

/-- What Colourings hands back. -/
def ColRes (p : List ByteArray) (k : Nat) (w : World) (e : Ending) (w' : World) : Prop :=
  ∃ a er : Int, e = .returned (.tuple #[.int .i64 a, .int .i64 er]) ∧ Kp w w' ∧ (isPat p = false → a = 0 ∧ er = 2) ∧
    (isPat p = true → ∃ g, IsLat p g ∧ (16 < g.A * g.D → a = 0 ∧ er = 8) ∧ (g.A * g.D ≤ 16 → er = 0 ∧ ∃ cyc : Mv → Nat, (∀ m ∈ symL p g, CycN g m (cyc m)) ∧ a = ((sumL (fun m => k ^ cyc m) (symL p g) / (symL p g).length : Nat) : Int)))
theorem colourings_no {F : MS} {p : List ByteArray} {A : Option Addr} {c : Nat} {w : World} (h : Giv F p A c) (hH : Has w F) (k : Nat) (hp : isPat p = false) :
    Calls Tryd.prog 18 #[.slice A p.length c, .int .i64 k] w (ColRes p k w) := by
  have Hof := hid (of_any h.rd h.l h.s hH)
  have Hq := hid hp
  rw [hp] at Hof
  clear h hH hp
  go_enter Tryd.func18, Tryd.ntmps18
  go_wp2_with (go_at_call 33; refine Hof.out.mono ?_; rintro e1 w1 ⟨r, rfl, k1, _⟩; have K1 := hid k1; clear k1)
  go_ret2
  exact ⟨0, 2, rfl, K1.out, fun _ => ⟨rfl, rfl⟩, fun h => by rw [Hq.out] at h; cases h⟩
theorem colourings_big {F : MS} {p : List ByteArray} {A : Option Addr} {c : Nat} {w : World} (h : Giv F p A c) (hk : KinOk F) (hH : Has w F) (k : Nat) (h1 : 1 ≤ k) (h4 : k ≤ 4) (hp : isPat p = true) (hbig : ∀ g, IsLat p g → 16 < g.A * g.D) :
    Calls Tryd.prog 18 #[.slice A p.length c, .int .i64 k] w (ColRes p k w) := by
  have Hof := hid (of_any h.rd h.l h.s hH)
  have Hq := hid hp
  have Hk := hid hk
  have HH := hid hH
  have Hbig := hid hbig
  rw [hp] at Hof
  have Hgr := hid (fun (W : World) (X : MS) (fb : Nat) (hf : Flo X p fb) (hW : Has W X) (hF : Has W F) => group_any (hf.all hW) (isPat.ok hp).1 (Hk.out.all hF) (Has.all W))
  have h1I : ¬ ((k : Int) < 1) := by omega
  have h4I : ¬ (4 < (k : Int)) := by omega
  clear h hH hp hk h1 h4 hbig
  go_enter Tryd.func18, Tryd.ntmps18
  go_wp2_with (first
    | (go_at_call 33; refine Hof.out.mono ?_; rintro e1 w1 ⟨r, rfl, k1, kf⟩; obtain ⟨fb, X, rfl, kX, kF⟩ := kf rfl; have K1 := hid k1; have KX := hid kX; have KF := hid kF; clear k1 kX kF kf)
    | (go_at_call 36; refine (Hgr.out _ X fb KF.out KX.out (K1.out.1 _ HH.out)).mono ?_; rintro e2 w2 ⟨g, gb, Y, rfl, hg, hY, k2⟩; have Hg := hid hg; have K2 := hid (K1.out.trans k2); have f0 := hg.c0.c0 hY; have f2 := hg.c2.c0 hY; clear hg hY k2))
  have hb := Hbig.out g Hg.out.lat
  have h6 := Hg.out.lat.a6 Hg.out.pok
  have hle : g.A * g.D ≤ 6 * 6 := Nat.mul_le_mul h6.1 h6.2.1
  obtain ⟨q, hq⟩ : ∃ q : Int, q = (g.A : Int) * g.D := ⟨_, rfl⟩
  have hqr : 16 < q ∧ q ≤ 36 := by rw [hq, ← Int.natCast_mul]; omega
  have u1 : IntKind.i64.wrap ((g.A : Int) * g.D) = q := by rw [← hq, IntKind.wrap_i64]; omega
  have u2 : wrap64 ((g.A : Int) * g.D) = q := by rw [← hq]; unfold wrap64; omega
  have hq16 : 16 < q := hqr.1
  clear hb h6 hle hq hqr
  go_quiet (fail)
  go_wp2
  go_ret2
  exact ⟨0, 8, rfl, K2.out.drewN _, fun h => (by rw [Hq.out] at h; cases h), fun _ => ⟨g, Hg.out.lat, fun _ => ⟨rfl, rfl⟩, fun h => absurd (Hbig.out g Hg.out.lat) (by omega)⟩⟩
end Go.Proofs.YteibbnmlmbhkpaaDoor

namespace Go.Proofs.YteibbnmlmbhkpaaDoor
open Go.RowKit
set_option linter.unusedVariables false
set_option linter.unusedSimpArgs false
set_option maxHeartbeats 4000000
set_option maxRecDepth 100000

theorem CycN.le {g : Gd} {m : Mv} {c : Nat} (h : CycN g m c) : c ≤ g.A * g.D := by
  obtain ⟨r, hr, rfl⟩ := h
  have := List.countP_le_length (p := fun i => r i == i) (l := List.range (g.A * g.D))
  rwa [List.length_range] at this
theorem pow_small {k c : Nat} (hk : k ≤ 4) (hc : c ≤ 16) : k ^ c ≤ 4294967296 := by
  have h1 : k ^ c ≤ 4 ^ c := Nat.pow_le_pow_left hk c
  have h2 : 4 ^ c ≤ 4 ^ 16 := Nat.pow_le_pow_right (by omega) hc
  have h3 : 4 ^ 16 = 4294967296 := by decide
  omega
theorem sum_small {α : Type} {f : α → Nat} {B : Nat} : ∀ {l : List α}, (∀ x ∈ l, f x ≤ B) → sumL f l ≤ l.length * B
  | [], _ => by simp [sumL]
  | x :: l, h => by
    have h1 := h x (by simp)
    have h2 := sum_small (l := l) fun y hy => h y (by simp [hy])
    show f x + sumL f l ≤ (l.length + 1) * B
    rw [Nat.add_mul]; omega
theorem colourings_ok {F : MS} {p : List ByteArray} {A : Option Addr} {c : Nat} {w : World} (h : Giv F p A c) (hk : KinOk F) (hH : Has w F) (k : Nat) (h1 : 1 ≤ k) (h4 : k ≤ 4) (hp : isPat p = true) (hsm : ∀ g, IsLat p g → g.A * g.D ≤ 16) :
    Calls Tryd.prog 18 #[.slice A p.length c, .int .i64 k] w (ColRes p k w) := by
  have Hof := hid (of_any h.rd h.l h.s hH)
  have Hq := hid hp
  have Hk := hid hk
  have HH := hid hH
  have Hsm := hid hsm
  rw [hp] at Hof
  have Hgr := hid (fun (W : World) (X : MS) (fb : Nat) (hf : Flo X p fb) (hW : Has W X) (hF : Has W F) => group_any (hf.all hW) (isPat.ok hp).1 (Hk.out.all hF) (Has.all W))
  have h1I : ¬ ((k : Int) < 1) := by omega
  have h4I : ¬ (4 < (k : Int)) := by omega
  have H4 := hid h4
  clear h hH hp hk h1 h4 hsm
  go_enter Tryd.func18, Tryd.ntmps18
  go_wp2_with (first
    | (go_at_call 33; refine Hof.out.mono ?_; rintro e1 w1 ⟨r, rfl, k1, kf⟩; obtain ⟨fb, X, rfl, kX, kF⟩ := kf rfl; have K1 := hid k1; have KX := hid kX; have KF := hid kF; clear k1 kX kF kf)
    | (go_at_call 36; refine (Hgr.out _ X fb KF.out KX.out (K1.out.1 _ HH.out)).mono ?_; rintro e2 w2 ⟨g, gb, Y, rfl, hg, hY, k2⟩; have Hg := hid hg; have HY := hid hY; have K2 := hid (K1.out.trans k2); have f0 := hg.c0.c0 hY; have f2 := hg.c2.c0 hY; clear hg hY k2))
  have hb := Hsm.out g Hg.out.lat
  have hA := Hg.out.lat.a1
  have hD := Hg.out.lat.d1
  obtain ⟨q, hq⟩ : ∃ q : Int, q = (g.A : Int) * g.D := ⟨_, rfl⟩
  have hqr : 0 ≤ q ∧ q ≤ 16 := by rw [hq, ← Int.natCast_mul]; omega
  have u1 : IntKind.i64.wrap ((g.A : Int) * g.D) = q := by rw [← hq, IntKind.wrap_i64]; omega
  have u2 : wrap64 ((g.A : Int) * g.D) = q := by rw [← hq]; unfold wrap64; omega
  have hq16 : ¬ (16 < q) := by omega
  clear hq hqr hA hD
  go_quiet (fail)
  go_simp
  generalize hwd : w2.drewN _ = wd
  have KY := hid (show Has wd Y by rw [← hwd]; exact HY.out.drewN _)
  have K3 := hid (show Kp w wd by rw [← hwd]; exact K2.out.drewN _)
  clear hwd f0 f2 u1 u2 hq16 HY K2
  obtain ⟨cyc, hcyc⟩ := Classical.axiomOfChoice (fun m => CycN.ex g m)
  have Hcyc := hid hcyc
  obtain ⟨A', c', ha1, ha2⟩ := Hg.out.all
  have Ha2 := hid ha2
  have Hf3 := hid (show ∀ W, Kp wd W → W.cell? ⟨gb, 3, none⟩ = some (.slice A' (symL p g).length c') from fun W hW => ha1.c0 (hW.1 _ KY.out))
  have f3 := Hf3.out wd (Kp.refl _)
  have Hcy := hid (fun (W : World) (hW : Kp wd W) (m : Mv) (hm : m ∈ symL p g) => show Calls Tryd.prog 40 #[.pointer (some ⟨gb, 0, none⟩), m.v] W fun e w' => e = .returned (.int .i64 (cyc m : Nat)) ∧ Kp W w' from (cycles_any Hg.out (hW.1 _ KY.out) hm).mono fun e w' he => by
    obtain ⟨c, h1, h2, h3⟩ := he
    rw [h2.uniq (hcyc m)] at h1
    exact ⟨h1, h3⟩)
  have hN1 := symL_one Hg.out.pok Hg.out.lat
  have hN8 := symL_le Hg.out.pok Hg.out.lat
  have Hle := hid (fun m => Nat.le_trans (hcyc m).le hb)
  clear ha1 ha2 hcyc hb
  go_wp2
  generalize hl : symL p g = l at *
  have Hl := hid hl
  have hNI : (l.length : Int) ≤ 8 := by omega
  have hN0 : ¬ ((l.length : Int) = 0) := by omega
  have hnc := Ha2.out.cells.2.1
  have Hpw := hid (fun (m : Mv) => pow_small H4.out (Hle.out m))
  have Hpw2 := hid (fun (j : Nat) (hj : j ≤ 16) => pow_small H4.out hj)
  clear hl
  go_loopw [10, 50] (fun vs v wr => ∃ i : Nat, i ≤ l.length ∧ v = .int .i64 i ∧ vs = .int .i64 (sumL (fun m => k ^ cyc m) (l.take i) : Nat) ∧ Kp wd wr) (fun _ v _ => l.length - (intOf v).toNat)
  case atStart => exact ⟨0, Nat.zero_le _, rfl, rfl, Kp.refl _⟩
  case round =>
    obtain ⟨i, hi, rfl, rfl, hK⟩ := hrel
    have HK := hid hK
    have g3 := Hf3.out wr hK
    clear hK
    have hsb := sum_small (f := fun m => k ^ cyc m) (l := l.take i) (fun m _ => Hpw.out m)
    have hlen : (l.take i).length ≤ 8 := by rw [List.length_take]; omega
    have hsb2 : sumL (fun m => k ^ cyc m) (l.take i) ≤ 8 * 4294967296 := Nat.le_trans hsb (Nat.mul_le_mul_right _ hlen)
    by_cases hlt : i < l.length
    · have hltI : (i : Int) < l.length := by omega
      have Hlt := hid hlt
      obtain ⟨m, hm⟩ : ∃ m, l[i]? = some m := ⟨_, List.getElem?_eq_getElem hlt⟩
      obtain ⟨b, o, hA', hcs⟩ := Ha2.out.mvAt hm
      subst hA'
      obtain ⟨n0, n1, n2, n3, n4, n5⟩ := hcs wr (HK.out.1 _ KY.out)
      have Hsu := hid (show sumL (fun m => k ^ cyc m) (l.take (i + 1)) = sumL (fun m => k ^ cyc m) (l.take i) + k ^ cyc m by rw [take_more hm, sumL_append]; rfl)
      have Hcm := hid (fun W hW => Hcy.out W hW m (List.mem_of_getElem? hm))
      have hpm := Hpw.out m
      have hlm := Hle.out m
      generalize cyc m = cm at *
      obtain ⟨s, hs⟩ : ∃ s, s = sumL (fun m => k ^ cyc m) (l.take i) := ⟨_, rfl⟩
      rw [← hs] at Hsu hsb2 ⊢
      clear hs hsb hlen hm hlt hi hcs
      obtain ⟨ma, mb, mc, md, me, mf⟩ := m
      have HKa := hid (show Kp wd (wr.alloc (.cells #[.int .i64 ma, .int .i64 mb, .int .i64 mc, .int .i64 md, .int .i64 me, .int .i64 mf] 41)) from HK.out.trans ⟨fun M hM => hM.of_all ((Has.all wr).alloc _), Ext.alloc _ _⟩)
      go_wp2_with (go_at_call 40; refine (Hcm.out _ HKa.out).mono ?_; rintro e4 w4 ⟨rfl, k4⟩; have K4 := hid (HKa.out.trans k4); clear k4)
      have hcI : (cm : Int) ≤ 16 := by omega
      go_loopw [13, 57] (fun vf v wq => ∃ j : Nat, j ≤ cm ∧ v = .int .i64 j ∧ vf = .int .i64 (k ^ j : Nat) ∧ Kp wd wq) (fun _ v _ => cm - (intOf v).toNat)
      case atStart => exact ⟨0, Nat.zero_le _, rfl, by rw [Nat.pow_zero]; rfl, K4.out⟩
      case round =>
        clear K4
        obtain ⟨j, hj, rfl, rfl, hK4⟩ := hrel
        have K4 := hid hK4
        clear hK4
        by_cases hlj : j < cm
        · have hljI : (j : Int) < cm := by omega
          have Hlj := hid hlj
          have hp1 := Hpw2.out (j + 1) (by omega)
          obtain ⟨z, hz⟩ : ∃ z, z = k ^ (j + 1) := ⟨_, rfl⟩
          have hz2 : ((k ^ j : Nat) : Int) * k = (z : Int) := by rw [hz, Nat.pow_succ, Int.natCast_mul]
          rw [← hz] at hp1
          have Hz := hid hz
          generalize k ^ j = y at *
          have u1 : IntKind.i64.wrap ((y : Int) * k) = z := by rw [hz2, IntKind.wrap_i64]; omega
          have u2 : wrap64 ((y : Int) * k) = z := by rw [hz2]; unfold wrap64; omega
          clear hlj hj hz hz2 hp1
          go_wp2
          go_roundw
          case rel => exact ⟨j + 1, Hlj.out, by go_num, by rw [← Hz.out], K4.out⟩
          case measure => have := Hlj.out; simp [intOf]; omega
        · have hje : j = cm := by omega
          subst hje
          clear hlj hj
          obtain ⟨y, hy⟩ : ∃ y, y = k ^ j := ⟨_, rfl⟩
          rw [← hy] at Hsu hpm ⊢
          have u1 : IntKind.i64.wrap ((s : Int) + y) = ((s + y : Nat) : Int) := by rw [IntKind.wrap_i64]; omega
          have u2 : wrap64 ((s : Int) + y) = ((s + y : Nat) : Int) := by unfold wrap64; omega
          clear hy
          go_wp2
          go_roundw
          case rel => exact ⟨i + 1, Hlt.out, by go_num, by rw [Hsu.out]; go_num, K4.out⟩
          case measure => have := Hlt.out; simp [intOf]; omega
    · have hie : i = l.length := by omega
      rw [hie, List.take_length] at hsb2 ⊢
      subst hie
      clear hlt hi hsb hlen
      obtain ⟨s, hs⟩ : ∃ s, s = sumL (fun m => k ^ cyc m) l := ⟨_, rfl⟩
      rw [← hs] at hsb2 ⊢
      have Hs := hid hs
      have hdv := Nat.div_le_self s l.length
      have td0 : (s : Int).tdiv (l.length : Int) = ((s / l.length : Nat) : Int) := by rw [Int.tdiv_eq_ediv_of_nonneg (Int.natCast_nonneg s)]; rfl
      obtain ⟨q, hq⟩ : ∃ q, q = s / l.length := ⟨_, rfl⟩
      rw [← hq] at hdv td0
      have Hqq := hid hq
      have hq2 : (q : Int) ≤ 34359738368 := by omega
      have u1 : IntKind.i64.wrap (q : Int) = (q : Int) := by rw [IntKind.wrap_i64]; omega
      have u2 : wrap64 (q : Int) = (q : Int) := by unfold wrap64; omega
      clear hs hdv hq hq2
      go_wp2
      go_ret2
      exact ⟨_, 0, rfl, K3.out.trans HK.out, fun h => (by rw [Hq.out] at h; cases h), fun _ => ⟨g, Hg.out.lat, fun h => absurd (Hsm.out g Hg.out.lat) (by omega), fun _ => ⟨rfl, cyc, fun m _ => Hcyc.out m, by rw [Hl.out, ← Hs.out, ← Hqq.out]⟩⟩⟩
theorem colourings_any {F : MS} {p : List ByteArray} {A : Option Addr} {c : Nat} {w : World} (h : Giv F p A c) (hk : KinOk F) (hH : Has w F) (k : Nat) (h1 : 1 ≤ k) (h4 : k ≤ 4) :
    Calls Tryd.prog 18 #[.slice A p.length c, .int .i64 k] w (ColRes p k w) := by
  cases hp : isPat p with
  | false => exact colourings_no h hH k hp
  | true =>
    by_cases hx : ∃ g, IsLat p g ∧ g.A * g.D ≤ 16
    · obtain ⟨g, hg, hs⟩ := hx
      exact colourings_ok h hk hH k h1 h4 hp fun g' hg' => by rw [hg'.uniq hg]; exact hs
    · exact colourings_big h hk hH k h1 h4 hp fun g hg => Nat.lt_of_not_le fun hle => hx ⟨g, hg, hle⟩
end Go.Proofs.YteibbnmlmbhkpaaDoor

namespace Go.Proofs.YteibbnmlmbhkpaaDoor
open Go.RowKit
set_option linter.unusedVariables false
set_option linter.unusedSimpArgs false
set_option maxRecDepth 100000

/-- Cells of an array that hold numbers. -/
def NumA (off n : Nat) (f : Nat → Nat) (cur : Array Value) : Prop := off + n ≤ cur.size ∧ ∀ j, j < n → cur[off + j]? = some (.int .i64 (f j))
theorem NumA.set {off n : Nat} {f : Nat → Nat} {cur : Array Value} (h : NumA off n f cur) {a : Nat} (ha : a < n) (x : Nat) : NumA off n (fun j => if j = a then x else f j) (cur.setIfInBounds (off + a) (.int .i64 x)) := by
  refine ⟨by rw [Array.size_setIfInBounds]; exact h.1, fun j hj => ?_⟩
  by_cases hc : j = a
  · rw [hc, Array.getElem?_setIfInBounds_self_of_lt (by have := h.1; omega)]; simp
  · rw [Array.getElem?_setIfInBounds_ne (by omega), h.2 j hj]; simp [hc]
theorem nums_made {n : Nat} {v : Value} {m : MS} (hn : 1 ≤ n) (h : Sl 3 1 v n (madeCells (Value.int .i64 0).cells (n * 1)).toList m) : ∃ b off c cur, v = .slice (some ⟨b, off, none⟩) n c ∧ m = blk b cur 3 ∧ n ≤ c ∧ c ≤ maxLen ∧ NumA off n (fun _ => 0) cur := by
  obtain ⟨h0, h1⟩ := h
  rcases h1 with ⟨_, h2, _⟩ | ⟨b, off, c, cur, h2, h3, h4, h5, h6, h7⟩
  · omega
  · refine ⟨b, off, c, cur, h2, h3, h4, h5, by omega, fun j hj => ?_⟩
    rw [h7 j (by omega)]
    have e : (madeCells (Value.int .i64 0).cells (n * 1)).toList = List.replicate n (.int .i64 0) := by
      rw [Nat.mul_one]; exact toList_madeCells_one (.int .i64 0) n
    rw [e, List.getElem?_replicate, if_pos hj]; rfl
theorem NumA.cell {W : World} {F : MS} {b off n : Nat} {f : Nat → Nat} {cur : Array Value} (h : NumA off n f cur) (hW : Has W (blk b cur 3 + F)) {j : Nat} (hj : j < n) : W.cell? ⟨b, off + j, none⟩ = some (.int .i64 (f j)) := hW.at_ (h.2 j hj)
theorem info3 : (Tryd.prog.info? 3).map (fun i => (i.zero, i.size, i.bytes)) = some (some (.int .i64 0), 1, 8) := by kernel_rfl
theorem und55 : Tryd.prog.underlying 55 = some (.slice 3) := by kernel_rfl
theorem valD_head {k : Nat} {c : Nat → Nat} : ∀ n : Nat, valD k c (n + 1) = c 0 + k * valD k (fun j => c (j + 1)) n
  | 0 => by simp [valD]
  | n + 1 => by
    show valD k c (n + 1) + c (n + 1) * k ^ (n + 1) = _
    rw [valD_head n]
    show _ = c 0 + k * (valD k (fun j => c (j + 1)) n + c (n + 1) * k ^ n)
    rw [Nat.mul_add, Nat.pow_succ, show k * (c (n + 1) * k ^ n) = c (n + 1) * (k ^ n * k) by rw [Nat.mul_left_comm, Nat.mul_comm k]]
    omega
theorem dig_next (k i x : Nat) : x / k ^ i / k = x / k ^ (i + 1) := by rw [Nat.pow_succ, Nat.div_div_eq_div_mul]
/-- After i cells. -/
def Half (σ : Nat → Nat) (k n x i : Nat) (f : Nat → Nat) : Prop := (∀ j, j < n → f j < k) ∧ ∀ j, j < i → f (σ j) = dig k j x
theorem Half.step {σ τ : Nat → Nat} {k n x i : Nat} {f : Nat → Nat} (h : Half σ k n x i f) (hp : Perm σ τ n) (hk : 1 ≤ k) (hi : i < n) : Half σ k n x (i + 1) (fun j => if j = σ i then dig k i x else f j) := by
  refine ⟨fun j hj => ?_, fun j hj => ?_⟩
  · show (if j = σ i then dig k i x else f j) < k
    split
    · exact dig_lt hk _ _
    · exact h.1 j hj
  · show (if σ j = σ i then dig k i x else f (σ j)) = dig k j x
    by_cases hc : j = i
    · subst hc; rw [if_pos rfl]
    · rw [if_neg, h.2 j (by omega)]
      intro he
      apply hc
      rw [← hp.ts j (by omega), ← hp.ts i hi, he]
theorem Half.mvd {σ τ : Nat → Nat} {k n x : Nat} {f : Nat → Nat} (h : Half σ k n x n f) (hp : Perm σ τ n) (hk : 1 ≤ k) : Mvd σ k n x (valD k f n) :=
  ⟨valD_lt hk h.1, fun i hi => by rw [dig_valD hk h.1 (hp.s i hi), h.2 i hi]⟩
theorem least_nat {P : Nat → Prop} : ∀ n : Nat, P n → ∃ m, m ≤ n ∧ P m ∧ ∀ j, j < m → ¬ P j := by
  intro n
  induction n using Nat.strongRecOn with
  | ind n ih =>
    intro hn
    by_cases hx : ∃ j, j < n ∧ P j
    · obtain ⟨j, hj, hP⟩ := hx
      obtain ⟨m, h1, h2, h3⟩ := ih j hj hP
      exact ⟨m, by omega, h2, h3⟩
    · exact ⟨n, Nat.le_refl _, hn, fun j hj hP => hx ⟨j, hj, hP⟩⟩
/-- A pattern has a lattice. -/
theorem IsLat.ex {p : List ByteArray} (hp : PatOk p) : ∃ g, IsLat p g := by
  obtain ⟨D, hD1, ⟨hD2, hD3⟩, hD4⟩ := least_nat (P := fun d => 1 ≤ d ∧ (d < p.length → shB p 0 d = true)) p.length ⟨hp.h1, fun h => absurd h (Nat.lt_irrefl _)⟩
  obtain ⟨A, hA1, ⟨hA2, hA3⟩, hA4⟩ := least_nat (P := fun a => 1 ≤ a ∧ (a < wd p → ∃ y, y < D ∧ shB p a y = true)) (wd p) ⟨hp.w1, fun h => absurd h (Nat.lt_irrefl _)⟩
  have hDm : ∀ y, 1 ≤ y → y < D → shB p 0 y = false := fun y h1 h2 => by
    cases h : shB p 0 y with
    | false => rfl
    | true => exact absurd ⟨h1, fun _ => h⟩ (hD4 y h2)
  have hAm : ∀ x, 1 ≤ x → x < A → ∀ y, y < D → shB p x y = false := fun x h1 h2 y hy => by
    cases h : shB p x y with
    | false => rfl
    | true => exact absurd ⟨h1, fun _ => ⟨y, hy, h⟩⟩ (hA4 x h2)
  by_cases hw : A = wd p
  · exact ⟨⟨A, 0, D⟩, hD2, hD1, hDm, hD3, hA2, hA1, by show 0 < D; omega, hAm, fun h => absurd hw (Nat.ne_of_lt h), fun _ => rfl⟩
  · obtain ⟨y, hy, hs⟩ := hA3 (by omega)
    obtain ⟨B, hB1, hB2, hB3⟩ := least_nat (P := fun b => shB p A b = true) y hs
    exact ⟨⟨A, B, D⟩, hD2, hD1, hDm, hD3, hA2, hA1, by show B < D; omega, hAm, fun _ => ⟨hB2, fun j hj => by
      cases h : shB p A j with
      | false => rfl
      | true => exact absurd h (hB3 j hj)⟩, fun h => absurd h hw⟩
/-- Go's reduced cell. -/
theorem go_red {A B D : Nat} (hA : 1 ≤ A ∧ A ≤ 6) (hD : 1 ≤ D ∧ D ≤ 6) (hB : B < D) {x y : Int} (hx : -1000 ≤ x ∧ x ≤ 1000) (hy : -1000 ≤ y ∧ y ≤ 1000) :
    ∃ r q qb s t : Int, r = redX ⟨A, B, D⟩ x ∧ s = redY ⟨A, B, D⟩ x y ∧ (0 ≤ r ∧ r < A) ∧ (0 ≤ s ∧ s < D) ∧ (-6 ≤ x.tmod A ∧ x.tmod A ≤ 6) ∧ (x.tmod A + A).tmod A = r ∧ (x - r).tdiv A = q ∧ (-1000 ≤ q ∧ q ≤ 1000) ∧ q * B = qb ∧ (-6000 ≤ qb ∧ qb ≤ 6000) ∧ y - qb = t ∧ (-6 ≤ t.tmod D ∧ t.tmod D ≤ 6) ∧ (t.tmod D + D).tmod D = s := by
  have hxq : x - x % (A : Int) = (A : Int) * (x / A) := by have := Int.emod_add_mul_ediv x A; omega
  have hA0 : ¬ (A : Int) = 0 := by omega
  obtain ⟨a1, a2, a3⟩ := mod_go (n := x) (m := (A : Int)) (by omega)
  obtain ⟨b1, b2, b3⟩ := mod_go (n := y - x / A * B) (m := (D : Int)) (by omega)
  have hq1 : -1000 ≤ x / (A : Int) ∧ x / (A : Int) ≤ 1000 := by
    have h6 : A = 1 ∨ A = 2 ∨ A = 3 ∨ A = 4 ∨ A = 5 ∨ A = 6 := by omega
    rcases h6 with rfl | rfl | rfl | rfl | rfl | rfl <;> omega
  refine ⟨x % (A : Int), x / (A : Int), x / (A : Int) * B, (y - x / A * B) % (D : Int), y - x / A * B, rfl, rfl, ⟨Int.emod_nonneg _ hA0, Int.emod_lt_of_pos _ (by omega)⟩, ⟨Int.emod_nonneg _ (by omega), Int.emod_lt_of_pos _ (by omega)⟩, by omega, a3, ?_, hq1, rfl, ?_, rfl, by omega, b3⟩
  · rw [hxq, Int.mul_tdiv_cancel_left _ hA0]
  · have hB0 : (0 : Int) ≤ B := by omega
    constructor
    · have h1 : -1000 * (B : Int) ≤ x / (A : Int) * B := Int.mul_le_mul_of_nonneg_right hq1.1 hB0
      omega
    · have h1 : x / (A : Int) * (B : Int) ≤ 1000 * B := Int.mul_le_mul_of_nonneg_right hq1.2 hB0
      omega
end Go.Proofs.YteibbnmlmbhkpaaDoor

namespace Go.Proofs.YteibbnmlmbhkpaaDoor
open Go.RowKit
set_option linter.unusedVariables false
set_option linter.unusedSimpArgs false
set_option maxHeartbeats 4000000
set_option maxRecDepth 100000

theorem wr_nat {z : Nat} (h : z ≤ 17179869200) : IntKind.i64.wrap (z : Int) = z ∧ wrap64 (z : Int) = z := by
  constructor
  · rw [IntKind.wrap_i64]; omega
  · unfold wrap64; omega
theorem taken_any {p : List ByteArray} {g : Gd} (hp : PatOk p) (hl : IsLat p g) {m : Mv} (hm : m ∈ symL p g) {k x : Nat} (h1 : 1 ≤ k) (h4 : k ≤ 4) (h16 : g.A * g.D ≤ 16) (hx4 : x ≤ 4096) (w : World) :
    Calls Tryd.prog 19 #[.agg #[.int .i64 g.A, .int .i64 g.B, .int .i64 g.D], m.v, .int .i64 k, .int .i64 x] w fun e w' => ∃ y : Nat, e = .returned (.int .i64 y) ∧ Mvd (sig g (kd m) m.e m.f) k (g.A * g.D) x y ∧ Kp w w' := by
  have h6 := hl.a6 hp
  have hA := hl.a1
  have hD := hl.d1
  have hB := hl.bd
  have hkm : kd m < 8 ∧ Sy p (kd m) m.e m.f := by
    obtain ⟨k', e, f, hk', _, _, rfl, hs⟩ := (mem_symL hp hl m).1 hm
    rw [kd_knd hk']
    exact ⟨hk', hs⟩
  obtain ⟨τ, hτ⟩ := sig_perm hp hl hkm.1 hkm.2
  have Hto := hid (fun (i : Nat) (hi : i < g.A * g.D) => sig_to hp hl hm hi)
  have hn1 : 1 ≤ g.A * g.D := Nat.mul_pos (by omega) (by omega)
  obtain ⟨σ, hσ⟩ : ∃ σ, σ = sig g (kd m) m.e m.f := ⟨_, rfl⟩
  rw [← hσ] at hτ Hto ⊢
  obtain ⟨gA, gB, gD⟩ := g
  simp only at h6 hA hD hB h16 hn1 hτ Hto ⊢
  obtain ⟨n, hn⟩ : ∃ n, n = gA * gD := ⟨_, rfl⟩
  rw [← hn] at hτ Hto h16 hn1 ⊢
  have Hτ := hid hτ
  have Hmv := hid (fun (x y : Int) (W : World) => refTo_any m x y W)
  have Hred := hid (fun (x y : Int) (hx : -1000 ≤ x ∧ x ≤ 1000) (hy : -1000 ≤ y ∧ y ≤ 1000) => go_red (A := gA) (B := gB) (D := gD) ⟨hA, h6.1⟩ ⟨hD, h6.2.1⟩ hB hx hy)
  have Hnum := hid (show ∀ x y : Int, (num ⟨gA, gB, gD⟩ x y : Int) = redX ⟨gA, gB, gD⟩ x * gD + redY ⟨gA, gB, gD⟩ x y from fun x y => by
    have hrr := red_range (g := ⟨gA, gB, gD⟩) hA hD x y
    unfold num
    rw [Int.natCast_add, Int.natCast_mul]
    rw [show ((redX ⟨gA, gB, gD⟩ x).toNat : Int) = redX ⟨gA, gB, gD⟩ x by omega, show ((redY ⟨gA, gB, gD⟩ x y).toNat : Int) = redY ⟨gA, gB, gD⟩ x y by omega])
  obtain ⟨ma, mb, mc, md, me, mf⟩ := m
  obtain ⟨GA, hGA⟩ : ∃ GA : Int, GA = (gA : Int) := ⟨_, rfl⟩
  obtain ⟨GB, hGB⟩ : ∃ GB : Int, GB = (gB : Int) := ⟨_, rfl⟩
  obtain ⟨GD, hGD⟩ : ∃ GD : Int, GD = (gD : Int) := ⟨_, rfl⟩
  show Calls Tryd.prog 19 #[.agg #[.int .i64 (gA : Int), .int .i64 (gB : Int), .int .i64 (gD : Int)], .agg #[.int .i64 ma, .int .i64 mb, .int .i64 mc, .int .i64 md, .int .i64 me, .int .i64 mf], .int .i64 k, .int .i64 x] w _
  have hGn : GA * GD = (n : Int) := by rw [hGA, hGD, hn, Int.natCast_mul]
  have HdD := hid (show ∀ i : Nat, (i : Int).tdiv GD = ((i / gD : Nat) : Int) ∧ (i : Int).tmod GD = ((i % gD : Nat) : Int) from fun i => by
    rw [hGD, Int.tdiv_eq_ediv_of_nonneg (Int.natCast_nonneg i), Int.tmod_eq_emod_of_nonneg (Int.natCast_nonneg i)]
    exact ⟨rfl, rfl⟩)
  have HdK := hid (show ∀ i : Nat, (i : Int).tdiv (k : Int) = ((i / k : Nat) : Int) ∧ (i : Int).tmod (k : Int) = ((i % k : Nat) : Int) from fun i => by
    rw [Int.tdiv_eq_ediv_of_nonneg (Int.natCast_nonneg i), Int.tmod_eq_emod_of_nonneg (Int.natCast_nonneg i)]
    exact ⟨rfl, rfl⟩)
  obtain ⟨KK, hKK⟩ : ∃ KK : Int, KK = (k : Int) := ⟨_, rfl⟩
  rw [← hGA, ← hGB, ← hGD, ← hKK]
  rw [← hKK] at HdK
  have HKK := hid hKK
  rw [← hGA, ← hGB, ← hGD] at Hred
  rw [← hGD] at Hnum
  have HgA := hid (show 1 ≤ GA ∧ GA ≤ 6 by omega)
  have HgD := hid (show 1 ≤ GD ∧ GD ≤ 6 by omega)
  have hA0 : ¬ (GA = 0) := by omega
  have hD0 : ¬ (GD = 0) := by omega
  have hK0 : ¬ (KK = 0) := by omega
  have hnI : (n : Int) ≤ 16 := by omega
  have un1 : IntKind.i64.wrap (GA * GD) = (n : Int) := by rw [hGn, IntKind.wrap_i64]; omega
  have un2 : wrap64 (GA * GD) = (n : Int) := by rw [hGn]; unfold wrap64; omega
  have H16 := hid h16
  have HN1 := hid hn1
  have HK1 := hid h1
  have HK4 := hid h4
  have HX := hid hx4
  obtain ⟨b1, hb1⟩ : ∃ b1, b1 = w.heap.size := ⟨_, rfl⟩
  obtain ⟨W2, hW2⟩ : ∃ W2, W2 = (w.alloc (.cells #[.int .i64 GA, .int .i64 GB, .int .i64 GD] 26)).alloc (.cells #[.int .i64 ma, .int .i64 mb, .int .i64 mc, .int .i64 md, .int .i64 me, .int .i64 mf] 41) := ⟨_, rfl⟩
  have HA := hid (((Has.all w).alloc (.cells #[.int .i64 GA, .int .i64 GB, .int .i64 GD] 26)).alloc (.cells #[.int .i64 ma, .int .i64 mb, .int .i64 mc, .int .i64 md, .int .i64 me, .int .i64 mf] 41))
  have HE := hid ((Ext.alloc w (.cells #[.int .i64 GA, .int .i64 GB, .int .i64 GD] 26)).trans (Ext.alloc _ (.cells #[.int .i64 ma, .int .i64 mb, .int .i64 mc, .int .i64 md, .int .i64 me, .int .i64 mf] 41)))
  rw [show (w.alloc (.cells #[.int .i64 GA, .int .i64 GB, .int .i64 GD] 26)).heap.size = b1 + 1 by rw [hb1]; simp, ← hb1] at HA
  rw [← hW2] at HA HE
  have H2 := hid (show Has W2 (blk (b1 + 1) #[.int .i64 ma, .int .i64 mb, .int .i64 mc, .int .i64 md, .int .i64 me, .int .i64 mf] 41 + (blk b1 #[.int .i64 GA, .int .i64 GB, .int .i64 GD] 26 + MS.all w)) from HA.out)
  have HF := hid (show ∀ W, Has W (blk (b1 + 1) #[.int .i64 ma, .int .i64 mb, .int .i64 mc, .int .i64 md, .int .i64 me, .int .i64 mf] 41 + (blk b1 #[.int .i64 GA, .int .i64 GB, .int .i64 GD] 26 + MS.all w)) → ∀ N, Has w N → Has W N from fun W h => by
    have h' : Has W ((blk (b1 + 1) #[.int .i64 ma, .int .i64 mb, .int .i64 mc, .int .i64 md, .int .i64 me, .int .i64 mf] 41 + blk b1 #[.int .i64 GA, .int .i64 GB, .int .i64 GD] 26) + MS.all w) := h.eq (by ac_rfl)
    exact fun N hN => hN.of_all h')
  have Keep := hid (show ∀ W, Has W (blk (b1 + 1) #[.int .i64 ma, .int .i64 mb, .int .i64 mc, .int .i64 md, .int .i64 me, .int .i64 mf] 41 + (blk b1 #[.int .i64 GA, .int .i64 GB, .int .i64 GD] 26 + MS.all w)) → (W.cell? ⟨b1 + 1, 0, none⟩ = some (.int .i64 ma) ∧ W.cell? ⟨b1 + 1, 1, none⟩ = some (.int .i64 mb) ∧ W.cell? ⟨b1 + 1, 2, none⟩ = some (.int .i64 mc) ∧ W.cell? ⟨b1 + 1, 3, none⟩ = some (.int .i64 md) ∧ W.cell? ⟨b1 + 1, 4, none⟩ = some (.int .i64 me) ∧ W.cell? ⟨b1 + 1, 5, none⟩ = some (.int .i64 mf) ∧ W.cell? ⟨b1, 0, none⟩ = some (.int .i64 GA) ∧ W.cell? ⟨b1, 1, none⟩ = some (.int .i64 GB) ∧ W.cell? ⟨b1, 2, none⟩ = some (.int .i64 GD)) from fun W h => by
    have h' : Has W (blk b1 #[.int .i64 GA, .int .i64 GB, .int .i64 GD] 26 + (blk (b1 + 1) #[.int .i64 ma, .int .i64 mb, .int .i64 mc, .int .i64 md, .int .i64 me, .int .i64 mf] 41 + MS.all w)) := h.eq (by ac_rfl)
    exact ⟨h.at_ rfl, h.at_ rfl, h.at_ rfl, h.at_ rfl, h.at_ rfl, h.at_ rfl, h'.at_ rfl, h'.at_ rfl, h'.at_ rfl⟩)
  clear HA
  generalize (blk (b1 + 1) #[.int .i64 ma, .int .i64 mb, .int .i64 mc, .int .i64 md, .int .i64 me, .int .i64 mf] 41 + (blk b1 #[.int .i64 GA, .int .i64 GB, .int .i64 GD] 26 + MS.all w)) = M2 at *
  have G0 := (Keep.out _ H2.out).2.2.2.2.2.2.1
  have G2 := (Keep.out _ H2.out).2.2.2.2.2.2.2.2
  rw [hW2] at G0 G2
  clear hp hl hm h1 h4 h16 hx4 h6 hA hD hB hkm hτ hσ hn1 hn hGn hGA hGB hGD hKK
  go_enter Tryd.func19, Tryd.ntmps19
  go_wp2_with (rw [← hW2, ← hb1]; refine wpList_make_sl rfl (.tmp 21) (.tmp 21) 55 rfl 3 _ 1 8 und55 info3 .i64 .i64 n rfl rfl (by have := H16.out; omega) (by have := H16.out; simp only [maxLen]; omega) M2 H2.out ?_; intro v' w3 m3 j1 j2 j3 _; obtain ⟨b, off, c3, cur, rfl, rfl, hc1, hc2, hfl⟩ := nums_made HN1.out j1; have HFl := hid hfl; have J3 := hid j2; have E3 := hid (HE.out.trans j3); clear j1 j2 j3 hfl hW2 hb1 G0 G2 un1 un2)
  have KA := hid (show ∀ W cur', Has W (blk b cur' 3 + M2) → (W.cell? ⟨b1 + 1, 0, none⟩ = some (.int .i64 ma) ∧ W.cell? ⟨b1 + 1, 1, none⟩ = some (.int .i64 mb) ∧ W.cell? ⟨b1 + 1, 2, none⟩ = some (.int .i64 mc) ∧ W.cell? ⟨b1 + 1, 3, none⟩ = some (.int .i64 md) ∧ W.cell? ⟨b1 + 1, 4, none⟩ = some (.int .i64 me) ∧ W.cell? ⟨b1 + 1, 5, none⟩ = some (.int .i64 mf) ∧ W.cell? ⟨b1, 0, none⟩ = some (.int .i64 GA) ∧ W.cell? ⟨b1, 1, none⟩ = some (.int .i64 GB) ∧ W.cell? ⟨b1, 2, none⟩ = some (.int .i64 GD)) from fun W cur' h => Keep.out W h.right)
  clear Keep HE H2
  go_loopw [3, 10] (fun vc v wr => ∃ i : Nat, ∃ cur f, i ≤ n ∧ v = .int .i64 i ∧ vc = .int .i64 ((x / k ^ i : Nat) : Int) ∧ Half σ k n x i f ∧ NumA off n f cur ∧ Has wr (blk b cur 3 + M2) ∧ Ext w wr) (fun _ v _ => n - (intOf v).toNat)
  case atStart => exact ⟨0, cur, _, Nat.zero_le _, rfl, by rw [Nat.pow_zero, Nat.div_one], ⟨fun j _ => HK1.out, fun j hj => absurd hj (Nat.not_lt_zero _)⟩, HFl.out, J3.out, E3.out⟩
  case round =>
    clear HFl J3 E3
    obtain ⟨i, cur, f, hi, rfl, rfl, hh, hfl, hW, hE⟩ := hrel
    have HH := hid hh
    have HFl := hid hfl
    have HW := hid hW
    have HE := hid hE
    clear hh hfl hW hE
    by_cases hlt : i < n
    · have hltI : (i : Int) < n := by omega
      have Hlt := hid hlt
      obtain ⟨hs1, hs2, hs3⟩ := Hto.out i hlt
      have hsl := Hτ.out.s i hlt
      obtain ⟨d1, d2⟩ := HdD.out i
      have hi1 : i / gD ≤ i := Nat.div_le_self _ _
      have hi2 : i % gD ≤ i := Nat.mod_le _ _
      obtain ⟨U, hU⟩ : ∃ U : Int, U = ((i / gD : Nat) : Int) := ⟨_, rfl⟩
      obtain ⟨V, hV⟩ : ∃ V : Int, V = ((i % gD : Nat) : Int) := ⟨_, rfl⟩
      have hUr : 0 ≤ U ∧ U ≤ 16 := by rw [hU]; exact ⟨Int.natCast_nonneg _, by have := H16.out; have := Int.ofNat_le.2 hi1; omega⟩
      have e1 : IntKind.i64.wrap U = U := by rw [IntKind.wrap_i64]; omega
      have e2 : wrap64 U = U := by unfold wrap64; omega
      rw [← hU, ← hV] at hs1 hs2 hs3
      rw [← hU] at d1
      rw [← hV] at d2
      have Hmvv := hid (fun W => show Calls Tryd.prog 41 #[.agg #[.int .i64 ma, .int .i64 mb, .int .i64 mc, .int .i64 md, .int .i64 me, .int .i64 mf], .int .i64 U, .int .i64 V] W fun e w' => e = .returned (.tuple #[.int .i64 ((⟨ma, mb, mc, md, me, mf⟩ : Mv).toX U V), .int .i64 ((⟨ma, mb, mc, md, me, mf⟩ : Mv).toY U V)]) ∧ Kp W w' from Hmv.out U V W)
      clear hU hV hi1 hi2 hUr hlt hi
      generalize (⟨ma, mb, mc, md, me, mf⟩ : Mv).toX U V = tx at *
      generalize (⟨ma, mb, mc, md, me, mf⟩ : Mv).toY U V = ty at *
      have hnm := Hnum.out tx ty
      rw [← hs1] at hnm
      obtain ⟨r, q, qb, s, t, r1, r2, r3, r4, r5, r6, r7, r8, r9, r10, r11, r12, r13⟩ := Hred.out tx ty hs2 hs3
      rw [← r1, ← r2] at hnm
      obtain ⟨x1, hx1⟩ : ∃ x1, x1 = tx.tmod GA := ⟨_, rfl⟩
      obtain ⟨y1, hy1⟩ : ∃ y1, y1 = t.tmod GD := ⟨_, rfl⟩
      rw [← hx1] at r5 r6
      rw [← hy1] at r12 r13
      obtain ⟨x2, hx2⟩ : ∃ x2, x2 = x1 + GA := ⟨_, rfl⟩
      obtain ⟨y2, hy2⟩ : ∃ y2, y2 = y1 + GD := ⟨_, rfl⟩
      obtain ⟨x3, hx3⟩ : ∃ x3, x3 = tx - r := ⟨_, rfl⟩
      obtain ⟨rd, hrd⟩ : ∃ rd, rd = r * GD := ⟨_, rfl⟩
      rw [← hx2] at r6
      rw [← hy2] at r13
      rw [← hx3] at r7
      rw [← hrd] at hnm
      have hga := HgA.out
      have hgd := HgD.out
      have f1 := hx1.symm
      have f2 := hy1.symm
      have a1 : IntKind.i64.wrap (x1 + GA) = x2 := by rw [IntKind.wrap_i64]; omega
      have a2 : wrap64 (x1 + GA) = x2 := by unfold wrap64; omega
      have a3 : IntKind.i64.wrap (tx - r) = x3 := by rw [IntKind.wrap_i64]; omega
      have a4 : wrap64 (tx - r) = x3 := by unfold wrap64; omega
      have a5 : IntKind.i64.wrap q = q := by rw [IntKind.wrap_i64]; omega
      have a6 : wrap64 q = q := by unfold wrap64; omega
      have a7 : IntKind.i64.wrap (q * GB) = qb := by rw [r9, IntKind.wrap_i64]; omega
      have a8 : wrap64 (q * GB) = qb := by rw [r9]; unfold wrap64; omega
      have a9 : IntKind.i64.wrap (ty - qb) = t := by rw [IntKind.wrap_i64]; omega
      have b1' : wrap64 (ty - qb) = t := by unfold wrap64; omega
      have b2 : IntKind.i64.wrap (y1 + GD) = y2 := by rw [IntKind.wrap_i64]; omega
      have b3 : wrap64 (y1 + GD) = y2 := by unfold wrap64; omega
      have hrs : -6 ≤ rd ∧ rd ≤ 16 := by have := H16.out; clear hrd; omega
      have b4 : IntKind.i64.wrap (r * GD) = rd := by rw [← hrd, IntKind.wrap_i64]; omega
      have b5 : wrap64 (r * GD) = rd := by rw [← hrd]; unfold wrap64; omega
      have hcl := Nat.div_le_self x (k ^ i)
      have hcx := HX.out
      have hnx := dig_next k i x
      have hd3 := HdK.out (x / k ^ i)
      rw [hnx] at hd3
      have hdg : x / k ^ i % k = dig k i x := rfl
      rw [hdg] at hd3
      have hcl2 := Nat.div_le_self x (k ^ (i + 1))
      have Hst := hid (HH.out.step Hτ.out HK1.out Hlt.out)
      obtain ⟨a, ha⟩ : ∃ a, a = σ i := ⟨_, rfl⟩
      rw [← ha] at hnm hsl Hst
      have b6 : IntKind.i64.wrap (rd + s) = (a : Int) := by rw [← hnm, IntKind.wrap_i64]; omega
      have b7 : wrap64 (rd + s) = (a : Int) := by rw [← hnm]; unfold wrap64; omega
      have haI : (a : Int) < n := by omega
      have Hal := hid hsl
      obtain ⟨c0', hc0'⟩ : ∃ c0' : Int, c0' = ((x / k ^ i : Nat) : Int) := ⟨_, rfl⟩
      obtain ⟨c1', hc1'⟩ : ∃ c1' : Int, c1' = ((x / k ^ (i + 1) : Nat) : Int) := ⟨_, rfl⟩
      rw [← hc0', ← hc1'] at hd3
      have hc1r : 0 ≤ c1' ∧ c1' ≤ 4096 := by rw [hc1']; exact ⟨Int.natCast_nonneg _, by have := Int.ofNat_le.2 hcl2; omega⟩
      rw [← hc0']
      have Hc1 := hid hc1'
      obtain ⟨dg, hdg2⟩ : ∃ dg, dg = dig k i x := ⟨_, rfl⟩
      rw [← hdg2] at hd3 Hst
      obtain ⟨t1, t2⟩ := hd3
      have b8 : IntKind.i64.wrap c1' = c1' := by rw [IntKind.wrap_i64]; omega
      have b9 : wrap64 c1' = c1' := by unfold wrap64; omega
      clear hs1 hs2 hs3 hsl hnm r1 r2 r3 r4 r5 r8 r9 r10 r11 r12 hx1 hy1 hx2 hy2 hx3 hrd hga hgd hrs hcl hcx hnx hdg hcl2 ha hc0' hc1' hc1r hdg2
      go_wp2
      have hS := KA.out wr.drew _ HW.out.drew
      refine wp_region_txt (fun W => W.cell? ⟨b1 + 1, 0, none⟩ = some (.int .i64 ma) ∧ W.cell? ⟨b1 + 1, 1, none⟩ = some (.int .i64 mb) ∧ W.cell? ⟨b1 + 1, 2, none⟩ = some (.int .i64 mc) ∧ W.cell? ⟨b1 + 1, 3, none⟩ = some (.int .i64 md) ∧ W.cell? ⟨b1 + 1, 4, none⟩ = some (.int .i64 me) ∧ W.cell? ⟨b1 + 1, 5, none⟩ = some (.int .i64 mf) ∧ W.cell? ⟨b1, 0, none⟩ = some (.int .i64 GA) ∧ W.cell? ⟨b1, 1, none⟩ = some (.int .i64 GB) ∧ W.cell? ⟨b1, 2, none⟩ = some (.int .i64 GD)) none
        [(0, true), (1, true), (2, true), (3, true), (4, true), (5, true), (6, true), (7, true), (8, true), (9, false), (10, true), (11, true), (12, true), (13, true), (14, true)] (by kernel_rfl) rfl (by kernel_rfl) (by kernel_rfl) (by repeat (first | with_reducible refine PanicOk.thn ?_ | with_reducible refine PanicOk.blk ?_ | exact PanicOk.body _ _ _)) ?_
      repeat
        (refine txt_quiet ?_ hS rfl rfl (fun W hW => ?_) ?_
         rotate_left 1
         · obtain ⟨hW1, hW2, hW3, hW4, hW5, hW6, hW7, hW8, hW9⟩ := hW
           go_simp
           exact rfl
         simp only [Act.put, List.setIfInBounds_toArray, List.set_cons_zero, List.set_cons_succ])
      refine txt_op rfl rfl ?_
      refine op_call 41 #[.agg #[.int .i64 ma, .int .i64 mb, .int .i64 mc, .int .i64 md, .int .i64 me, .int .i64 mf], .int .i64 U, .int .i64 V] wr.drew (by go_simp) _ (Hmvv.out wr.drew) ?_
      rintro e1 w7 ⟨rfl, q1⟩
      have Ww7 := hid (q1.1 _ HW.out.drew)
      have Ew7 := hid ((HE.out.trans (Ext.drew _)).trans q1.2)
      refine ⟨_, rfl, fun _ => KA.out w7 _ Ww7.out, ?_⟩
      clear hS q1
      simp only [Act.put, List.setIfInBounds_toArray, List.set_cons_zero, List.set_cons_succ]
      have hS := KA.out w7 _ Ww7.out
      repeat
        (refine txt_quiet ?_ hS rfl rfl (fun W hW => ?_) ?_
         rotate_left 1
         · obtain ⟨hW1, hW2, hW3, hW4, hW5, hW6, hW7, hW8, hW9⟩ := hW
           go_simp
           exact rfl
         simp only [Act.put, List.setIfInBounds_toArray, List.set_cons_zero, List.set_cons_succ])
      refine txt_done ?_
      clear hS
      obtain ⟨c0, c1, c2, c3, c4, c5, k0, k1, k2⟩ := KA.out w7 _ Ww7.out
      go_wp2
      go_quiet (fail)
      go_simp
      generalize hwd : World.drewN _ _ = wa
      have Wwa := hid (show Has wa (blk b cur 3 + M2) by rw [← hwd]; exact Ww7.out.drewN _)
      have Ewa := hid (show Ext w wa by rw [← hwd]; exact Ew7.out.trans (Ext.drewN _ _))
      clear hwd c0 c1 c2 c3 c4 c5 k0 k1 k2
      obtain ⟨c0, c1, c2, c3, c4, c5, k0, k1, k2⟩ := KA.out wa _ Wwa.out
      go_wp2
      go_quiet (fail)
      go_simp
      generalize hwd : World.drewN _ _ = wb
      have Wwb := hid (show Has wb (blk b cur 3 + M2) by rw [← hwd]; exact Wwa.out.drewN _)
      have Ewb := hid (show Ext w wb by rw [← hwd]; exact Ewa.out.trans (Ext.drewN _ _))
      clear hwd c0 c1 c2 c3 c4 c5 k0 k1 k2
      obtain ⟨c0, c1, c2, c3, c4, c5, k0, k1, k2⟩ := KA.out wb _ Wwb.out
      go_wp2
      have hS := KA.out wb.drew _ Wwb.out.drew
      refine wp_region_txt (fun W => W.cell? ⟨b1 + 1, 0, none⟩ = some (.int .i64 ma) ∧ W.cell? ⟨b1 + 1, 1, none⟩ = some (.int .i64 mb) ∧ W.cell? ⟨b1 + 1, 2, none⟩ = some (.int .i64 mc) ∧ W.cell? ⟨b1 + 1, 3, none⟩ = some (.int .i64 md) ∧ W.cell? ⟨b1 + 1, 4, none⟩ = some (.int .i64 me) ∧ W.cell? ⟨b1 + 1, 5, none⟩ = some (.int .i64 mf) ∧ W.cell? ⟨b1, 0, none⟩ = some (.int .i64 GA) ∧ W.cell? ⟨b1, 1, none⟩ = some (.int .i64 GB) ∧ W.cell? ⟨b1, 2, none⟩ = some (.int .i64 GD)) none
        [(0, true), (1, true), (2, true), (3, true), (4, true), (5, true), (6, true), (7, true), (8, true), (9, true), (10, true), (11, false)] (by kernel_rfl) rfl (by kernel_rfl) (by kernel_rfl) (by repeat (first | with_reducible refine PanicOk.thn ?_ | with_reducible refine PanicOk.blk ?_ | exact PanicOk.body _ _ _)) ?_
      repeat
        (refine txt_quiet ?_ hS rfl rfl (fun W hW => ?_) ?_
         rotate_left 1
         · obtain ⟨hW1, hW2, hW3, hW4, hW5, hW6, hW7, hW8, hW9⟩ := hW
           go_simp
           exact rfl
         simp only [Act.put, List.setIfInBounds_toArray, List.set_cons_zero, List.set_cons_succ])
      refine txt_op rfl rfl ?_
      refine op_store_blk (.tmp 82) (.tmp 81) 3 rfl size3 b (off + a) (.int .i64 dg) rfl rfl rfl cur 3 M2 Wwb.out.drew (by have := HFl.out.1; have := Hal.out; omega) ?_
      intro w9 q1 q2
      have W9 := hid q1
      have E9 := hid ((Ewb.out.trans (Ext.drew _)).trans q2)
      refine ⟨fun _ => KA.out w9 _ W9.out, ?_⟩
      simp only [Act.put, List.setIfInBounds_toArray, List.set_cons_zero, List.set_cons_succ]
      refine txt_done ?_
      clear hS q1 q2
      go_wp2
      go_roundw
      case rel => exact ⟨i + 1, _, _, Hlt.out, by go_num, by rw [Hc1.out], Hst.out, HFl.out.set Hal.out dg, W9.out, E9.out⟩
      case measure => have := Hlt.out; simp [intOf]; omega
    · have hie : i = n := by omega
      subst hie
      clear hlt hi
      have Hmd := hid (HH.out.mvd Hτ.out HK1.out)
      have Hfk := hid HH.out.1
      have Hpw := hid (show ∀ j, valD k (fun t => f (j + t)) (i - j) ≤ 4294967296 from fun j => by
        by_cases hj : j ≤ i
        · have h1 := valD_lt (k := k) HK1.out (c := fun t => f (j + t)) (n := i - j) fun t ht => HH.out.1 (j + t) (by omega)
          have h2 := pow_small (c := i - j) HK4.out (by have := H16.out; omega)
          omega
        · rw [show i - j = 0 by omega]; simp [valD])
      go_wp2
      go_loopw [15, 16] (fun vo v wr => ∃ j : Nat, j ≤ i ∧ v = .int .i64 ((j : Int) - 1) ∧ vo = .int .i64 (valD k (fun t => f (j + t)) (i - j) : Nat) ∧ Has wr (blk b cur 3 + M2) ∧ Ext w wr) (fun _ v _ => (intOf v + 1).toNat)
      case atStart => exact ⟨i, Nat.le_refl _, by go_num, by rw [Nat.sub_self]; rfl, HW.out, HE.out⟩
      case round =>
        clear HW HE
        obtain ⟨j, hj, rfl, rfl, hW, hE⟩ := hrel
        have HW := hid hW
        have HE := hid hE
        clear hW hE
        cases j with
        | zero =>
          have Hz := hid (show valD k (fun t => f (0 + t)) (i - 0) = valD k f i by simp only [Nat.zero_add, Nat.sub_zero])
          rw [Hz.out]
          generalize valD k f i = y at *
          clear hj
          go_wp2
          go_ret
          exact ⟨y, rfl, Hmd.out, HF.out _ HW.out.right, HE.out⟩
        | succ j =>
          have f0 := HFl.out.cell HW.out (j := j) (by omega)
          have hfk := Hfk.out j (by omega)
          have hp1 := Hpw.out (j + 1)
          have hhd : valD k (fun t => f (j + t)) (i - j) = f j + k * valD k (fun t => f (j + 1 + t)) (i - (j + 1)) := by
            rw [show i - j = (i - (j + 1)) + 1 by omega, valD_head]
            simp only [Nat.add_zero]
            congr 2
            congr 1
            funext t
            rw [show j + (t + 1) = j + 1 + t by omega]
          obtain ⟨y, hy⟩ : ∃ y, y = valD k (fun t => f (j + 1 + t)) (i - (j + 1)) := ⟨_, rfl⟩
          rw [← hy] at hhd hp1 ⊢
          have Hhd := hid hhd
          obtain ⟨z, hz⟩ : ∃ z, z = k * y := ⟨_, rfl⟩
          have hz2 : KK * y = z := by rw [hz, HKK.out, Int.natCast_mul]
          have hz3 : z ≤ 17179869184 := by rw [hz]; exact Nat.le_trans (Nat.mul_le_mul HK4.out hp1) (by decide)
          rw [← hz] at Hhd
          have hkk := HK4.out
          obtain ⟨fj, hfj⟩ : ∃ fj, fj = f j := ⟨_, rfl⟩
          rw [← hfj] at f0 hfk Hhd
          have hjI : (0 : Int) ≤ ((j + 1 : Nat) : Int) - 1 := by omega
          have hjn : ((j + 1 : Nat) : Int) - 1 = (j : Int) := by omega
          have hjl : (j : Int) < i := by omega
          obtain ⟨a1, a2⟩ := wr_nat (z := z) (Nat.le_trans hz3 (by decide))
          have a5 : IntKind.i64.wrap (KK * y) = z := by rw [hz2]; exact a1
          have a6 : wrap64 (KK * y) = z := by rw [hz2]; exact a2
          have hzf : z + fj ≤ 17179869200 := Nat.le_trans (Nat.add_le_add hz3 (show fj ≤ 16 by clear hz3 hp1; omega)) (by decide)
          obtain ⟨a3, a4⟩ := wr_nat hzf
          rw [Int.natCast_add] at a3 a4
          have Hj := hid hj
          rw [hjn]
          clear hhd hp1 hy hz hz2 hz3 hzf hkk hfj hfk hjI hjn hj
          go_wp2
          go_roundw
          case rel => exact ⟨j, by have := Hj.out; omega, by go_num, by rw [Hhd.out, Nat.add_comm, Int.natCast_add], HW.out, HE.out⟩
          case measure => simp [intOf]
end Go.Proofs.YteibbnmlmbhkpaaDoor

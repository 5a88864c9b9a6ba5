/-
  Plain: Burnside's lemma for a short list of moves. Plain: how many colourings a symmetry leaves as they are. Plain: colourings as numbers, moved by a permutation of the cells; its cycles. Plain: the cells of one period, moved by the symmetries. Plain: Burnside's count for a pattern.
-/
import Derived.Test.YteibbnmlmbhkpaaDoorGPlain
namespace Go.Proofs.YteibbnmlmbhkpaaDoor
set_option linter.unusedVariables false

def sumL {α : Type} (f : α → Nat) : List α → Nat
  | [] => 0
  | x :: l => f x + sumL f l
theorem sumL_congr {α : Type} {f g : α → Nat} : ∀ {l : List α}, (∀ x ∈ l, f x = g x) → sumL f l = sumL g l
  | [], _ => rfl
  | x :: l, h => by
    unfold sumL
    rw [h x (by simp), sumL_congr (fun y hy => h y (by simp [hy]))]
theorem sumL_const {α : Type} (c : Nat) : ∀ l : List α, sumL (fun _ => c) l = l.length * c
  | [] => by simp [sumL]
  | x :: l => by
    unfold sumL
    rw [sumL_const c l, List.length_cons, Nat.add_mul]
    omega
theorem sumL_zero {α : Type} : ∀ l : List α, sumL (fun _ => 0) l = 0
  | [] => rfl
  | x :: l => by unfold sumL; rw [sumL_zero l]
theorem sumL_add {α : Type} (f g : α → Nat) : ∀ l : List α, sumL (fun x => f x + g x) l = sumL f l + sumL g l
  | [] => rfl
  | x :: l => by
    unfold sumL
    rw [sumL_add f g l]; omega
theorem countP_sum {α : Type} (q : α → Bool) : ∀ l : List α, l.countP q = sumL (fun y => if q y = true then 1 else 0) l
  | [] => rfl
  | x :: l => by
    unfold sumL
    rw [List.countP_cons, countP_sum q l]; omega
theorem sum_comm {α β : Type} (P : α → β → Bool) (m : List β) : ∀ l : List α, sumL (fun x => m.countP (P x)) l = sumL (fun y => l.countP (fun x => P x y)) m
  | [] => by simp [sumL, sumL_zero]
  | x :: l => by
    show m.countP (P x) + sumL (fun x => m.countP (P x)) l = _
    rw [sum_comm P m l, countP_sum (P x) m, ← sumL_add]
    apply sumL_congr
    intro y _
    rw [List.countP_cons]; omega
theorem map_nodup {f : Nat → Nat} {l : List Nat} (hn : l.Nodup) (hf : ∀ x ∈ l, ∀ y ∈ l, f x = f y → x = y) : (l.map f).Nodup := by
  unfold List.Nodup
  rw [List.pairwise_map]
  exact hn.imp_of_mem fun {a b} ha hb h he => h (hf a ha b hb he)
theorem countP_le_of {L L' : List Nat} (hn : L.Nodup) {P Q : Nat → Bool} {f g : Nat → Nat} (hf : ∀ x ∈ L, P x = true → f x ∈ L' ∧ Q (f x) = true ∧ g (f x) = x) : L.countP P ≤ L'.countP Q := by
  rw [List.countP_eq_length_filter, List.countP_eq_length_filter, ← List.length_map f]
  have hn' : (L.filter P).Nodup := List.Pairwise.filter P hn
  refine List.Nodup.length_le_of_subset (map_nodup hn' fun x hx y hy he => ?_) fun y hy => ?_
  · rw [List.mem_filter] at hx hy
    rw [← (hf x hx.1 hx.2).2.2, ← (hf y hy.1 hy.2).2.2, he]
  · obtain ⟨x, hx, rfl⟩ := List.mem_map.1 hy
    rw [List.mem_filter] at hx
    have := hf x hx.1 hx.2
    exact List.mem_filter.2 ⟨this.1, this.2.1⟩
theorem countP_bij {L : List Nat} (hn : L.Nodup) {P Q : Nat → Bool} {f g : Nat → Nat} (hf : ∀ x ∈ L, P x = true → f x ∈ L ∧ Q (f x) = true ∧ g (f x) = x) (hg : ∀ y ∈ L, Q y = true → g y ∈ L ∧ P (g y) = true ∧ f (g y) = y) : L.countP P = L.countP Q :=
  Nat.le_antisymm (countP_le_of hn hf) (countP_le_of hn hg)
/-- Kinds that act on the numbers below M. -/
structure Acts (K : List Nat) (M : Nat) (act : Nat → Nat → Nat) : Prop where
  nd : K.Nodup
  k8 : ∀ k ∈ K, k < 8
  one : 0 ∈ K
  mul : ∀ a ∈ K, ∀ b ∈ K, cmpK a b ∈ K
  inv : ∀ a ∈ K, invK a ∈ K
  lt : ∀ k ∈ K, ∀ x, x < M → act k x < M
  comp : ∀ a ∈ K, ∀ b ∈ K, ∀ x, x < M → act (cmpK a b) x = act a (act b x)
  id : ∀ x, x < M → act 0 x = x
theorem cmpK_inv {k h : Nat} (hk : k < 8) (hh : h < 8) : cmpK (cmpK k h) (invK h) = k ∧ cmpK (cmpK k (invK h)) h = k ∧ cmpK (invK h) h = 0 := by
  rcases k8_cases hk with rfl | rfl | rfl | rfl | rfl | rfl | rfl | rfl <;> rcases k8_cases hh with rfl | rfl | rfl | rfl | rfl | rfl | rfl | rfl <;> decide
theorem least_of (f : Nat → Nat) : ∀ (K : List Nat), K ≠ [] → ∃ h ∈ K, ∀ k ∈ K, f h ≤ f k
  | [], h => absurd rfl h
  | [a], _ => ⟨a, by simp, fun k hk => by rw [List.mem_singleton.1 hk]; exact Nat.le_refl _⟩
  | a :: b :: l, _ => by
    obtain ⟨h, hm, hl⟩ := least_of f (b :: l) (by simp)
    rcases Nat.le_total (f a) (f h) with hc | hc
    · exact ⟨a, by simp, fun k hk => by
        rcases List.mem_cons.1 hk with rfl | hk
        · exact Nat.le_refl _
        · exact Nat.le_trans hc (hl k hk)⟩
    · exact ⟨h, List.mem_cons_of_mem _ hm, fun k hk => by
        rcases List.mem_cons.1 hk with rfl | hk
        · exact hc
        · exact hl k hk⟩
def leastB (K : List Nat) (act : Nat → Nat → Nat) (x : Nat) : Bool := K.all fun k => decide (x ≤ act k x)
theorem leastB_iff {K : List Nat} {act : Nat → Nat → Nat} {x : Nat} : leastB K act x = true ↔ ∀ k ∈ K, x ≤ act k x := by
  unfold leastB
  rw [List.all_eq_true]
  exact ⟨fun h k hk => of_decide_eq_true (h k hk), fun h k hk => decide_eq_true (h k hk)⟩
/-- Burnside's lemma. -/
theorem burnside {K : List Nat} {M : Nat} {act : Nat → Nat → Nat} (h : Acts K M act) :
    sumL (fun k => (List.range M).countP (fun x => act k x == x)) K = K.length * (List.range M).countP (leastB K act) := by
  have hch : ∀ x, ∃ g, g ∈ K ∧ ∀ k ∈ K, act g x ≤ act k x := fun x => by
    obtain ⟨g, h1, h2⟩ := least_of (fun k => act k x) K (List.ne_nil_of_mem h.one)
    exact ⟨g, h1, h2⟩
  obtain ⟨g, hg⟩ := Classical.axiomOfChoice hch
  obtain ⟨mn, hmn⟩ : ∃ mn : Nat → Nat, mn = fun x => act (g x) x := ⟨_, rfl⟩
  have mlt : ∀ x, x < M → mn x < M := fun x hx => by rw [hmn]; exact h.lt _ (hg x).1 x hx
  have mle : ∀ x, x < M → leastB K act (mn x) = true := fun x hx => leastB_iff.2 fun k hk => by
    rw [hmn]
    show act (g x) x ≤ act k (act (g x) x)
    rw [← h.comp k hk _ (hg x).1 x hx]
    exact (hg x).2 _ (h.mul k hk _ (hg x).1)
  have mact : ∀ k ∈ K, ∀ y, y < M → leastB K act y = true → mn (act k y) = y := fun k hk y hy hl => by
    have hl' := leastB_iff.1 hl
    rw [hmn]
    show act (g (act k y)) (act k y) = y
    have h1 := (hg (act k y)).2 _ (h.inv k hk)
    rw [← h.comp _ (h.inv k hk) k hk y hy, (cmpK_inv (h.k8 k hk) (h.k8 k hk)).2.2, h.id y hy] at h1
    have h2 := hl' _ (h.mul _ (hg (act k y)).1 k hk)
    rw [h.comp _ (hg (act k y)).1 k hk y hy] at h2
    omega
  rw [sum_comm (fun k x => act k x == x) (List.range M) K]
  have e1 : sumL (fun x => K.countP (fun k => act k x == x)) (List.range M) = sumL (fun x => K.countP (fun k => act k (mn x) == x)) (List.range M) := by
    apply sumL_congr
    intro x hx
    rw [List.mem_range] at hx
    have hgx := (hg x).1
    have hg8 := h.k8 _ hgx
    refine countP_bij h.nd (f := fun k => cmpK k (invK (g x))) (g := fun k => cmpK k (g x)) (fun k hk hp => ?_) (fun k hk hp => ?_)
    · refine ⟨h.mul k hk _ (h.inv _ hgx), ?_, (cmpK_inv (h.k8 k hk) hg8).2.1⟩
      have e : act (cmpK k (invK (g x))) (act (g x) x) = act k x := by
        rw [← h.comp _ (h.mul k hk _ (h.inv _ hgx)) _ hgx x hx, (cmpK_inv (h.k8 k hk) hg8).2.1]
      rw [hmn]
      show (act (cmpK k (invK (g x))) (act (g x) x) == x) = true
      rw [e]; exact hp
    · refine ⟨h.mul k hk _ hgx, ?_, (cmpK_inv (h.k8 k hk) hg8).1⟩
      show (act (cmpK k (g x)) x == x) = true
      rw [h.comp k hk _ hgx x hx]
      rw [hmn] at hp
      exact hp
  rw [e1, sum_comm (fun x k => act k (mn x) == x) K (List.range M), ← sumL_const]
  apply sumL_congr
  intro k hk
  refine countP_bij List.nodup_range (f := mn) (g := act k) (fun x hx hp => ?_) (fun y hy hl => ?_)
  · rw [List.mem_range] at hx
    exact ⟨List.mem_range.2 (mlt x hx), mle x hx, beq_iff_eq.1 hp⟩
  · rw [List.mem_range] at hy
    refine ⟨List.mem_range.2 (h.lt k hk y hy), ?_, mact k hk y hy hl⟩
    rw [mact k hk y hy hl]; exact beq_self_eq_true _
end Go.Proofs.YteibbnmlmbhkpaaDoor

namespace Go.Proofs.YteibbnmlmbhkpaaDoor
set_option linter.unusedVariables false

/-- A digit of a number. -/
def dig (k i x : Nat) : Nat := x / k ^ i % k
theorem dig_lt {k : Nat} (hk : 1 ≤ k) (i x : Nat) : dig k i x < k := Nat.mod_lt _ (by omega)
theorem dig_low {k : Nat} (hk : 1 ≤ k) {n i x d : Nat} (hi : i < n) : dig k i (x + d * k ^ n) = dig k i x := by
  unfold dig
  have hp : 0 < k ^ i := Nat.pow_pos (by omega)
  obtain ⟨j, hj⟩ : ∃ j, n = i + (j + 1) := ⟨n - i - 1, by omega⟩
  rw [hj, Nat.pow_add, show d * (k ^ i * k ^ (j + 1)) = k ^ i * (d * k ^ (j + 1)) by rw [Nat.mul_left_comm], Nat.add_mul_div_left _ _ hp, Nat.pow_succ, show d * (k ^ j * k) = k * (d * k ^ j) by rw [← Nat.mul_assoc, Nat.mul_comm], Nat.add_mul_mod_self_left]
theorem dig_top {k : Nat} (hk : 1 ≤ k) {n x d : Nat} (hx : x < k ^ n) (hd : d < k) : dig k n (x + d * k ^ n) = d := by
  unfold dig
  have hp : 0 < k ^ n := Nat.pow_pos (by omega)
  rw [Nat.mul_comm d, Nat.add_mul_div_left _ _ hp, Nat.div_eq_of_lt hx, Nat.zero_add, Nat.mod_eq_of_lt hd]
theorem sumL_append {α : Type} (f : α → Nat) : ∀ l m : List α, sumL f (l ++ m) = sumL f l + sumL f m
  | [], m => by simp [sumL]
  | x :: l, m => by
    rw [List.cons_append]
    show f x + sumL f (l ++ m) = f x + sumL f l + sumL f m
    rw [sumL_append f l m]; omega
theorem sumL_succ (f : Nat → Nat) (n : Nat) : sumL f (List.range (n + 1)) = sumL f (List.range n) + f n := by
  rw [List.range_succ, sumL_append]; rfl
theorem range_mul (P : Nat → Bool) (m : Nat) : ∀ k : Nat, (List.range (m * k)).countP P = sumL (fun d => (List.range m).countP (fun x => P (x + d * m))) (List.range k)
  | 0 => rfl
  | k + 1 => by
    rw [Nat.mul_succ, List.range_add, List.countP_append, range_mul P m k, sumL_succ, List.countP_map]
    congr 1
    apply List.countP_congr
    intro x _
    simp only [Function.comp]
    rw [show m * k + x = x + k * m by rw [Nat.mul_comm]; omega]
theorem count_one {c : Nat} : ∀ {k : Nat}, c < k → (List.range k).countP (fun d => d == c) = 1
  | 0, h => absurd h (Nat.not_lt_zero _)
  | k + 1, h => by
    rw [List.range_succ, List.countP_append]
    by_cases hc : c = k
    · subst hc
      have : (List.range c).countP (fun d => d == c) = 0 := by
        rw [List.countP_eq_zero]
        intro d hd
        rw [List.mem_range] at hd
        simp; omega
      rw [this]; simp
    · rw [count_one (k := k) (by omega)]
      simp; omega
/-- Is a colouring the same over each class? -/
def sameB (k : Nat) (r : Nat → Nat) (n x : Nat) : Bool := (List.range n).all fun i => dig k i x == dig k (r i) x
theorem fixed_count {k : Nat} (hk : 1 ≤ k) (r : Nat → Nat) : ∀ n : Nat, (∀ i, i < n → r i ≤ i) → (List.range (k ^ n)).countP (sameB k r n) = k ^ (List.range n).countP (fun i => r i == i)
  | 0, _ => by simp [sameB, List.range_succ]
  | n + 1, hr => by
    have ih := fixed_count hk r n fun i hi => hr i (by omega)
    rw [Nat.pow_succ, range_mul]
    have hlow : ∀ d x, d < k → x < k ^ n → sameB k r (n + 1) (x + d * k ^ n) = (sameB k r n x && (d == dig k (r n) (x + d * k ^ n))) := fun d x hd hx => by
      unfold sameB
      rw [all_range_succ, dig_top hk hx hd]
      congr 1
      rw [Bool.eq_iff_iff, List.all_eq_true, List.all_eq_true]
      have : ∀ i ∈ List.range n, (dig k i (x + d * k ^ n) == dig k (r i) (x + d * k ^ n)) = (dig k i x == dig k (r i) x) := fun i hi => by
        rw [List.mem_range] at hi
        have := hr i (by omega)
        rw [dig_low hk hi, dig_low hk (by omega)]
      exact ⟨fun h i hi => by rw [← this i hi]; exact h i hi, fun h i hi => by rw [this i hi]; exact h i hi⟩
    rw [List.range_succ (n := n), List.countP_append]
    by_cases hn : r n = n
    · have h1 : ∀ d ∈ List.range k, (List.range (k ^ n)).countP (fun x => sameB k r (n + 1) (x + d * k ^ n)) = k ^ (List.range n).countP (fun i => r i == i) := fun d hd => by
        rw [List.mem_range] at hd
        rw [← ih]
        apply List.countP_congr
        intro x hx
        rw [List.mem_range] at hx
        rw [hlow d x hd hx, hn, dig_top hk hx hd]
        simp
      rw [sumL_congr h1, sumL_const, List.length_range]
      simp [hn, Nat.pow_succ, Nat.mul_comm]
    · have hlt : r n < n := by have := hr n (by omega); omega
      have h1 : ∀ d ∈ List.range k, (List.range (k ^ n)).countP (fun x => sameB k r (n + 1) (x + d * k ^ n)) = (List.range (k ^ n)).countP (fun x => sameB k r n x && (d == dig k (r n) x)) := fun d hd => by
        rw [List.mem_range] at hd
        apply List.countP_congr
        intro x hx
        rw [List.mem_range] at hx
        rw [hlow d x hd hx, dig_low hk hlt]
      rw [sumL_congr h1, sum_comm (fun d x => sameB k r n x && (d == dig k (r n) x)) (List.range (k ^ n)) (List.range k)]
      have h2 : ∀ x ∈ List.range (k ^ n), (List.range k).countP (fun d => sameB k r n x && (d == dig k (r n) x)) = if sameB k r n x = true then 1 else 0 := fun x _ => by
        cases hf : sameB k r n x with
        | true => simp only [Bool.true_and, if_true]; exact count_one (dig_lt hk _ _)
        | false => simp
      rw [sumL_congr h2, ← countP_sum, ih]
      simp [hn]
end Go.Proofs.YteibbnmlmbhkpaaDoor

namespace Go.Proofs.YteibbnmlmbhkpaaDoor
set_option linter.unusedVariables false

/-- The number with given digits. -/
def valD (k : Nat) (c : Nat → Nat) : Nat → Nat
  | 0 => 0
  | n + 1 => valD k c n + c n * k ^ n
theorem valD_lt {k : Nat} (hk : 1 ≤ k) {c : Nat → Nat} : ∀ {n : Nat}, (∀ i, i < n → c i < k) → valD k c n < k ^ n
  | 0, _ => by simp [valD]
  | n + 1, h => by
    have ih := valD_lt hk (n := n) fun i hi => h i (by omega)
    have h1 : c n + 1 ≤ k := h n (by omega)
    have h2 := Nat.mul_le_mul_right (k ^ n) h1
    rw [Nat.add_mul, Nat.one_mul] at h2
    show valD k c n + c n * k ^ n < k ^ (n + 1)
    rw [Nat.pow_succ, Nat.mul_comm (k ^ n)]
    omega
theorem dig_valD {k : Nat} (hk : 1 ≤ k) {c : Nat → Nat} : ∀ {n i : Nat}, (∀ i, i < n → c i < k) → i < n → dig k i (valD k c n) = c i
  | 0, i, _, hi => absurd hi (Nat.not_lt_zero _)
  | n + 1, i, h, hi => by
    show dig k i (valD k c n + c n * k ^ n) = c i
    by_cases hin : i = n
    · subst hin
      exact dig_top hk (valD_lt hk fun j hj => h j (by omega)) (h i (by omega))
    · rw [dig_low hk (by omega)]
      exact dig_valD hk (fun j hj => h j (by omega)) (by omega)
theorem dig_ext {k : Nat} (hk : 1 ≤ k) : ∀ {n x y : Nat}, x < k ^ n → y < k ^ n → (∀ i, i < n → dig k i x = dig k i y) → x = y
  | 0, x, y, hx, hy, _ => by rw [Nat.pow_zero] at hx hy; omega
  | n + 1, x, y, hx, hy, h => by
    have hp : 0 < k ^ n := Nat.pow_pos (by omega)
    have e : ∀ z, z = z % k ^ n + z / k ^ n * k ^ n := fun z => by rw [Nat.mul_comm]; exact (Nat.mod_add_div z _).symm
    have hd : ∀ z, z < k ^ (n + 1) → z / k ^ n < k := fun z hz => by
      rw [Nat.div_lt_iff_lt_mul hp, Nat.mul_comm]
      rwa [Nat.pow_succ] at hz
    have ht := h n (by omega)
    rw [e x, e y, dig_top hk (Nat.mod_lt _ hp) (hd x hx), dig_top hk (Nat.mod_lt _ hp) (hd y hy)] at ht
    have hl : x % k ^ n = y % k ^ n := dig_ext hk (Nat.mod_lt _ hp) (Nat.mod_lt _ hp) fun i hi => by
      have h1 := h i (by omega)
      rw [e x, e y, dig_low hk hi, dig_low hk hi] at h1
      exact h1
    rw [e x, e y, hl, ht]
/-- What a permutation of the cells makes of a colouring. -/
def Mvd (σ : Nat → Nat) (k n x y : Nat) : Prop := y < k ^ n ∧ ∀ i, i < n → dig k (σ i) y = dig k i x
/-- A permutation of n cells, and the one that undoes it. -/
structure Perm (σ τ : Nat → Nat) (n : Nat) : Prop where
  s : ∀ i, i < n → σ i < n
  t : ∀ i, i < n → τ i < n
  st : ∀ i, i < n → σ (τ i) = i
  ts : ∀ i, i < n → τ (σ i) = i
theorem Mvd.ex {σ τ : Nat → Nat} {k n : Nat} (h : Perm σ τ n) (hk : 1 ≤ k) (x : Nat) : ∃ y, Mvd σ k n x y :=
  ⟨valD k (fun j => dig k (τ j) x) n, valD_lt hk fun i _ => dig_lt hk _ _, fun i hi => by
    rw [dig_valD hk (fun i _ => dig_lt hk _ _) (h.s i hi), h.ts i hi]⟩
theorem Mvd.uniq {σ τ : Nat → Nat} {k n x y z : Nat} (h : Perm σ τ n) (hk : 1 ≤ k) (h1 : Mvd σ k n x y) (h2 : Mvd σ k n x z) : y = z :=
  dig_ext hk h1.1 h2.1 fun i hi => by
    have e := h.st i hi
    rw [← e, h1.2 _ (h.t i hi), h2.2 _ (h.t i hi)]
/-- What is come to by going round. -/
def iterN (σ : Nat → Nat) : Nat → Nat → Nat
  | 0, i => i
  | t + 1, i => σ (iterN σ t i)
theorem iterN_add (σ : Nat → Nat) (s : Nat) (i : Nat) : ∀ t, iterN σ (t + s) i = iterN σ t (iterN σ s i)
  | 0 => by rw [Nat.zero_add]; rfl
  | t + 1 => by rw [Nat.succ_add]; show σ _ = σ _; rw [iterN_add σ s i t]
def Cyc (σ : Nat → Nat) (i j : Nat) : Prop := ∃ t, iterN σ t i = j
theorem Cyc.refl (σ : Nat → Nat) (i : Nat) : Cyc σ i i := ⟨0, rfl⟩
theorem Cyc.step (σ : Nat → Nat) (i : Nat) : Cyc σ i (σ i) := ⟨1, rfl⟩
theorem Cyc.trans {σ : Nat → Nat} {i j l : Nat} (h : Cyc σ i j) (h' : Cyc σ j l) : Cyc σ i l := by
  obtain ⟨s, rfl⟩ := h
  obtain ⟨t, rfl⟩ := h'
  exact ⟨t + s, iterN_add σ s i t⟩
theorem Perm.iter_lt {σ τ : Nat → Nat} {n : Nat} (h : Perm σ τ n) {i : Nat} (hi : i < n) : ∀ t, iterN σ t i < n
  | 0 => hi
  | t + 1 => h.s _ (h.iter_lt hi t)
theorem Perm.iter_inj {σ τ : Nat → Nat} {n : Nat} (h : Perm σ τ n) {i : Nat} (hi : i < n) : ∀ s t, iterN σ (s + t) i = iterN σ s i → iterN σ t i = i
  | 0, t, he => by rwa [Nat.zero_add] at he
  | s + 1, t, he => by
    rw [Nat.succ_add] at he
    have h1 : σ (iterN σ (s + t) i) = σ (iterN σ s i) := he
    refine h.iter_inj hi s t ?_
    rw [← h.ts _ (h.iter_lt hi (s + t)), ← h.ts _ (h.iter_lt hi s), h1]
/-- One comes back. -/
theorem Perm.back {σ τ : Nat → Nat} {n : Nat} (h : Perm σ τ n) {i : Nat} (hi : i < n) : ∃ p, 0 < p ∧ iterN σ p i = i := by
  apply Classical.byContradiction
  intro hno
  have hinj : ∀ a b, a < b → iterN σ a i ≠ iterN σ b i := fun a b hab he => hno ⟨b - a, by omega, h.iter_inj hi a (b - a) (by rw [show a + (b - a) = b by omega]; exact he.symm)⟩
  have h1 : ((List.range (n + 1)).map fun t => iterN σ t i).Nodup := map_nodup List.nodup_range fun x hx y hy he => by
    rcases Nat.lt_trichotomy x y with hl | hl | hl
    · exact absurd he (hinj x y hl)
    · exact hl
    · exact absurd he.symm (hinj y x hl)
  have h2 := List.Nodup.length_le_of_subset (l₂ := List.range n) h1 fun y hy => by
    obtain ⟨t, _, rfl⟩ := List.mem_map.1 hy
    exact List.mem_range.2 (h.iter_lt hi t)
  simp at h2
  omega
theorem Perm.cyc_symm {σ τ : Nat → Nat} {n : Nat} (h : Perm σ τ n) {i j : Nat} (hi : i < n) (hc : Cyc σ i j) : Cyc σ j i := by
  obtain ⟨t, rfl⟩ := hc
  obtain ⟨p, hp, hb⟩ := h.back hi
  have hm : ∀ q, iterN σ (q * p) i = i := fun q => by
    induction q with
    | zero => rw [Nat.zero_mul]; rfl
    | succ q ih => rw [Nat.succ_mul, iterN_add, hb, ih]
  have h1 : t ≤ (t + 1) * p := Nat.le_trans (by omega) (Nat.le_mul_of_pos_right (t + 1) hp)
  refine ⟨(t + 1) * p - t, ?_⟩
  rw [← iterN_add, show (t + 1) * p - t + t = (t + 1) * p by omega, hm]
/-- The least of each cycle. -/
structure Leasts (σ : Nat → Nat) (n : Nat) (r : Nat → Nat) : Prop where
  cyc : ∀ i, i < n → Cyc σ i (r i)
  le : ∀ i, i < n → ∀ j, Cyc σ i j → r i ≤ j
theorem Leasts.ex (σ : Nat → Nat) (n : Nat) : ∃ r, Leasts σ n r := by
  have hch : ∀ i, ∃ r, Cyc σ i r ∧ ∀ j, Cyc σ i j → r ≤ j := fun i => by
    have key : ∀ m j, j ≤ m → Cyc σ i j → ∃ r, Cyc σ i r ∧ ∀ j, Cyc σ i j → r ≤ j := fun m => by
      induction m with
      | zero => exact fun j hj hc => ⟨j, hc, fun l _ => by omega⟩
      | succ m ih =>
        intro j hj hc
        by_cases hx : ∃ l, l ≤ m ∧ Cyc σ i l
        · obtain ⟨l, hl, hcl⟩ := hx; exact ih l hl hcl
        · exact ⟨j, hc, fun l hcl => by
            have : ¬ l ≤ m := fun hl => hx ⟨l, hl, hcl⟩
            omega⟩
    exact key i i (Nat.le_refl _) (Cyc.refl σ i)
  obtain ⟨r, hr⟩ := Classical.axiomOfChoice hch
  exact ⟨r, fun i _ => (hr i).1, fun i _ => (hr i).2⟩
theorem Leasts.self {σ : Nat → Nat} {n : Nat} {r : Nat → Nat} (h : Leasts σ n r) {i : Nat} (hi : i < n) : r i ≤ i := h.le i hi i (Cyc.refl σ i)
theorem Leasts.next {σ τ : Nat → Nat} {n : Nat} {r : Nat → Nat} (h : Leasts σ n r) (hp : Perm σ τ n) {i : Nat} (hi : i < n) : r (σ i) = r i := by
  have h1 := h.le (σ i) (hp.s i hi) (r i) ((hp.cyc_symm hi (Cyc.step σ i)).trans (h.cyc i hi))
  have h2 := h.le i hi (r (σ i)) ((Cyc.step σ i).trans (h.cyc (σ i) (hp.s i hi)))
  omega
/-- A colouring that a symmetry leaves as it is has one colour on each cycle. -/
theorem fixed_iff {σ τ : Nat → Nat} {k n : Nat} {r : Nat → Nat} (hp : Perm σ τ n) (hk : 1 ≤ k) (h : Leasts σ n r) {x : Nat} (hx : x < k ^ n) : Mvd σ k n x x ↔ sameB k r n x = true := by
  unfold sameB
  rw [List.all_eq_true]
  constructor
  · intro hm i hi
    rw [List.mem_range] at hi
    have hit : ∀ t, dig k (iterN σ t i) x = dig k i x := fun t => by
      induction t with
      | zero => rfl
      | succ t ih => rw [← ih]; exact hm.2 _ (hp.iter_lt hi t)
    obtain ⟨t, ht⟩ := h.cyc i hi
    rw [← ht, hit t]; exact beq_self_eq_true _
  · intro hs
    have hs' : ∀ i, i < n → dig k i x = dig k (r i) x := fun i hi => beq_iff_eq.1 (hs i (List.mem_range.2 hi))
    exact ⟨hx, fun i hi => by rw [hs' _ (hp.s i hi), h.next hp hi, ← hs' i hi]⟩
end Go.Proofs.YteibbnmlmbhkpaaDoor

namespace Go.Proofs.YteibbnmlmbhkpaaDoor
set_option linter.unusedVariables false

/-- The number of a cell. -/
def num (g : Gd) (x y : Int) : Nat := (redX g x).toNat * g.D + (redY g x y).toNat
/-- The number of the cell to which a move takes the cell of a number. -/
def sig (g : Gd) (k : Nat) (e f : Int) (i : Nat) : Nat := num g (lX k ((i / g.D : Nat) : Int) ((i % g.D : Nat) : Int) + e) (lY k ((i / g.D : Nat) : Int) ((i % g.D : Nat) : Int) + f)
theorem red_range {g : Gd} (hA : 1 ≤ g.A) (hD : 1 ≤ g.D) (x y : Int) : (0 ≤ redX g x ∧ redX g x < g.A) ∧ (0 ≤ redY g x y ∧ redY g x y < g.D) := by
  unfold redX redY
  exact ⟨⟨Int.emod_nonneg _ (by omega), Int.emod_lt_of_pos _ (by omega)⟩, ⟨Int.emod_nonneg _ (by omega), Int.emod_lt_of_pos _ (by omega)⟩⟩
theorem num_lt {g : Gd} (hA : 1 ≤ g.A) (hD : 1 ≤ g.D) (x y : Int) : num g x y < g.A * g.D := by
  obtain ⟨⟨h1, h2⟩, h3, h4⟩ := red_range hA hD x y
  unfold num
  have h5 : (redX g x).toNat + 1 ≤ g.A := by omega
  have h6 := Nat.mul_le_mul_right g.D h5
  rw [Nat.add_mul, Nat.one_mul] at h6
  omega
theorem num_cell {g : Gd} (hA : 1 ≤ g.A) (hD : 1 ≤ g.D) (x y : Int) : ((num g x y / g.D : Nat) : Int) = redX g x ∧ ((num g x y % g.D : Nat) : Int) = redY g x y := by
  obtain ⟨⟨h1, h2⟩, h3, h4⟩ := red_range hA hD x y
  have h5 : (redY g x y).toNat < g.D := by omega
  unfold num
  constructor
  · rw [Nat.mul_comm, Nat.mul_add_div (by omega), Nat.div_eq_of_lt h5]; omega
  · rw [Nat.mul_comm, Nat.mul_add_mod, Nat.mod_eq_of_lt h5]; omega
theorem num_same {p : List ByteArray} {g : Gd} (hp : PatOk p) (h : IsLat p g) {x y x' y' : Int} (hs : Sy p 0 (x - x') (y - y')) : num g x y = num g x' y' := by
  obtain ⟨h1, h2⟩ := (h.iff hp _ _).1 hs
  have hA := h.a1
  have hD := h.d1
  obtain ⟨q, hq⟩ := Int.dvd_of_emod_eq_zero h1
  have hx : x = x' + g.A * q := by omega
  have e1 : redX g x = redX g x' := by
    unfold redX
    rw [hx, Int.add_mul_emod_self_left]
  have e2 : (x - x') / g.A = q := by rw [hq, Int.mul_ediv_cancel_left _ (by omega)]
  rw [e2] at h2
  have e3 : x / g.A = x' / g.A + q := by rw [hx, Int.add_mul_ediv_left _ _ (by omega)]
  obtain ⟨t, ht⟩ := Int.dvd_of_emod_eq_zero h2
  have e4 : redY g x y = redY g x' y' := by
    unfold redY
    rw [e3, Int.add_mul]
    have : y - (x' / g.A * g.B + q * g.B) = y' - x' / g.A * g.B + g.D * t := by omega
    rw [this, Int.add_mul_emod_self_left]
  unfold num
  rw [e1, e4]
/-- A cell and its reduced one are a translation of the lattice apart. -/
theorem red_sy {p : List ByteArray} {g : Gd} (hp : PatOk p) (h : IsLat p g) (x y : Int) : Sy p 0 (redX g x - x) (redY g x y - y) := by
  have hA := h.a1
  have hD := h.d1
  rw [h.iff hp]
  unfold redX redY
  have e1 := Int.emod_def x g.A
  have e2 : x % g.A - x = g.A * (-(x / g.A)) := by rw [e1, Int.mul_neg]; omega
  rw [e2, Int.mul_emod_right, Int.mul_ediv_cancel_left _ (by omega)]
  refine ⟨rfl, ?_⟩
  have e3 := Int.emod_def (y - x / g.A * g.B) g.D
  rw [e3, Int.neg_mul]
  have e4 : y - x / g.A * g.B - g.D * ((y - x / g.A * g.B) / g.D) - y - -(x / g.A * g.B) = g.D * (-((y - x / g.A * g.B) / g.D)) := by rw [Int.mul_neg]; omega
  rw [e4, Int.mul_emod_right]
theorem sig_lt {g : Gd} (hA : 1 ≤ g.A) (hD : 1 ≤ g.D) (k : Nat) (e f : Int) (i : Nat) : sig g k e f i < g.A * g.D := num_lt hA hD _ _
theorem num_of {g : Gd} (hA : 1 ≤ g.A) (hD : 1 ≤ g.D) {i : Nat} (hi : i < g.A * g.D) : num g ((i / g.D : Nat) : Int) ((i % g.D : Nat) : Int) = i := by
  have h1 : i / g.D < g.A := by rw [Nat.div_lt_iff_lt_mul (by omega)]; exact hi
  have h2 : i % g.D < g.D := Nat.mod_lt _ (by omega)
  have h3 := Nat.div_add_mod i g.D
  generalize i / g.D = u at *
  generalize i % g.D = v at *
  have e1 : redX g (u : Int) = (u : Int) := by unfold redX; exact Int.emod_eq_of_lt (by omega) (by omega)
  have e2 : redY g (u : Int) (v : Int) = (v : Int) := by
    unfold redY
    rw [Int.ediv_eq_zero_of_lt (by omega) (by omega), Int.zero_mul, Int.sub_zero]
    exact Int.emod_eq_of_lt (by omega) (by omega)
  unfold num
  rw [e1, e2, Int.toNat_natCast, Int.toNat_natCast, Nat.mul_comm]
  exact h3
/-- A move that keeps the floor, of any translation of its class, moves the numbers alike. -/
theorem sig_class {p : List ByteArray} {g : Gd} (hp : PatOk p) (h : IsLat p g) {k : Nat} (hk : k < 8) {e f e' f' : Int} (hs : Sy p k e f) (hs' : Sy p k e' f') (i : Nat) : sig g k e f i = sig g k e' f' i := by
  unfold sig
  refine num_same hp h ?_
  have := hs.diff hk hs'
  rw [show ∀ a : Int, a + e - (a + e') = e - e' from fun a => by omega, show ∀ a : Int, a + f - (a + f') = f - f' from fun a => by omega]
  exact this
theorem sig_comp {p : List ByteArray} {g : Gd} (hp : PatOk p) (h : IsLat p g) {a b : Nat} (ha : a < 8) (hb : b < 8) {e f e' f' : Int} (hs : Sy p a e f) (hs' : Sy p b e' f') (i : Nat) :
    sig g a e f (sig g b e' f' i) = sig g (cmpK a b) (lX a e' f' + e) (lY a e' f' + f) i := by
  have hA := h.a1
  have hD := h.d1
  rw [sig, sig, (num_cell hA hD _ _).1, (num_cell hA hD _ _).2, sig]
  generalize ((i / g.D : Nat) : Int) = x
  generalize ((i % g.D : Nat) : Int) = y
  refine num_same hp h ?_
  have h1 := (red_sy hp h (lX b x y + e') (lY b x y + f'))
  have h2 := hs.conj ha h1
  rw [cmpK_X ha hb, cmpK_Y ha hb]
  have ex : ∀ s t s' t' : Int, lX a (s - s') (t - t') = lX a s t - lX a s' t' := fun s t s' t' => by
    have := lX_add a (s - s') (t - t') s' t'
    rw [Int.sub_add_cancel, Int.sub_add_cancel] at this
    omega
  have ey : ∀ s t s' t' : Int, lY a (s - s') (t - t') = lY a s t - lY a s' t' := fun s t s' t' => by
    have := lY_add a (s - s') (t - t') s' t'
    rw [Int.sub_add_cancel, Int.sub_add_cancel] at this
    omega
  rw [ex, ey, lX_add a (lX b x y), lY_add a (lX b x y)] at h2
  rw [show ∀ u v w z : Int, u + e - (v + (w + e)) = u - (v + w) from fun u v w z => by omega, show ∀ u v w : Int, u + f - (v + (w + f)) = u - (v + w) from fun u v w => by omega]
  · exact h2
  · exact 0
theorem sig_id {p : List ByteArray} {g : Gd} (hp : PatOk p) (h : IsLat p g) {e f : Int} (hs : Sy p 0 e f) {i : Nat} (hi : i < g.A * g.D) : sig g 0 e f i = i := by
  rw [sig_class hp h (by omega) hs (Sy.zero p)]
  unfold sig
  rw [Int.add_zero, Int.add_zero]
  exact num_of h.a1 h.d1 hi
theorem sig_perm {p : List ByteArray} {g : Gd} (hp : PatOk p) (h : IsLat p g) {k : Nat} (hk : k < 8) {e f : Int} (hs : Sy p k e f) : ∃ τ, Perm (sig g k e f) τ (g.A * g.D) := by
  have hi := hs.inv hk
  refine ⟨sig g (invK k) (-(lX (invK k) e f)) (-(lY (invK k) e f)), fun i _ => sig_lt h.a1 h.d1 _ _ _ i, fun i _ => sig_lt h.a1 h.d1 _ _ _ i, fun i hl => ?_, fun i hl => ?_⟩
  · have hc := hs.comp hk (invK_lt hk) hi
    rw [sig_comp hp h hk (invK_lt hk) hs hi]
    rw [(invK_cmp hk).2] at hc ⊢
    exact sig_id hp h hc hl
  · have hc := hi.comp (invK_lt hk) hk hs
    rw [sig_comp hp h (invK_lt hk) hk hi hs]
    rw [(invK_cmp hk).1] at hc ⊢
    exact sig_id hp h hc hl
end Go.Proofs.YteibbnmlmbhkpaaDoor

namespace Go.Proofs.YteibbnmlmbhkpaaDoor
set_option linter.unusedVariables false

theorem sumL_map {α β : Type} (f : β → Nat) (g : α → β) : ∀ l : List α, sumL f (l.map g) = sumL (fun x => f (g x)) l
  | [] => rfl
  | x :: l => by show f (g x) + sumL f (l.map g) = _ + _; rw [sumL_map f g l]
theorem sumL_mono {α : Type} {f g : α → Nat} : ∀ {l : List α}, (∀ x ∈ l, f x + 1 ≤ g x) → sumL f l + l.length ≤ sumL g l
  | [], _ => by simp [sumL]
  | x :: l, h => by
    have h1 := h x (by simp)
    have h2 := sumL_mono (l := l) fun y hy => h y (by simp [hy])
    show f x + sumL f l + (l.length + 1) ≤ g x + sumL g l
    omega
def kd (m : Mv) : Nat := (kindOf m).toNat
theorem kd_knd {k : Nat} (hk : k < 8) (e f : Int) : kd (knd k e f) = k := by unfold kd; rw [kindOf_knd k hk]; rfl
theorem sym_kinds {p : List ByteArray} {g : Gd} (hp : PatOk p) (h : IsLat p g) : ((symL p g).map kd).Nodup := by
  have h6 := h.a6 hp
  unfold List.Nodup
  rw [List.pairwise_map]
  unfold symL
  rw [List.pairwise_flatMap]
  have hkd : ∀ k : Nat, k < 8 → ∀ m, m ∈ ((List.range g.A).flatMap fun (e : Nat) => (List.range g.D).filterMap fun (f : Nat) => if keepsB p (knd k e f) then some (knd k e f) else none) → kd m = k := fun k hk m hm => by
    obtain ⟨e, _, hm⟩ := List.mem_flatMap.1 hm
    obtain ⟨f, _, hm⟩ := List.mem_filterMap.1 hm
    split at hm
    · injection hm with hm; rw [← hm]; exact kd_knd hk _ _
    · cases hm
  constructor
  · intro k hk
    rw [List.mem_range] at hk
    have hsy : ∀ e f : Nat, e < g.A → f < g.D → (if keepsB p (knd k e f) then some (knd k e f) else none) ≠ none → Sy p k e f := fun e f he hf hn => by
      split at hn
      · rename_i h2; exact (keepsB_iff hp hk (by omega) (by omega)).1 h2
      · exact absurd rfl hn
    have h1 : ((List.range g.A).flatMap fun (e : Nat) => (List.range g.D).filterMap fun (f : Nat) => if keepsB p (knd k e f) then some (knd k e f) else none).length ≤ 1 := by
      refine flat_one _ _ (fun e he => filt_one _ _ fun i j hi hj h1 h2 => ?_) fun e e' he he' h1 h2 => ?_
      · exact (sym_same hp h hk he hi he hj (hsy _ _ he hi h1) (hsy _ _ he hj h2)).2
      · have hx : ∀ e : Nat, e < g.A → ((List.range g.D).filterMap fun (f : Nat) => if keepsB p (knd k e f) then some (knd k e f) else none) ≠ [] → ∃ f : Nat, f < g.D ∧ Sy p k e f := fun e he hne => by
          obtain ⟨m, hm⟩ := List.exists_mem_of_ne_nil _ hne
          obtain ⟨f, hf, h3⟩ := List.mem_filterMap.1 hm
          rw [List.mem_range] at hf
          exact ⟨f, hf, hsy e f he hf (by rw [h3]; simp)⟩
        obtain ⟨f, hf, hs⟩ := hx e he h1
        obtain ⟨f', hf', hs'⟩ := hx e' he' h2
        exact (sym_same hp h hk he hf he' hf' hs hs').1
    generalize ((List.range g.A).flatMap fun (e : Nat) => (List.range g.D).filterMap fun (f : Nat) => if keepsB p (knd k e f) then some (knd k e f) else none) = t at h1
    match t, h1 with
    | [], _ => exact List.Pairwise.nil
    | [a], _ => exact List.pairwise_singleton _ _
    | a :: b :: t, h1 => simp at h1
  · refine List.nodup_range.imp_of_mem fun {a b} ha hb hab x hx y hy he => ?_
    rw [List.mem_range] at ha hb
    exact hab (by rw [← hkd a ha x hx, ← hkd b hb y hy, he])
/-- The cells that are the least of their cycle, for a move. -/
def CycN (g : Gd) (m : Mv) (c : Nat) : Prop := ∃ r, Leasts (sig g (kd m) m.e m.f) (g.A * g.D) r ∧ c = (List.range (g.A * g.D)).countP fun i => r i == i
theorem CycN.ex (g : Gd) (m : Mv) : ∃ c, CycN g m c := by
  obtain ⟨r, hr⟩ := Leasts.ex (sig g (kd m) m.e m.f) (g.A * g.D)
  exact ⟨_, r, hr, rfl⟩
theorem CycN.uniq {g : Gd} {m : Mv} {c d : Nat} (h : CycN g m c) (h' : CycN g m d) : c = d := by
  obtain ⟨r, hr, rfl⟩ := h
  obtain ⟨s, hs, rfl⟩ := h'
  apply List.countP_congr
  intro i hi
  rw [List.mem_range] at hi
  have h1 := hr.le i hi _ (hs.cyc i hi)
  have h2 := hs.le i hi _ (hr.cyc i hi)
  rw [show r i = s i by omega]
theorem CycN.pos {g : Gd} {m : Mv} {c : Nat} (h : CycN g m c) (hn : 1 ≤ g.A * g.D) : 1 ≤ c := by
  obtain ⟨r, hr, rfl⟩ := h
  have := hr.self (i := 0) (by omega)
  exact List.countP_pos_iff.2 ⟨0, List.mem_range.2 (by omega), by rw [beq_iff_eq]; omega⟩
/-- What each move makes of each colouring: given by tk. -/
theorem burn_pat {p : List ByteArray} {g : Gd} (hp : PatOk p) (h : IsLat p g) {k : Nat} (hk : 1 ≤ k) (cyc : Mv → Nat) (hcyc : ∀ m ∈ symL p g, CycN g m (cyc m)) (tk : Mv → Nat → Nat)
    (htk : ∀ m ∈ symL p g, ∀ x, x < k ^ (g.A * g.D) → Mvd (sig g (kd m) m.e m.f) k (g.A * g.D) x (tk m x)) :
    sumL (fun m => k ^ cyc m) (symL p g) = (symL p g).length * (List.range (k ^ (g.A * g.D))).countP (fun x => (symL p g).all fun m => decide (x ≤ tk m x)) := by
  have hmem := fun m => mem_symL hp h m
  generalize hl : symL p g = l at *
  obtain ⟨n, hn⟩ : ∃ n, n = g.A * g.D := ⟨_, rfl⟩
  rw [← hn] at htk ⊢
  have hrep : ∀ k', ∃ m, k' ∈ l.map kd → m ∈ l ∧ kd m = k' := fun k' => by
    by_cases hx : k' ∈ l.map kd
    · obtain ⟨m, h1, h2⟩ := List.mem_map.1 hx
      exact ⟨m, fun _ => ⟨h1, h2⟩⟩
    · exact ⟨knd 0 0 0, fun hc => absurd hc hx⟩
  obtain ⟨rep, hrp⟩ := Classical.axiomOfChoice hrep
  have hsy : ∀ m ∈ l, kd m < 8 ∧ Sy p (kd m) m.e m.f := fun m hm => by
    obtain ⟨k', e, f, hk', _, _, rfl, hs⟩ := (hmem m).1 hm
    rw [kd_knd hk']
    exact ⟨hk', hs⟩
  have hin : ∀ k' e f, k' < 8 → Sy p k' e f → k' ∈ l.map kd := fun k' e f hk' hs => by
    obtain ⟨r, s, hr, hss, h1, _⟩ := hs.class hp h hk'
    exact List.mem_map.2 ⟨knd k' r s, (hmem _).2 ⟨k', r, s, hk', hr, hss, rfl, h1⟩, kd_knd hk' _ _⟩
  have hone : ∀ a ∈ l.map kd, kd (rep a) = a ∧ rep a ∈ l := fun a ha => ⟨(hrp a ha).2, (hrp a ha).1⟩
  have hperm : ∀ m ∈ l, ∃ τ, Perm (sig g (kd m) m.e m.f) τ n := fun m hm => by
    rw [hn]; exact sig_perm hp h (hsy m hm).1 (hsy m hm).2
  have hacts : Acts (l.map kd) (k ^ n) (fun a x => tk (rep a) x) := by
    refine ⟨?_, ?_, ?_, ?_, ?_, ?_, ?_, ?_⟩
    · rw [← hl]; exact sym_kinds hp h
    · intro a ha
      obtain ⟨e1, e2⟩ := hone a ha
      have := (hsy _ e2).1
      rwa [e1] at this
    · exact hin 0 0 0 (by omega) (Sy.zero p)
    · intro a ha b hb
      obtain ⟨e1, e2⟩ := hone a ha
      obtain ⟨e3, e4⟩ := hone b hb
      have h1 := hsy _ e2
      have h2 := hsy _ e4
      rw [e1] at h1
      rw [e3] at h2
      exact hin _ _ _ (cmpK_lt h1.1 h2.1) (h1.2.comp h1.1 h2.1 h2.2)
    · intro a ha
      obtain ⟨e1, e2⟩ := hone a ha
      have h1 := hsy _ e2
      rw [e1] at h1
      exact hin _ _ _ (invK_lt h1.1) (h1.2.inv h1.1)
    · intro a ha x hx
      exact (htk _ (hone a ha).2 x hx).1
    · intro a ha b hb x hx
      obtain ⟨e1, e2⟩ := hone a ha
      obtain ⟨e3, e4⟩ := hone b hb
      have h1 := hsy _ e2
      have h2 := hsy _ e4
      rw [e1] at h1
      rw [e3] at h2
      have hc := h1.2.comp h1.1 h2.1 h2.2
      have hab := hin _ _ _ (cmpK_lt h1.1 h2.1) hc
      obtain ⟨e5, e6⟩ := hone _ hab
      have h3 := hsy _ e6
      rw [e5] at h3
      obtain ⟨τ, hτ⟩ := hperm _ e6
      have m1 := htk _ e6 x hx
      have m2 := htk _ e4 x hx
      have m3 := htk _ e2 _ m2.1
      refine Mvd.uniq hτ hk m1 ⟨m3.1, fun i hi => ?_⟩
      rw [← m2.2 i hi, ← m3.2 _ (by have := sig_lt h.a1 h.d1 (kd (rep b)) (rep b).e (rep b).f i; rw [hn]; exact this)]
      congr 1
      rw [e5, e3, e1, sig_comp hp h h1.1 h2.1 h1.2 h2.2]
      exact sig_class hp h h3.1 h3.2 hc i
    · intro x hx
      obtain ⟨e1, e2⟩ := hone 0 (hin 0 0 0 (by omega) (Sy.zero p))
      have h1 := hsy _ e2
      obtain ⟨τ, hτ⟩ := hperm _ e2
      rw [e1] at h1
      refine Mvd.uniq hτ hk (htk _ e2 x hx) ⟨hx, fun i hi => ?_⟩
      rw [e1, sig_id hp h h1.2 (by rw [← hn]; exact hi)]
  have hb := burnside hacts
  have huq : ∀ m ∈ l, rep (kd m) = m := fun m hm => by
    obtain ⟨e1, e2⟩ := hone _ (List.mem_map.2 ⟨m, hm, rfl⟩)
    obtain ⟨k1, a, b, hk1, ha, hb, h1, hs⟩ := (hmem _).1 e2
    obtain ⟨k2, a', b', hk2, ha', hb', h2, hs'⟩ := (hmem _).1 hm
    rw [h1, h2, kd_knd hk2, kd_knd hk1] at e1
    subst e1
    obtain ⟨e3, e4⟩ := sym_same hp h hk1 ha hb ha' hb' hs hs'
    rw [h1, h2, e3, e4]
  rw [List.length_map, sumL_map] at hb
  have e1 : sumL (fun m => k ^ cyc m) l = sumL (fun m => (List.range (k ^ n)).countP (fun x => tk (rep (kd m)) x == x)) l := by
    apply sumL_congr
    intro m hm
    rw [huq m hm]
    obtain ⟨r, hr, hc⟩ := hcyc m hm
    obtain ⟨τ, hτ⟩ := hperm m hm
    rw [← hn] at hr hc
    rw [hc, ← fixed_count hk r n fun i hi => hr.self hi]
    apply List.countP_congr
    intro x hx
    rw [List.mem_range] at hx
    rw [← fixed_iff hτ hk hr hx, beq_iff_eq]
    constructor
    · intro hm'
      exact Mvd.uniq hτ hk (htk m hm x hx) hm'
    · intro he
      have := htk m hm x hx
      rwa [he] at this
  rw [e1, hb]
  congr 1
  apply List.countP_congr
  intro x _
  rw [leastB_iff, List.all_eq_true]
  constructor
  · intro hx m hm
    have := hx (kd m) (List.mem_map.2 ⟨m, hm, rfl⟩)
    rw [huq m hm] at this
    exact decide_eq_true this
  · intro hx a ha
    exact of_decide_eq_true (hx _ (hone a ha).2)
/-- One more colour makes more colourings. -/
theorem burn_more {l : List Mv} (hl : 1 ≤ l.length) {k : Nat} {cyc : Mv → Nat} (hc : ∀ m ∈ l, 1 ≤ cyc m) : sumL (fun m => k ^ cyc m) l / l.length < sumL (fun m => (k + 1) ^ cyc m) l / l.length := by
  have h1 := sumL_mono (f := fun m => k ^ cyc m) (g := fun m => (k + 1) ^ cyc m) (l := l) fun m hm => Nat.pow_lt_pow_left (Nat.lt_succ_self k) (by have := hc m hm; omega)
  have h2 := Nat.div_le_div_right (c := l.length) h1
  rw [Nat.add_div_right _ (by omega)] at h2
  omega
theorem burn_one {l : List Mv} (hl : 1 ≤ l.length) (cyc : Mv → Nat) : sumL (fun m => 1 ^ cyc m) l / l.length = 1 := by
  rw [sumL_congr (g := fun _ => 1) fun m _ => Nat.one_pow _, sumL_const, Nat.mul_one, Nat.div_self (by omega)]
theorem burn_div {l : List Mv} (hl : 1 ≤ l.length) {s c : Nat} (h : s = l.length * c) : s / l.length = c := by
  rw [h, Nat.mul_div_cancel_left _ (by omega)]
end Go.Proofs.YteibbnmlmbhkpaaDoor

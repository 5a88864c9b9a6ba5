/-
  Plain: all cuts in their order: numbers with digits of different bounds.
-/
import Derived.Test.YtnkgfgkgepadhaaBfs
namespace Go.Proofs.Ytnkgfgkgepadhaa
set_option linter.unusedVariables false
set_option linter.unusedSimpArgs false

def tot : List Nat → Nat
  | [] => 1
  | b :: bs => (b + 1) * tot bs
def dig : List Nat → Nat → List Nat
  | [], _ => []
  | b :: bs, t => t % (b + 1) :: dig bs (t / (b + 1))
def val : List Nat → List Nat → Nat
  | b :: bs, x :: xs => x + (b + 1) * val bs xs
  | _, _ => 0
theorem tot_pos : ∀ bs : List Nat, 0 < tot bs
  | [] => Nat.one_pos
  | b :: bs => Nat.mul_pos (by omega) (tot_pos bs)
theorem dig_len : ∀ (bs : List Nat) (t : Nat), (dig bs t).length = bs.length
  | [], _ => rfl
  | b :: bs, t => by simp [dig, dig_len bs]
theorem dig_le : ∀ (bs : List Nat) (t s : Nat), s < bs.length → (dig bs t).getD s 0 ≤ bs.getD s 0
  | [], _, s, h => by simp at h
  | b :: bs, t, 0, _ => by have := Nat.mod_lt t (show 0 < b + 1 by omega); simp [dig]; omega
  | b :: bs, t, s + 1, h => by simpa [dig] using dig_le bs (t / (b + 1)) s (by simpa using h)
theorem div_lt' {b t T : Nat} (h : t < (b + 1) * T) : t / (b + 1) < T := Nat.div_lt_of_lt_mul h
theorem val_dig : ∀ (bs : List Nat) (t : Nat), t < tot bs → val bs (dig bs t) = t
  | [], t, h => by simp [tot] at h; simp [dig, val, h]
  | b :: bs, t, h => by
    simp only [dig, val]
    rw [val_dig bs _ (div_lt' h)]
    exact Nat.mod_add_div t (b + 1)
theorem dig_val : ∀ (bs xs : List Nat), xs.length = bs.length → (∀ s, s < bs.length → xs.getD s 0 ≤ bs.getD s 0) → dig bs (val bs xs) = xs ∧ val bs xs < tot bs
  | [], [], _, _ => ⟨rfl, Nat.one_pos⟩
  | [], x :: xs, h, _ => by simp at h
  | b :: bs, [], h, _ => by simp at h
  | b :: bs, x :: xs, h, hle => by
    obtain ⟨h1, h2⟩ := dig_val bs xs (by simpa using h) (fun s hs => by simpa using hle (s + 1) (by simp; omega))
    have hx : x ≤ b := by simpa using hle 0 (by simp)
    simp only [dig, val, tot]
    refine ⟨?_, ?_⟩
    · rw [Nat.add_mul_mod_self_left, Nat.mod_eq_of_lt (by omega), Nat.add_mul_div_left _ _ (by omega), Nat.div_eq_of_lt (by omega), Nat.zero_add, h1]
    · have : (b + 1) * (val bs xs + 1) ≤ (b + 1) * tot bs := Nat.mul_le_mul_left _ h2
      rw [Nat.mul_add, Nat.mul_one] at this
      omega
theorem mod_div_up {b t : Nat} (h : t % (b + 1) + 1 ≤ b) : (t + 1) % (b + 1) = t % (b + 1) + 1 ∧ (t + 1) / (b + 1) = t / (b + 1) := by
  have h1 := Nat.mod_add_div t (b + 1)
  have e : t + 1 = (t % (b + 1) + 1) + (b + 1) * (t / (b + 1)) := by omega
  constructor
  · rw [e, Nat.add_mul_mod_self_left, Nat.mod_eq_of_lt (by omega)]
  · rw [e, Nat.add_mul_div_left _ _ (by omega), Nat.div_eq_of_lt (by omega), Nat.zero_add]
theorem mod_div_over {b t : Nat} (h : t % (b + 1) = b) : (t + 1) % (b + 1) = 0 ∧ (t + 1) / (b + 1) = t / (b + 1) + 1 := by
  have h1 := Nat.mod_add_div t (b + 1)
  have e : t + 1 = 0 + (b + 1) * (t / (b + 1) + 1) := by rw [Nat.mul_add, Nat.mul_one]; omega
  constructor
  · rw [e, Nat.add_mul_mod_self_left]; simp
  · rw [e, Nat.add_mul_div_left _ _ (by omega)]; simp
/-- The next cut: the first digit that can grows, those ahead of it are 0. -/
theorem dig_next : ∀ (bs : List Nat) (t s : Nat), t < tot bs → s < bs.length → (∀ r, r < s → (dig bs t).getD r 0 = bs.getD r 0) → (dig bs t).getD s 0 + 1 ≤ bs.getD s 0 →
    t + 1 < tot bs ∧ dig bs (t + 1) = List.replicate s 0 ++ ((dig bs t).getD s 0 + 1) :: (dig bs t).drop (s + 1)
  | [], _, s, _, h, _, _ => by simp at h
  | b :: bs, t, 0, ht, _, _, hg => by
    simp only [dig, List.getD_cons_zero] at hg
    obtain ⟨h1, h2⟩ := mod_div_up hg
    refine ⟨?_, ?_⟩
    · have h3 := div_lt' ht
      have h4 := Nat.mod_add_div (t + 1) (b + 1)
      rw [h1, h2] at h4
      have : (b + 1) * (t / (b + 1) + 1) ≤ (b + 1) * tot bs := Nat.mul_le_mul_left _ h3
      rw [Nat.mul_add, Nat.mul_one] at this
      show t + 1 < (b + 1) * tot bs
      omega
    · simp [dig, h1, h2]
  | b :: bs, t, s + 1, ht, hs, hm, hg => by
    have h0 := hm 0 (by omega)
    simp only [dig, List.getD_cons_zero] at h0
    obtain ⟨h1, h2⟩ := mod_div_over h0
    simp only [dig, List.getD_cons_succ] at hg
    obtain ⟨i1, i2⟩ := dig_next bs (t / (b + 1)) s (div_lt' ht) (by simpa using hs) (fun r hr => by simpa [dig] using hm (r + 1) (by omega)) hg
    refine ⟨?_, ?_⟩
    · have h4 := Nat.mod_add_div (t + 1) (b + 1)
      rw [h1, h2] at h4
      have : (b + 1) * (t / (b + 1) + 1 + 1) ≤ (b + 1) * tot bs := Nat.mul_le_mul_left _ i1
      rw [Nat.mul_add, Nat.mul_one] at this
      show t + 1 < (b + 1) * tot bs
      omega
    · simp only [dig, h1, h2, i2, List.getD_cons_succ, List.drop_succ_cons, List.replicate_succ, List.cons_append]
/-- The last cut. -/
theorem dig_last : ∀ (bs : List Nat) (t : Nat), t < tot bs → (∀ r, r < bs.length → (dig bs t).getD r 0 = bs.getD r 0) → t + 1 = tot bs
  | [], t, ht, _ => by simp [tot] at ht ⊢; omega
  | b :: bs, t, ht, hm => by
    have h0 := hm 0 (by simp)
    simp only [dig, List.getD_cons_zero] at h0
    have ih := dig_last bs (t / (b + 1)) (div_lt' ht) (fun r hr => by simpa [dig] using hm (r + 1) (by simp; omega))
    have h4 := Nat.mod_add_div t (b + 1)
    show t + 1 = (b + 1) * tot bs
    rw [← ih, Nat.mul_add, Nat.mul_one]
    omega
theorem dig_zero : ∀ bs : List Nat, dig bs 0 = List.replicate bs.length 0
  | [] => rfl
  | b :: bs => by simp [dig, dig_zero bs, List.replicate_succ]
/-- The bounds of all cuts. -/
def evBs (n : Nat) (l : List Ev) : List Nat := (List.range n).map fun s => cntS l l.length s
theorem evBs_len (n : Nat) (l : List Ev) : (evBs n l).length = n := by simp [evBs]
theorem evBs_get {n : Nat} (l : List Ev) {s : Nat} (h : s < n) : (evBs n l).getD s 0 = cntS l l.length s := by simp [evBs, List.getD, h]
/-- Cut number t. -/
def cutL (n : Nat) (l : List Ev) (t : Nat) : List Int := (dig (evBs n l) t).map fun (x : Nat) => (x : Int)
theorem cutL_len (n : Nat) (l : List Ev) (t : Nat) : (cutL n l t).length = n := by simp [cutL, dig_len, evBs_len]
theorem cutL_get (n : Nat) (l : List Ev) (t s : Nat) : (cutL n l t).getD s 0 = ((dig (evBs n l) t).getD s 0 : Nat) := by
  simp only [cutL, List.getD, List.getElem?_map]
  cases (dig (evBs n l) t)[s]? <;> simp
theorem tot_le : ∀ (bs : List Nat), (∀ b ∈ bs, b ≤ 60) → tot bs ≤ 61 ^ bs.length
  | [], _ => Nat.le_refl _
  | b :: bs, h => by
    have h1 := tot_le bs (fun x hx => h x (by simp [hx]))
    have h2 := h b (by simp)
    show (b + 1) * tot bs ≤ 61 ^ (bs.length + 1)
    rw [Nat.pow_succ, Nat.mul_comm]
    exact Nat.mul_le_mul h1 (by omega)
theorem cntS_len (l : List Ev) (t s : Nat) : cntS l t s ≤ l.length := by
  unfold cntS
  exact Nat.le_trans List.countP_le_length (by rw [List.length_take]; omega)
theorem evBs_tot {n : Nat} {l : List Ev} (n5 : n ≤ 5) (hl : l.length ≤ 60) : tot (evBs n l) ≤ 844596301 := by
  have h1 := tot_le (evBs n l) (fun b hb => by
    obtain ⟨s, _, rfl⟩ := List.mem_map.1 hb
    exact Nat.le_trans (cntS_len l _ s) hl)
  rw [evBs_len] at h1
  have h2 : 61 ^ n ≤ 61 ^ 5 := Nat.pow_le_pow_right (by omega) n5
  omega
/-- Cut number t, its first r counts set to 0. -/
def cutZ (n : Nat) (l : List Ev) (t r : Nat) : List Int := List.replicate r 0 ++ (cutL n l t).drop r
theorem cutZ_len {n : Nat} (l : List Ev) (t : Nat) {r : Nat} (h : r ≤ n) : (cutZ n l t r).length = n := by simp [cutZ, cutL_len]; omega
theorem cutZ_get {n : Nat} (l : List Ev) (t : Nat) {r : Nat} (h : r < n) : (cutZ n l t r).getD r 0 = ((dig (evBs n l) t).getD r 0 : Nat) := by
  rw [← cutL_get]
  simp [cutZ, List.getD, List.getElem?_append_right]
theorem cutZ_set {n : Nat} (l : List Ev) (t : Nat) {r : Nat} (h : r < n) (x : Int) : (cutZ n l t r).set r x = List.replicate r 0 ++ x :: (cutL n l t).drop (r + 1) := by
  have hl : r < (cutL n l t).length := by rw [cutL_len]; exact h
  unfold cutZ
  rw [List.set_append_right _ _ (by simp), List.length_replicate, Nat.sub_self, List.drop_eq_getElem_cons hl]
  rfl
theorem cutZ_over {n : Nat} (l : List Ev) (t : Nat) {r : Nat} (h : r < n) (x : Int) : ((cutZ n l t r).set r x).set r 0 = cutZ n l t (r + 1) := by
  rw [cutZ_set l t h, List.set_append_right _ _ (by simp)]
  simp only [List.length_replicate, Nat.sub_self, List.set_cons_zero]
  unfold cutZ
  rw [List.replicate_succ', List.append_assoc]; rfl
theorem cutZ_next {n : Nat} {l : List Ev} {t r : Nat} (ht : t < tot (evBs n l)) (h : r < n) (hm : ∀ q, q < r → (dig (evBs n l) t).getD q 0 = cntS l l.length q) (hg : (dig (evBs n l) t).getD r 0 + 1 ≤ cntS l l.length r) :
    t + 1 < tot (evBs n l) ∧ (cutZ n l t r).set r (((dig (evBs n l) t).getD r 0 : Nat) + 1) = cutL n l (t + 1) := by
  obtain ⟨h1, h2⟩ := dig_next (evBs n l) t r ht (by rw [evBs_len]; exact h) (fun q hq => by rw [hm q hq, evBs_get l (by omega)]) (by rw [evBs_get l h]; exact hg)
  refine ⟨h1, ?_⟩
  rw [cutZ_set l t h]
  unfold cutL
  rw [h2]
  simp
theorem cutZ_end {n : Nat} {l : List Ev} {t : Nat} (ht : t < tot (evBs n l)) (hm : ∀ q, q < n → (dig (evBs n l) t).getD q 0 = cntS l l.length q) : t + 1 = tot (evBs n l) :=
  dig_last (evBs n l) t ht (fun q hq => by rw [evBs_len] at hq; rw [hm q hq, evBs_get l hq])
end Go.Proofs.Ytnkgfgkgepadhaa

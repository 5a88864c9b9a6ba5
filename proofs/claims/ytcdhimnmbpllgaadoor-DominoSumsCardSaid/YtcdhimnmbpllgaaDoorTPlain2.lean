/-
  Plain: tilings by grids: a grid's count by what the dominoes at its first cell leave; the first tiling alike. Plain: what tilings are accepted; cells that are left, counted.
-/
import Derived.Test.YtcdhimnmbpllgaaDoorWG3
import Derived.Test.YtcdhimnmbpllgaaDoorDC1
namespace Go.Proofs.YtcdhimnmbpllgaaDoor
set_option linter.unusedVariables false
set_option linter.unusedSimpArgs false
set_option maxHeartbeats 1000000

theorem path_rel {W H : Nat} {f g : Nat → Nat → Bool} (hW : 1 ≤ W) (hf : ∀ x y, f x y = true → x < W ∧ y < H) (hg : ∀ x y, g x y = true → x < W ∧ y < H) : ∀ k at' c d i, at' + k = W * H → c < 2 ^ W → d < 2 ^ W → RelD W f g k at' c d → pathF W f k at' c i = pathF W g k at' d i
  | 0, _, _, _, _, _, _, _, _ => rfl
  | k + 1, at', c, d, i, hk, hc, hd, h => by
    have ih := fun c d i (hc : c < 2 ^ W) (hd : d < 2 ^ W) (h : RelD W f g k (at' + 1) c d) => path_rel hW hf hg k (at' + 1) c d i (by omega) hc hd h
    have hx : at' % W < W := Nat.mod_lt _ (by omega)
    have hdm := Nat.div_add_mod at' W
    have hfr := h.free
    have hyH : at' / W < H := by rw [Nat.div_lt_iff_lt_mul (by omega), Nat.mul_comm]; omega
    have h1 : ∀ n : Nat, (n % 2 == 0) = !decide (n % 2 = 1) := fun n => by
      have : n % 2 = 0 ∨ n % 2 = 1 := by omega
      rcases this with h | h <;> simp [h]
    have hri : rightD W f at' c = rightD W g at' d := by
      unfold rightD
      rw [hfr]
      by_cases hx1 : at' % W + 1 = W
      · simp [hx1]
      · have hcell := cell_right (W := W) (at' := at') (by omega)
        have hk1 : 0 < k := by
          have h4 : W * (at' / W + 1) ≤ W * H := Nat.mul_le_mul_left _ hyH
          rw [Nat.mul_add] at h4
          omega
        have h2 := h 1 (by omega)
        rw [hcell.1, hcell.2, Nat.testBit_succ, Nat.testBit_zero, Nat.testBit_succ, Nat.testBit_zero] at h2
        rw [h1, h1, h2]
    have e1 := fun i => ih (c / 2 ||| 2 ^ 0) (d / 2 ||| 2 ^ 0) i (cov_or (by omega) (cov_over hW hc)) (cov_or (by omega) (cov_over hW hd)) (h.next.bit 0)
    have e2 := fun i => ih (c / 2 ||| 2 ^ (W - 1)) (d / 2 ||| 2 ^ (W - 1)) i (cov_or (by omega) (cov_over hW hc)) (cov_or (by omega) (cov_over hW hd)) (h.next.bit (W - 1))
    have e3 := fun i => ih (c / 2) (d / 2) i (cov_over hW hc) (cov_over hW hd) h.next
    rw [Nat.pow_zero] at e1
    have hn : nR W f k at' c = nR W g k at' d := by
      unfold nR
      rw [hri, cnt_rel hW hf hg k (at' + 1) _ _ (by omega) (cov_or (b := 0) (by omega) (cov_over hW hc)) (cov_or (b := 0) (by omega) (cov_over hW hd)) (h.next.bit 0)]
    unfold pathF
    rw [hfr, hn, e1, e2, e3]
theorem cnt_skip {W H : Nat} {g : Nat → Nat → Bool} : ∀ at' k, at' + k = W * H → (∀ i, i < at' → g (i % W) (i / W) = false) → cntF W g (W * H) 0 0 = cntF W g k at' 0
  | 0, k, hk, h => by rw [Nat.zero_add] at hk; rw [hk]
  | at' + 1, k, hk, h => by
    rw [cnt_skip at' (k + 1) (by omega) (fun i hi => h i (by omega))]
    have h0 : freeD W g at' 0 = false := by unfold freeD; rw [h at' (by omega)]; rfl
    have hr : rightD W g at' 0 = false := by unfold rightD; rw [h0]; rfl
    have hd : downD W g at' 0 = false := by unfold downD; rw [h0]; rfl
    conv => lhs; unfold cntF
    rw [hr, hd, h0]
    simp
theorem pos_inj {W i j : Nat} (h1 : i % W = j % W) (h2 : i / W = j / W) : i = j := by
  rw [← Nat.div_add_mod i W, ← Nat.div_add_mod j W, h1, h2]
theorem offF_in {f : Nat → Nat → Bool} {X Y x y : Nat} (h : offF f X Y x y = true) : f x y = true := by
  unfold offF at h
  simp only [Bool.and_eq_true] at h
  exact h.1
theorem offF_ne {f : Nat → Nat → Bool} {X Y x y : Nat} (h : ¬ (x = X ∧ y = Y)) : offF f X Y x y = f x y := by
  unfold offF
  have : (decide (x = X) && decide (y = Y)) = false := by
    rw [← Bool.decide_and]; exact decide_eq_false h
  rw [this]; simp
theorem offF_eq {f : Nat → Nat → Bool} {X Y : Nat} : offF f X Y X Y = false := by
  unfold offF; simp
theorem takF_in {f : Nat → Nat → Bool} {X Y x y : Nat} {d : Bool} (h : takF f X Y d x y = true) : f x y = true := offF_in (offF_in h)
/-- What is left of the cells to come, behind a domino at the first cell: its second cell is b + 1 cells on. -/
theorem rel_tak {W : Nat} {f : Nat → Nat → Bool} {k at' b X Y : Nat} (hX : X = (at' + 1 + b) % W) (hY : Y = (at' + 1 + b) / W) : RelD W (offF (offF f (at' % W) (at' / W)) X Y) f k (at' + 1) 0 (2 ^ b) := fun i hi => by
  subst hX; subst hY
  rw [Nat.zero_testBit]
  by_cases h : b = i
  · subst h
    rw [offF_eq, Nat.testBit_two_pow_self]; simp
  · rw [offF_ne (fun h2 => h (by have := pos_inj h2.1 h2.2; omega)), offF_ne (fun h2 => by have := pos_inj h2.1 h2.2; omega), Nat.testBit_two_pow_of_ne h]
section
variable {W H : Nat} {f : Nat → Nat → Bool} {k at' : Nat}
theorem right_fits (hW : 1 ≤ W) (hf : ∀ x y, f x y = true → x < W ∧ y < H) (hfree : f (at' % W) (at' / W) = true) : rightD W f at' 0 = fitsB f W H (at' % W) (at' / W) false := by
  have hx : at' % W < W := Nat.mod_lt _ (by omega)
  have hy := (hf _ _ hfree).2
  unfold rightD freeD fitsB onX onY
  simp only [hfree, Bool.false_eq_true, if_false, Bool.true_and]
  rw [decide_eq_true hy]
  by_cases h : at' % W + 1 = W
  · have : ¬ (at' % W + 1 < W) := by omega
    simp [h]
  · have : at' % W + 1 < W := by omega
    simp [h, this]
theorem down_fits (hW : 1 ≤ W) (hf : ∀ x y, f x y = true → x < W ∧ y < H) (hfree : f (at' % W) (at' / W) = true) : downD W f at' 0 = fitsB f W H (at' % W) (at' / W) true := by
  have hx : at' % W < W := Nat.mod_lt _ (by omega)
  unfold downD freeD fitsB onX onY
  simp only [hfree, if_true, Bool.true_and]
  rw [decide_eq_true hx]
  cases e : f (at' % W) (at' / W + 1) with
  | false => simp
  | true => rw [decide_eq_true (hf _ _ e).2]; simp
theorem tak_right (hW : 1 ≤ W) (h : fitsB f W H (at' % W) (at' / W) false = true) : RelD W (takF f (at' % W) (at' / W) false) f k (at' + 1) 0 1 := by
  unfold fitsB onX onY at h
  simp only [Bool.false_eq_true, if_false, Bool.and_eq_true, decide_eq_true_eq] at h
  have hc := cell_right (W := W) (at' := at') h.2.1
  exact rel_tak (b := 0) hc.1.symm hc.2.symm
theorem tak_down (hW : 1 ≤ W) : RelD W (takF f (at' % W) (at' / W) true) f k (at' + 1) 0 (2 ^ (W - 1)) := by
  refine rel_tak (b := W - 1) ?_ ?_
  · rw [show at' + 1 + (W - 1) = at' + W by omega, Nat.add_mod_right]; rfl
  · rw [show at' + 1 + (W - 1) = at' + W by omega, Nat.add_div_right _ (by omega)]; rfl
theorem tak_before (d : Bool) (hb : ∀ i, i < at' → f (i % W) (i / W) = false) : ∀ i, i < at' + 1 → takF f (at' % W) (at' / W) d (i % W) (i / W) = false := fun i hi => by
  cases h : takF f (at' % W) (at' / W) d (i % W) (i / W) with
  | false => rfl
  | true =>
    by_cases e : i = at'
    · subst e
      have := offF_in h
      rw [offF_eq] at this; cases this
    · have := takF_in h
      rw [hb i (by omega)] at this; cases this
/-- A grid's count, by the dominoes at its first cell. -/
theorem cnt_first (hW : 1 ≤ W) (hf : ∀ x y, f x y = true → x < W ∧ y < H) (hk : at' + (k + 1) = W * H) (hb : ∀ i, i < at' → f (i % W) (i / W) = false) (hfree : f (at' % W) (at' / W) = true) :
    cntF W f (W * H) 0 0 = (if fitsB f W H (at' % W) (at' / W) false then cntF W (takF f (at' % W) (at' / W) false) (W * H) 0 0 else 0) + (if fitsB f W H (at' % W) (at' / W) true then cntF W (takF f (at' % W) (at' / W) true) (W * H) 0 0 else 0) := by
  have hfr : freeD W f at' 0 = true := by unfold freeD; rw [hfree]; rfl
  rw [cnt_skip at' (k + 1) hk hb]
  conv => lhs; unfold cntF
  rw [right_fits (H := H) hW hf hfree, down_fits (H := H) hW hf hfree, hfr]
  simp only [if_true, Nat.add_zero, Nat.zero_div, Nat.zero_or]
  congr 1
  · split
    · rename_i h
      rw [cnt_skip (g := takF f (at' % W) (at' / W) false) (at' + 1) k (by omega) (tak_before false hb), cnt_rel hW (fun x y h => hf _ _ (takF_in h)) hf k (at' + 1) 0 1 (by omega) (Nat.two_pow_pos W) (Nat.one_lt_two_pow (by omega)) (tak_right hW h)]
    · rfl
  · split
    · rw [cnt_skip (g := takF f (at' % W) (at' / W) true) (at' + 1) k (by omega) (tak_before true hb), cnt_rel hW (fun x y h => hf _ _ (takF_in h)) hf k (at' + 1) 0 (2 ^ (W - 1)) (by omega) (Nat.two_pow_pos W) (Nat.pow_lt_pow_right (by decide) (by omega)) (tak_down hW)]
    · rfl
/-- The first tiling, by its first domino. -/
theorem path_first (hW : 1 ≤ W) (hf : ∀ x y, f x y = true → x < W ∧ y < H) (hk : at' + (k + 1) = W * H) (hb : ∀ i, i < at' → f (i % W) (i / W) = false) (hfree : f (at' % W) (at' / W) = true) :
    pathF W f (k + 1) at' 0 0 = if fitsB f W H (at' % W) (at' / W) false = true ∧ 0 < cntF W (takF f (at' % W) (at' / W) false) (W * H) 0 0 then (((at' % W : Nat) : Int), ((at' / W : Nat) : Int), false) :: pathF W (takF f (at' % W) (at' / W) false) k (at' + 1) 0 0
      else (((at' % W : Nat) : Int), ((at' / W : Nat) : Int), true) :: pathF W (takF f (at' % W) (at' / W) true) k (at' + 1) 0 0 := by
  have hfr : freeD W f at' 0 = true := by unfold freeD; rw [hfree]; rfl
  have hn : nR W f k at' 0 = if fitsB f W H (at' % W) (at' / W) false = true then cntF W (takF f (at' % W) (at' / W) false) (W * H) 0 0 else 0 := by
    unfold nR
    rw [right_fits (H := H) hW hf hfree]
    split
    · rename_i h
      rw [cnt_skip (g := takF f (at' % W) (at' / W) false) (at' + 1) k (by omega) (tak_before false hb), cnt_rel hW (fun x y h => hf _ _ (takF_in h)) hf k (at' + 1) 0 1 (by omega) (Nat.two_pow_pos W) (Nat.one_lt_two_pow (by omega)) (tak_right hW h)]
      rfl
    · rfl
  conv => lhs; unfold pathF
  rw [hfr, if_pos rfl, hn]
  simp only [Nat.zero_div, Nat.zero_or]
  by_cases h : fitsB f W H (at' % W) (at' / W) false = true
  · rw [if_pos h]
    by_cases h2 : 0 < cntF W (takF f (at' % W) (at' / W) false) (W * H) 0 0
    · rw [if_neg (by omega), if_pos ⟨h, h2⟩, path_rel hW (fun x y h => hf _ _ (takF_in h)) hf k (at' + 1) 0 1 0 (by omega) (Nat.two_pow_pos W) (Nat.one_lt_two_pow (by omega)) (tak_right hW h)]
    · rw [if_pos (by omega), if_neg (fun h3 => h2 h3.2), show cntF W (takF f (at' % W) (at' / W) false) (W * H) 0 0 = 0 by omega, path_rel hW (fun x y h => hf _ _ (takF_in h)) hf k (at' + 1) 0 (2 ^ (W - 1)) 0 (by omega) (Nat.two_pow_pos W) (Nat.pow_lt_pow_right (by decide) (by omega)) (tak_down hW)]
  · rw [if_neg h, if_pos (Nat.le_refl _), if_neg (fun h3 => h h3.1), path_rel hW (fun x y h => hf _ _ (takF_in h)) hf k (at' + 1) 0 (2 ^ (W - 1)) 0 (by omega) (Nat.two_pow_pos W) (Nat.pow_lt_pow_right (by decide) (by omega)) (tak_down hW)]
theorem path_skip (h : f (at' % W) (at' / W) = false) : pathF W f (k + 1) at' 0 0 = pathF W f k (at' + 1) 0 0 := by
  have h0 : freeD W f at' 0 = false := by unfold freeD; rw [h]; rfl
  conv => lhs; unfold pathF
  rw [h0]; simp
end
end Go.Proofs.YtcdhimnmbpllgaaDoor

namespace Go.Proofs.YtcdhimnmbpllgaaDoor
set_option linter.unusedVariables false
set_option linter.unusedSimpArgs false
set_option maxHeartbeats 1000000

/-- Is a domino behind the one ahead of it, in reading order? -/
def ordB : Option Dom → Dom → Bool
  | none, _ => true
  | some e, d => !(decide (d.2.1 < e.2.1) || (decide (d.2.1 = e.2.1) && decide (d.1 ≤ e.1)))
def allF (W H : Nat) (f : Nat → Nat → Bool) : Prop := ∀ x y, x < W → y < H → f x y = false
instance (W H : Nat) (f : Nat → Nat → Bool) : Decidable (allF W H f) := decidable_of_iff ((List.range H).all (fun y => (List.range W).all fun x => !f x y) = true) (by
  rw [List.all_eq_true]
  constructor
  · intro h x y hx hy
    have := h y (List.mem_range.2 hy)
    rw [List.all_eq_true] at this
    simpa using this x (List.mem_range.2 hx)
  · intro h y hy
    rw [List.all_eq_true]
    intro x hx
    rw [h x y (List.mem_range.1 hx) (List.mem_range.1 hy)]; rfl)
def okD (W H : Nat) (f : Nat → Nat → Bool) (prev : Option Dom) (d : Dom) : Bool := decide (0 ≤ d.1 ∧ d.1 < W ∧ 0 ≤ d.2.1 ∧ d.2.1 < H) && (fitsB f W H d.1.toNat d.2.1.toNat d.2.2 && ordB prev d)
def takD (f : Nat → Nat → Bool) (d : Dom) : Nat → Nat → Bool := takF f d.1.toNat d.2.1.toNat d.2.2
/-- Do dominoes cover just the cells of a grid, in reading order? -/
def isT (W H : Nat) : (Nat → Nat → Bool) → Option Dom → List Dom → Bool
  | f, _, [] => decide (allF W H f)
  | f, prev, d :: t => okD W H f prev d && isT W H (takD f d) (some d) t
theorem isT_more {W H : Nat} {f : Nat → Nat → Bool} {prev : Option Dom} {t : List Dom} {i : Nat} {d : Dom} (h : t[i]? = some d) : isT W H f prev (t.drop i) = (okD W H f prev d && isT W H (takD f d) (some d) (t.drop (i + 1))) := by
  obtain ⟨hi, rfl⟩ := List.getElem?_eq_some_iff.1 h
  rw [List.drop_eq_getElem_cons hi]
  rfl
theorem unc_off {W : Nat} {f : Nat → Nat → Bool} {X Y : Nat} : ∀ N j, j < N → j % W = X → j / W = Y → f X Y = true → (List.range N).countP (fun i => offF f X Y (i % W) (i / W)) + 1 = (List.range N).countP fun i => f (i % W) (i / W)
  | 0, j, h, _, _, _ => by omega
  | N + 1, j, h, h1, h2, hf => by
    rw [List.range_succ, List.countP_append, List.countP_append]
    by_cases hj : j = N
    · subst hj
      have e : (List.range j).countP (fun i => offF f X Y (i % W) (i / W)) = (List.range j).countP fun i => f (i % W) (i / W) := by
        apply List.countP_congr
        intro i hi
        have hi := List.mem_range.1 hi
        rw [offF_ne (fun h3 => by
          have := pos_inj (W := W) (i := i) (j := j) (by rw [h3.1, h1]) (by rw [h3.2, h2])
          omega)]
      rw [e]
      simp [h1, h2, offF_eq, hf]
    · have ih := unc_off (W := W) (f := f) N j (by omega) h1 h2 hf
      have e : offF f X Y (N % W) (N / W) = f (N % W) (N / W) := offF_ne (fun h3 => hj (pos_inj (W := W) (by rw [h3.1, h1]) (by rw [h3.2, h2])))
      rw [← ih]
      simp only [List.countP_singleton, e]
      omega
/-- How many cells are left. -/
def cellN (W H : Nat) (f : Nat → Nat → Bool) : Nat := (List.range (W * H)).countP fun i => f (i % W) (i / W)
theorem cellN_tak {W H : Nat} {f : Nat → Nat → Bool} {X Y : Nat} {d : Bool} (hX : X < W) (hY : Y < H) (h : fitsB f W H X Y d = true) : cellN W H (takF f X Y d) + 2 = cellN W H f := by
  unfold fitsB at h
  simp only [Bool.and_eq_true, decide_eq_true_eq] at h
  obtain ⟨h1, h2, h3, h4⟩ := h
  have hp : ∀ x y, x < W → y < H → y * W + x < W * H ∧ (y * W + x) % W = x ∧ (y * W + x) / W = y := fun x y hx hy => by
    have h5 := Nat.mul_le_mul_right W (show y + 1 ≤ H from hy)
    rw [Nat.succ_mul, Nat.mul_comm H W] at h5
    exact ⟨by omega, by rw [Nat.mul_comm, Nat.mul_add_mod, Nat.mod_eq_of_lt hx], by rw [Nat.mul_comm, Nat.mul_add_div (by omega), Nat.div_eq_of_lt hx, Nat.add_zero]⟩
  obtain ⟨a1, a2, a3⟩ := hp X Y hX hY
  obtain ⟨b1, b2, b3⟩ := hp _ _ h2 h1
  have e1 := unc_off (f := f) _ _ a1 a2 a3 h3
  have e2 := unc_off (f := offF f X Y) _ _ b1 b2 b3 (by
    rw [offF_ne (by unfold onX onY; cases d <;> simp)]; exact h4)
  unfold cellN takF
  omega
theorem cellN_zero {W H : Nat} {f : Nat → Nat → Bool} : cellN W H f = 0 ↔ allF W H f := by
  unfold cellN
  rw [List.countP_eq_zero]
  constructor
  · intro h x y hx hy
    have h5 := Nat.mul_le_mul_right W (show y + 1 ≤ H from hy)
    rw [Nat.succ_mul, Nat.mul_comm H W] at h5
    have := h (y * W + x) (List.mem_range.2 (by omega))
    rw [Nat.mul_comm, Nat.mul_add_mod, Nat.mod_eq_of_lt hx, Nat.mul_add_div (by omega), Nat.div_eq_of_lt hx, Nat.add_zero] at this
    simpa using this
  · intro h i hi
    have hi := List.mem_range.1 hi
    have hW : 0 < W := by
      rcases Nat.eq_zero_or_pos W with e | e
      · subst e; simp at hi
      · exact e
    rw [h (i % W) (i / W) (Nat.mod_lt _ hW) (by rw [Nat.div_lt_iff_lt_mul hW, Nat.mul_comm]; exact hi)]
    decide
theorem cells_len (p : List ByteArray) (hW : 1 ≤ wd p) : (cellsL p).length = cellN (wd p) p.length (hsR p) := by
  have hrow : ∀ y x, x ≤ wd p → (rowCl p y x).length = (List.range x).countP fun i => hsR p i y := by
    intro y x
    induction x with
    | zero => intro _; rfl
    | succ x ih =>
      intro h
      rw [rowCl_succ, List.length_append, ih (by omega), List.range_succ, List.countP_append]
      congr 1
      cases hq : hsR p x y <;> simp [hq]
  have hk : ∀ k, (cellsK p k).length = (List.range (wd p * k)).countP fun i => hsR p (i % wd p) (i / wd p) := by
    intro k
    induction k with
    | zero => rfl
    | succ k ih =>
      rw [cellsK_succ, List.length_append, ih, hrow k _ (Nat.le_refl _), Nat.mul_succ, List.range_add, List.countP_append, List.countP_map]
      congr 1
      apply List.countP_congr
      intro i hi
      have hi := List.mem_range.1 hi
      simp only [Function.comp]
      rw [Nat.mul_add_mod, Nat.mod_eq_of_lt hi, Nat.mul_add_div (by omega), Nat.div_eq_of_lt hi, Nat.add_zero]
  exact hk _
end Go.Proofs.YtcdhimnmbpllgaaDoor

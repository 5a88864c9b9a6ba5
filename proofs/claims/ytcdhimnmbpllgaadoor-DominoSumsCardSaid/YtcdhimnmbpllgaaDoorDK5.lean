/-
  Plain: the matrix of Kasteleyn; a slice of rows as a matrix; the determinant of no rows.
-/
import Derived.Test.YtcdhimnmbpllgaaDoorDK4
import Derived.Test.YtcdhimnmbpllgaaDoorDC2
import Derived.Test.YtcdhimnmbpllgaaDoorDC3
namespace Go.Proofs.YtcdhimnmbpllgaaDoor
open Go.RowKit
set_option linter.unusedVariables false
set_option linter.unusedSimpArgs false
set_option maxHeartbeats 1000000
set_option maxRecDepth 100000

theorem mem_rowCl {p : List ByteArray} {y k : Nat} {q : Int × Int} : q ∈ rowCl p y k ↔ ∃ x : Nat, x < k ∧ hsR p x y = true ∧ q = ((x : Int), (y : Int)) := by
  unfold rowCl
  rw [List.mem_map]
  constructor
  · rintro ⟨x, hx, rfl⟩
    rw [List.mem_filter, List.mem_range] at hx
    exact ⟨x, hx.1, hx.2, rfl⟩
  · rintro ⟨x, h1, h2, rfl⟩
    exact ⟨x, by rw [List.mem_filter, List.mem_range]; exact ⟨h1, h2⟩, rfl⟩
theorem hsI_in {p : List ByteArray} {x y : Int} (h : hsI p x y = true) : 0 ≤ x ∧ 0 ≤ y ∧ x < wd p ∧ y < p.length := by
  unfold hsI at h
  simp only [Bool.and_eq_true, decide_eq_true_eq] at h
  exact ⟨h.1, h.2.1, h.2.2.1, h.2.2.2.1⟩
theorem mem_cells {p : List ByteArray} {q : Int × Int} : q ∈ cellsL p ↔ hsI p q.1 q.2 = true := by
  unfold cellsL cellsK
  rw [List.mem_flatMap]
  constructor
  · rintro ⟨y, hy, hq⟩
    rw [mem_rowCl] at hq
    obtain ⟨x, _, h, rfl⟩ := hq
    exact h
  · intro h
    obtain ⟨h1, h2, h3, h4⟩ := hsI_in h
    refine ⟨q.2.toNat, by rw [List.mem_range]; omega, mem_rowCl.2 ⟨q.1.toNat, by omega, ?_, ?_⟩⟩
    · unfold hsR
      rw [Int.toNat_of_nonneg h1, Int.toNat_of_nonneg h2]
      exact h
    · exact Prod.ext (Int.toNat_of_nonneg h1).symm (Int.toNat_of_nonneg h2).symm
theorem mem_nbrs {p : List ByteArray} {q a : Int × Int} (h : a ∈ nbrsL p q) : hsI p a.1 a.2 = true ∧ ∃ k, k < 4 ∧ a = (q.1 + dxN k, q.2 + dyN k) := by
  unfold nbrsL nbrsK at h
  rw [List.mem_map] at h
  obtain ⟨k, hk, rfl⟩ := h
  rw [List.mem_filter, List.mem_range] at hk
  exact ⟨hk.2, k, hk.1, rfl⟩
theorem black_nbr {p : List ByteArray} {q a : Int × Int} (h : a ∈ nbrsL p q) : blackB a = !blackB q := by
  obtain ⟨_, k, hk, rfl⟩ := mem_nbrs h
  have h4 : k = 0 ∨ k = 1 ∨ k = 2 ∨ k = 3 := by omega
  unfold blackB
  have e : ∀ n : Int, (n % 2 == 0) = !decide (n % 2 = 1) := fun n => by
    have : n % 2 = 0 ∨ n % 2 = 1 := by omega
    rcases this with h | h <;> simp [h]
  rcases h4 with rfl | rfl | rfl | rfl <;> simp only [dxN, dyN, e, Nat.succ_ne_self, if_true, if_false, Nat.reduceEqDiff, Nat.zero_ne_one] <;> rw [Bool.eq_iff_iff] <;> simp <;> omega
def blacksL (p : List ByteArray) : List (Int × Int) := (cellsL p).filter blackB
def whitesL (p : List ByteArray) : List (Int × Int) := (cellsL p).filter fun q => !blackB q
theorem idxC_mem {l : List (Int × Int)} {q : Int × Int} (h : q ∈ l) : ∃ i : Nat, i < l.length ∧ idxC l q = i ∧ l[i]? = some q := by
  unfold idxC
  cases hf : l.findIdx? (fun x => decide (x = q)) with
  | none =>
    rw [List.findIdx?_eq_none_iff] at hf
    have := hf q h
    simp at this
  | some i =>
    rw [List.findIdx?_eq_some_iff_getElem] at hf
    obtain ⟨hl, h1, _⟩ := hf
    exact ⟨i, hl, rfl, by rw [List.getElem?_eq_getElem hl, of_decide_eq_true h1]⟩
theorem white_nbr {p : List ByteArray} {b a : Int × Int} (hb : b ∈ blacksL p) (h : a ∈ nbrsL p b) : a ∈ whitesL p := by
  unfold blacksL at hb
  unfold whitesL
  rw [List.mem_filter] at hb ⊢
  exact ⟨mem_cells.2 (mem_nbrs h).1, by rw [black_nbr h, hb.2]; rfl⟩
/-- The entry of two cells. -/
def sgnN (b q : Int × Int) : Nat := if q.1 = b.1 ∧ b.1 % 2 ≠ 0 then prm - 1 else 1
def kRowK (p : List ByteArray) (b : Int × Int) (k : Nat) : List Nat := ((nbrsL p b).take k).foldl (fun row q => row.set (idxC (whitesL p) q).toNat (sgnN b q)) (List.replicate (whitesL p).length 0)
def kRow (p : List ByteArray) (b : Int × Int) : List Nat := kRowK p b 4
def kasM (p : List ByteArray) : List (List Nat) := (blacksL p).map (kRow p)
theorem kRowK_len (p : List ByteArray) (b : Int × Int) (k : Nat) : (kRowK p b k).length = (whitesL p).length := by
  unfold kRowK
  generalize (nbrsL p b).take k = l
  have : ∀ (l : List (Int × Int)) (r : List Nat), (l.foldl (fun row q => row.set (idxC (whitesL p) q).toNat (sgnN b q)) r).length = r.length := by
    intro l
    induction l with
    | nil => intro r; rfl
    | cons a l ih => intro r; rw [List.foldl_cons, ih, List.length_set]
  rw [this, List.length_replicate]
theorem kRowK_lt (p : List ByteArray) (b : Int × Int) (k : Nat) : ∀ x ∈ kRowK p b k, x < prm := by
  unfold kRowK
  generalize (nbrsL p b).take k = l
  have : ∀ (l : List (Int × Int)) (r : List Nat), (∀ x ∈ r, x < prm) → ∀ x ∈ l.foldl (fun row q => row.set (idxC (whitesL p) q).toNat (sgnN b q)) r, x < prm := by
    intro l
    induction l with
    | nil => intro r h; exact h
    | cons a l ih =>
      intro r h
      rw [List.foldl_cons]
      refine ih _ fun x hx => ?_
      rcases List.mem_or_eq_of_mem_set hx with hx | rfl
      · exact h x hx
      · unfold sgnN; split <;> decide
  refine this _ _ fun x hx => ?_
  rw [List.mem_replicate] at hx
  rw [hx.2]
  decide
theorem kRowK_succ {p : List ByteArray} {b q : Int × Int} {k : Nat} (h : (nbrsL p b)[k]? = some q) : kRowK p b (k + 1) = (kRowK p b k).set (idxC (whitesL p) q).toNat (sgnN b q) := by
  unfold kRowK
  obtain ⟨hk, he⟩ := List.getElem?_eq_some_iff.1 h
  rw [List.take_succ_eq_append_getElem hk, List.foldl_append, he]
  rfl
theorem kRowK_end (p : List ByteArray) (b : Int × Int) : kRowK p b (nbrsL p b).length = kRow p b := by
  unfold kRow kRowK
  have := nbrsK_len p b 4
  rw [List.take_of_length_le (Nat.le_refl _), List.take_of_length_le (show (nbrsL p b).length ≤ 4 from this)]
theorem kasM_ok {p : List ByteArray} {n : Nat} (h1 : (blacksL p).length = n) (h2 : (whitesL p).length = n) : MatN n (kasM p) := by
  refine ⟨by unfold kasM; rw [List.length_map, h1], fun r hr => ?_, fun r hr => ?_⟩
  · unfold kasM at hr
    rw [List.mem_map] at hr
    obtain ⟨b, _, rfl⟩ := hr
    exact (kRowK_len p b 4).trans h2
  · unfold kasM at hr
    rw [List.mem_map] at hr
    obtain ⟨b, _, rfl⟩ := hr
    exact kRowK_lt p b 4
/-- A slice of rows as a matrix. -/
theorem rows_sum {S : List Nat → Value → MS → Prop} : ∀ {l : List (List Nat)} {xs : List Value} {m : MS}, RowsR (El S) l xs m → ∃ ms : List MS, ms.length = l.length ∧ m = sumMS ms ∧ ∀ (j : Nat) r, l[j]? = some r → ∃ v mj, xs[j]? = some v ∧ ms[j]? = some mj ∧ S r v mj
  | [], xs, m, h => ⟨[], rfl, h.2, fun j r hj => by simp at hj⟩
  | a :: l, xs, m, h => by
    obtain ⟨c1, m1, c2, m2, ⟨v, rfl, hs, _⟩, h2, rfl, rfl⟩ := h
    obtain ⟨ms, e1, rfl, e3⟩ := rows_sum h2
    refine ⟨m1 :: ms, by simp [e1], rfl, fun j r hj => ?_⟩
    cases j with
    | zero =>
      simp only [List.getElem?_cons_zero, Option.some.injEq] at hj
      subst hj
      exact ⟨v, m1, rfl, rfl, hs⟩
    | succ j =>
      simp only [List.getElem?_cons_succ] at hj
      obtain ⟨v', mj, g1, g2, g3⟩ := e3 j r hj
      exact ⟨v', mj, by simpa using g1, by simpa using g2, g3⟩
theorem mat_of {M : List (List Nat)} {v : Value} {m : MS} (h : SlR 69 1 (El NatS) M v m) (h0 : 0 < M.length) :
    ∃ b off c cur ms, v = .slice (some ⟨b, off, none⟩) M.length c ∧ M.length ≤ c ∧ m = blk b cur 69 + sumMS ms ∧ MatIs M.length off M cur ms := by
  obtain ⟨xs, mS, mr, h1, h2, rfl⟩ := h
  have hl := h1.1
  obtain ⟨b, off, c, cur, rfl, rfl, hc, hcell, _⟩ := Sl.at_ h1 h0
  obtain ⟨ms, e1, rfl, e3⟩ := rows_sum h2
  refine ⟨b, off, c, cur, ms, rfl, hc, rfl, rfl, e1, fun j r hj => ?_⟩
  obtain ⟨v', mj, g1, g2, g3⟩ := e3 j r hj
  have hj' := (List.getElem?_eq_some_iff.1 hj).1
  exact ⟨v', mj, by rw [hcell j (by omega)]; exact g1, g2, g3⟩
theorem det_nil (w : World) : Calls Tryd.prog 41 #[.slice none 0 0] w fun e w' => e = .returned (.int .i64 1) ∧ w' = w := by
  go_enter Tryd.func41, Tryd.ntmps41
  go_wp2
  go_loopw [3, 13] (fun v3 v13 wr => v3 = .int .i64 1 ∧ v13 = .int .i64 0 ∧ wr = w) (fun _ _ _ => 0)
  case atStart => exact ⟨rfl, rfl, rfl⟩
  case round =>
    obtain ⟨rfl, rfl, hw⟩ := hrel
    go_wp2
    go_ret
    exact ⟨rfl, rfl⟩
end Go.Proofs.YtcdhimnmbpllgaaDoor

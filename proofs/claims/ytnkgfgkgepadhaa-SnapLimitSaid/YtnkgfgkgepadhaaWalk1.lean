/-
  Walks: parcelled, room, pair; Clone of a row of ints.
-/
import Derived.Test.YtnkgfgkgepadhaaData
namespace Go.Proofs.Ytnkgfgkgepadhaa
open Go.RowKit
set_option linter.unusedVariables false

theorem ret_int {k : IntKind} {a b : Int} (h : a = b) : Ending.returned (.int k a) = .returned (.int k b) := by rw [h]
theorem ret_bool {a b : Bool} (h : a = b) : Ending.returned (.bool a) = .returned (.bool b) := by rw [h]

def parcB (n : Int) : Bool := decide (1 ≤ n ∧ n ≤ 1000000)
theorem parcB_eq (n : Int) : decide (1 ≤ n ∧ n ≤ 1000000) = parcB n := rfl
theorem parcB_yes {n : Int} (h : 1 ≤ n ∧ n ≤ 1000000) : parcB n = true := by simp [parcB, h]
theorem parcB_no {n : Int} (h : ¬ (1 ≤ n ∧ n ≤ 1000000)) : parcB n = false := decide_eq_false h
theorem parcB_range {n : Int} (h : parcB n = true) : 1 ≤ n ∧ n ≤ 1000000 := by simpa [parcB] using h
theorem parcelled_any (n : Int) (w : World) :
    Calls Try.prog 63 #[.int .i64 n] w fun e w' => e = .returned (.bool (parcB n)) ∧ w = w' := by
  rw [← parcB_eq]
  by_cases h1 : 1 ≤ n
  · go_enter Try.func63, Try.ntmps63
    go_wp2
    go_ret
    exact ⟨ret_bool (by simp; omega), rfl⟩
  · have h2 : n < 1 := by omega
    go_enter Try.func63, Try.ntmps63
    go_wp2
    go_ret
    exact ⟨ret_bool (by simp; omega), rfl⟩

def roomErr (n : Nat) : Int := if n < 400 then 0 else 8
/-- The number of events, as 'room' reads it. -/
theorem room_any (b : Nat) (A : Option Addr) (n c : Nat) (w : World) (h : w.cell? ⟨b, 3, none⟩ = some (.slice A n c)) :
    Calls Try.prog 51 #[.pointer (some ⟨b, 0, none⟩)] w fun e w' => e = .returned (.int .i64 (roomErr n)) ∧ w = w' := by
  by_cases h1 : n < 400
  · have h2 : ¬ (400 : Int) ≤ n := by omega
    go_enter Try.func51, Try.ntmps51
    go_wp2
    go_ret
    exact ⟨ret_int (by unfold roomErr; rw [if_pos (by omega)]), rfl⟩
  · have h2 : (400 : Int) ≤ n := by omega
    go_enter Try.func51, Try.ntmps51
    go_wp2
    go_ret
    exact ⟨ret_int (by unfold roomErr; rw [if_neg (by omega)]), rfl⟩

/-- The errors of a channel's ends. -/
def pairErr (n : Nat) (x y : Int) : Int := if (0 ≤ x ∧ x < n) ∧ (0 ≤ y ∧ y < n) ∧ x ≠ y then 0 else 2
theorem pairErr_eq {n : Nat} {x y : Int} (h : (x == y) = true) : pairErr n x y = 2 := by
  unfold pairErr; rw [if_neg]; intro h'; exact h'.2.2 (by simpa using h)
theorem pairErr_ok {n : Nat} {x y : Int} (h1 : 0 ≤ x) (h2 : x < n) (h3 : 0 ≤ y) (h4 : y < n) (h : (x == y) = false) : pairErr n x y = 0 := by
  unfold pairErr; rw [if_pos]; exact ⟨⟨h1, h2⟩, ⟨h3, h4⟩, by simpa using h⟩
theorem pairErr_no {n : Nat} {x y : Int} (h : ¬ ((0 ≤ x ∧ x < n) ∧ (0 ≤ y ∧ y < n))) : pairErr n x y = 2 := by
  unfold pairErr; rw [if_neg]; intro h'; exact h ⟨h'.1, h'.2.1⟩
theorem pair_any (b : Nat) (ad : Addr) (n c : Nat) (w : World) (h : w.cell? ⟨b, 0, none⟩ = some (.slice (some ad) n c)) (x y : Int) :
    Calls Try.prog 50 #[.pointer (some ⟨b, 0, none⟩), .int .i64 x, .int .i64 y] w fun e w' => e = .returned (.int .i64 (pairErr n x y)) ∧ w = w' := by
  go_enter Try.func50, Try.ntmps50
  go_wp2
  all_goals
    go_ret
    refine ⟨ret_int ?_, rfl⟩
    first
    | (symm; exact pairErr_eq (by assumption))
    | (symm; exact pairErr_ok (by assumption) (by assumption) (by assumption) (by assumption) (by assumption))
    | (symm; exact pairErr_no (by omega))
/-- A nil net. -/
theorem pair_nil (x y : Int) (w : World) : Calls Try.prog 50 #[.pointer none, .int .i64 x, .int .i64 y] w fun e w' => e = .returned (.int .i64 1) ∧ w = w' := by
  go_enter Try.func50, Try.ntmps50
  go_wp2
  go_ret
  exact ⟨rfl, rfl⟩
/-- A zero net. -/
theorem pair_zero (b : Nat) (w : World) (h : w.cell? ⟨b, 0, none⟩ = some (.slice none 0 0)) (x y : Int) :
    Calls Try.prog 50 #[.pointer (some ⟨b, 0, none⟩), .int .i64 x, .int .i64 y] w fun e w' => e = .returned (.int .i64 1) ∧ w = w' := by
  go_enter Try.func50, Try.ntmps50
  go_wp2
  go_ret
  exact ⟨rfl, rfl⟩

/-! ### Clone of ints -/
theorem clone_ints (A : Option Addr) (n c : Nat) (l : List Int) (hn : l.length = n) (w : World) (F : MS) (hr : RdInts w A l) (hH : Has w F) (hl : l.length ≤ 1000000) :
    Calls Try.prog 58 #[.slice A n c] w fun e w' => ∃ A' c' m, e = .returned (.slice A' n c') ∧ Ints l (.slice A' n c') m ∧ Has w' (m + F) ∧ Ext w w' := by
  subst hn
  cases A with
  | none =>
    obtain rfl : l = [] := hr.1 rfl
    go_enter Try.func58, Try.ntmps58
    go_wp2
    go_ret
    exact ⟨_, _, 0, rfl, Ints.of (Sl.nil 3 1), (MS.zero_add F).symm ▸ hH, Ext.refl w⟩
  | some ad =>
    go_enter Try.func58, Try.ntmps58
    go_wp2_with (at_builtin; refine wpList_append_sl rfl (.tmp 5) (.tmp 6) 22 rfl 3 _ 1 8 Try.underlying22 info3 rfl _ rfl (some ad) l.length c rfl 0 [] (blk w.heap.size #[] 3) F (Sl.empty _ _ _) (hH.alloc _) (l.map (Value.int .i64)) (by simp) (by simp) (hr.alloc _).2 (ints_one l) (by simp only [maxLen]; omega) (by omega) ?_; intro v' w' m' h1 h2 h3)
    go_ret
    obtain ⟨A', c', rfl, _⟩ := h1.form
    simp only [Nat.zero_add] at h1 ⊢
    exact ⟨_, _, m', rfl, Ints.of (by simpa using h1), h2, (Ext.alloc _ _).trans h3⟩
end Go.Proofs.Ytnkgfgkgepadhaa

/-
  An owned slice of places: read, resliced, appended to.
-/
import Derived.Test.YtnkgfgkgepadhaaPlaces
import Derived.Test.YtnkgfgkgepadhaaEvRd
import Derived.Test.YtnkgfgkgepadhaaWalk14
namespace Go.Proofs.Ytnkgfgkgepadhaa
open Go.RowKit
set_option linter.unusedVariables false
set_option linter.unusedSimpArgs false

def PlR (q : List Int) (cs : List Value) (m : MS) : Prop := cs = q.map (Value.int .i64) ∧ q.length = 5 ∧ m = 0
theorem PlR.one : ∀ a cs m, PlR a cs m → ∀ u ∈ cs, u.oneCell' = true := fun a cs m h u hu => by
  rw [h.1] at hu
  obtain ⟨x, _, rfl⟩ := List.mem_map.1 hu
  rfl
theorem PlR.len : ∀ a cs m, PlR a cs m → cs.length = 5 := fun a cs m h => by rw [h.1, List.length_map]; exact h.2.1
def Pls : List (List Int) → Value → MS → Prop := SlR 135 5 PlR
theorem size135 : (Try.prog.info? 135).map (·.size) = some 5 := by kernel_rfl
theorem row137 : RowTy Try.prog 137 135 (.agg #[.int .i64 0, .int .i64 0, .int .i64 0, .int .i64 0, .int .i64 0]) 5 40 := ⟨Try.underlying137, by kernel_rfl, rfl⟩
def restOff5 (c off : Nat) : Nat := if c = 1 then off else off + 5
theorem slice137 (bl off n c : Nat) (w : World) :
    (Instr.sliceAt 137 (.slice (some ⟨bl, off, none⟩) (n + 1) c) (some (.int .i64 1)) none none).run Try.prog w = .ok (.slice (some ⟨bl, restOff5 c off, none⟩) n (c - 1)) w := by
  obtain ⟨i, hi, hz'⟩ := Option.map_eq_some_iff.1 size135
  have hs : (sizeOf 135).run Try.prog w = .ok 5 w := by simp [sizeOf, typeInfo, hi, hz']
  by_cases h : c = 1
  · subst h
    simp [Instr.sliceAt, run_underlying Try.underlying137, Instr.slice, Instr.sliceBounds, Instr.sliceBound, hs, restOff5, asIntOf, (by omega : (1 : Int) ≤ ↑n + 1)]
  · simp [Instr.sliceAt, run_underlying Try.underlying137, Instr.slice, Instr.sliceBounds, Instr.sliceBound, hs, restOff5, asIntOf, h, Addr.add, (by omega : (1 : Int) ≤ ↑n + 1)]
theorem pls_cons {q : List Int} {l : List (List Int)} {v : Value} {m : MS} (h : Pls (q :: l) v m) :
    ∃ b o c cur, v = .slice (some ⟨b, o, none⟩) (l.length + 1) c ∧ m = blk b cur 135 ∧ q.length = 5 ∧ (∀ j : Nat, j < 5 → cur[o + j]? = some (.int .i64 (q.getD j 0))) ∧ Pls l (.slice (some ⟨b, restOff5 c o, none⟩) l.length (c - 1)) m := by
  obtain ⟨xs, ms, mr, h1, h2, rfl⟩ := h
  obtain ⟨c1, m1, c2, m2, ⟨rfl, hq, rfl⟩, h3, rfl, rfl⟩ := h2
  rcases h1 with ⟨hl, ⟨_, h0, _⟩ | ⟨bl, off, c, cur, rfl, rfl, k1, k2, k3, k4⟩⟩
  · simp at h0
  · simp only [List.length_cons] at k1 k3 k4 hl
    have hm2 : m2 = 0 := by
      have : ∀ (l : List (List Int)) (cs : List Value) (m : MS), RowsR PlR l cs m → m = 0 := by
        intro l
        induction l with
        | nil => intro cs m h; exact h.2
        | cons a l ih =>
          intro cs m h
          obtain ⟨d1, n1, d2, n2, g1, g2, _, rfl⟩ := h
          rw [ih _ _ g2, g1.2.2, MS.zero_add]
      exact this _ _ _ h3
    subst hm2
    have e0 : blk bl cur 135 + (0 + 0) = blk bl cur 135 := by rw [MS.zero_add, MS.add_zero]
    refine ⟨bl, off, c, cur, rfl, e0, hq, fun j hj => ?_, ?_⟩
    · rw [k4 j (by omega), List.getElem?_append_left (by simp; omega)]
      simp [List.getD, show j < q.length by omega]
    · refine ⟨c2, blk bl cur 135, 0, ⟨by rw [List.length_append, List.length_map] at hl; omega, .inr ⟨bl, restOff5 c off, c - 1, cur, rfl, rfl, by omega, by omega, by unfold restOff5; split <;> omega, fun j hj => ?_⟩⟩, h3, by rw [MS.zero_add, MS.add_zero]⟩
      have := k4 (j + 5) (by omega)
      unfold restOff5
      rw [if_neg (by omega), show off + 5 + j = off + (j + 5) by omega, this, List.getElem?_append_right (by simp; omega)]
      simp only [List.length_map, hq]
      rw [show j + 5 - 5 = j by omega]
end Go.Proofs.Ytnkgfgkgepadhaa

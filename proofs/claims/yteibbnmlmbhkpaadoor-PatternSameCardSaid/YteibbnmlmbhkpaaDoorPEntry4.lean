/-
  A move, four bytes as arguments.
-/
import Derived.Test.YteibbnmlmbhkpaaDoorPEntry
import Derived.Test.YteibbnmlmbhkpaaDoorLawP5
import Derived.WideShapes
namespace Go.Proofs.YteibbnmlmbhkpaaDoor
open Go.WideShapes
set_option linter.unusedVariables false
set_option maxRecDepth 100000

theorem move_arg {H : Type} {enc : TypeId × Value → H} {W : World} {r : Reach} {base : Nat} {v : Value} {d : DataW H} {p : List MemPlace}
    (hv : Value.okWide Tryd.prog W r base 41 v) (h : DataW.Trod enc Tryd.prog W 0 (fun _ => true) true 41 v d p) : ∃ m : Mv, v = m.v ∧ m.v = m.v := by
  obtain ⟨fuel, hf⟩ := h
  obtain ⟨m, hm, _⟩ := move_read hf
  obtain ⟨cs, rfl, _⟩ := okWide_struct Tryd.underlying41 hv
  refine ⟨m, ?_, rfl⟩
  have h1 : cs.toList = m.cells := hm
  have : cs = m.cells.toArray := by rw [← h1]
  rw [this]
  rfl
def arrV (m : Int × Int × Int × Int) : Value := .agg #[.int .u8 m.1, .int .u8 m.2.1, .int .u8 m.2.2.1, .int .u8 m.2.2.2]
theorem ct50 : Tryd.prog.cellTypes Tryd.prog.depth 50 = some [5, 5, 5, 5] := by kernel_rfl
theorem cells50 : Tryd.prog.cellsOf 50 = 4 := by kernel_rfl
theorem u8_cell {W : World} {r : Reach} {base : Nat} {v : Value} (h : Cell.okWide Tryd.prog W r base 5 v) : ∃ n : Int, v = .int .u8 n ∧ (0 ≤ n ∧ n ≤ 255) := by
  have hv : Value.okWide Tryd.prog W r base 5 v := by
    simp only [Value.okWide, Tryd.underlying5]
    exact h
  obtain ⟨n, rfl⟩ := okWide_int Tryd.underlying5 hv
  refine ⟨n, rfl, ?_⟩
  simp [Value.okWide, Tryd.underlying5, Cell.okWide, Cell.ok] at hv
  have h1 : IntKind.u8.min ≤ n ∧ n ≤ IntKind.u8.max := hv
  have h2 : IntKind.u8.min = 0 := by decide
  have h3 : IntKind.u8.max = 255 := by decide
  omega
theorem arr4_arg {H : Type} {enc : TypeId × Value → H} {W : World} {r : Reach} {base : Nat} {v : Value} {d : DataW H} {p : List MemPlace}
    (hv : Value.okWide Tryd.prog W r base 50 v) (h : DataW.Trod enc Tryd.prog W 0 (fun _ => true) true 50 v d p) : ∃ m : Int × Int × Int × Int, v = arrV m ∧ ((0 ≤ m.1 ∧ m.1 ≤ 255) ∧ (0 ≤ m.2.1 ∧ m.2.1 ≤ 255) ∧ (0 ≤ m.2.2.1 ∧ m.2.2.1 ≤ 255) ∧ (0 ≤ m.2.2.2 ∧ m.2.2.2 ≤ 255)) := by
  simp only [Value.okWide, Tryd.underlying50] at hv
  obtain ⟨cs, rfl, hs, ts, hts, _, hc⟩ := hv
  rw [ct50] at hts
  injection hts with hts
  subst hts
  rw [cells50] at hs
  have key : ∀ i : Nat, i < 4 → ∃ n : Int, cs[i]? = some (.int .u8 n) ∧ (0 ≤ n ∧ n ≤ 255) := fun i hi => by
    obtain ⟨u, hu⟩ : ∃ u, cs[i]? = some u := ⟨_, Array.getElem?_eq_getElem (by omega)⟩
    obtain ⟨t, ht, hk⟩ := hc i u hu
    have h5 : t = 5 := by
      have h' : i = 0 ∨ i = 1 ∨ i = 2 ∨ i = 3 := by omega
      rcases h' with rfl | rfl | rfl | rfl <;> (simp at ht; exact ht.symm)
    subst h5
    obtain ⟨n, rfl, hn⟩ := u8_cell hk
    exact ⟨n, hu, hn⟩
  obtain ⟨n0, e0, k0⟩ := key 0 (by omega)
  obtain ⟨n1, e1, k1⟩ := key 1 (by omega)
  obtain ⟨n2, e2, k2⟩ := key 2 (by omega)
  obtain ⟨n3, e3, k3⟩ := key 3 (by omega)
  refine ⟨(n0, n1, n2, n3), ?_, k0, k1, k2, k3⟩
  unfold arrV
  congr 1
  apply Array.ext_getElem?
  intro i
  by_cases hi : i < 4
  · have h' : i = 0 ∨ i = 1 ∨ i = 2 ∨ i = 3 := by omega
    rcases h' with rfl | rfl | rfl | rfl
    · rw [e0]; rfl
    · rw [e1]; rfl
    · rw [e2]; rfl
    · rw [e3]; rfl
  · rw [Array.getElem?_eq_none (by omega), Array.getElem?_eq_none (by simp; omega)]
theorem patSame_card {F : MS} {p : List ByteArray} {A : Option Addr} {c : Nat} {w : World} (hr : RdS F RT.str p (.slice A p.length c)) (hs : ∀ s ∈ p, s.size ≤ maxLen) (hk : KinOk F) (hH : Has w F) {m : Mv} (hm : m.v = m.v) {v : Int × Int × Int × Int} (hv : (0 ≤ v.1 ∧ v.1 ≤ 255) ∧ (0 ≤ v.2.1 ∧ v.2.1 ≤ 255) ∧ (0 ≤ v.2.2.1 ∧ v.2.2.1 ≤ 255) ∧ (0 ≤ v.2.2.2 ∧ v.2.2.2 ≤ 255)) :
    Calls Tryd.prog 7 #[.slice A p.length c, m.v, arrV v] w (LawPost w F) := patSame_any hr hs hk hH hm hv
end Go.Proofs.YteibbnmlmbhkpaaDoor

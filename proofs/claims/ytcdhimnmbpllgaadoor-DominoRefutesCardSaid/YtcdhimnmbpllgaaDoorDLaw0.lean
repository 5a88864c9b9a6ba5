/-
  Lists of cells as arguments; the walk of few (11).
-/
import Derived.Test.YtcdhimnmbpllgaaDoorDEntry
import Derived.Test.YtcdhimnmbpllgaaDoorTW1
import Derived.Test.YtcdhimnmbpllgaaDoorDD1
namespace Go.Proofs.YtcdhimnmbpllgaaDoor
open Go.ChangeShapes Go.WideShapes Go.ChangeAt Go.RowKit
set_option linter.unusedVariables false
set_option maxRecDepth 100000
theorem openT_cl : OpenT RT.cl 66 := fun H enc W sp held fuel cs x h => by
  obtain ⟨q, h1, _⟩ := cl_read h
  exact ⟨q, h1⟩
theorem cells_arg {H : Type} {enc : TypeId × Value → H} {W : World} {A : Option Addr} {n c : Nat} {d : DataW H} {p : List MemPlace}
    (h : DataW.Trod enc Tryd.prog W 0 (fun _ => true) true 29 (.slice A n c) d p) : ∃ l, n = l.length ∧ RdS (MS.all W) RT.cl l (.slice A l.length c) := by
  obtain ⟨fuel, hf⟩ := h
  obtain ⟨l, v, hv, hl⟩ := OpenT.sl (T := RT.cl) Tryd.underlying29 (by kernel_rfl) (show 0 < RT.cl.sz by decide) openT_cl H enc W fuel _ _ hf
  have : v = .slice A n c := by simpa [Value.cells] using hv.symm
  subst this
  obtain ⟨rfl, _⟩ := hl.cells
  exact ⟨l, rfl, hl⟩
end Go.Proofs.YtcdhimnmbpllgaaDoor

namespace Go.Proofs.YtcdhimnmbpllgaaDoor
open Go.RowKit
set_option linter.unusedVariables false
set_option linter.unusedSimpArgs false
set_option maxHeartbeats 2000000
set_option maxRecDepth 100000

/-- Are strings few and short? -/
def fewB (p : List ByteArray) : Bool := decide (p.length ≤ 20 ∧ ∀ s ∈ p, s.size ≤ 20)
theorem few_any {F : MS} {p : List ByteArray} {A : Option Addr} {c : Nat} {w : World} (hr : RdS F RT.str p (.slice A p.length c)) (hs : ∀ s ∈ p, s.size ≤ maxLen) (hH : Has w F) :
    Calls Tryd.prog 11 #[.slice A p.length c] w fun e w' => e = .returned (.bool (fewB p)) ∧ w' = w := by
  have Hr := hid hr
  have HH := hid hH
  have Hs := hid hs
  have hnc := hr.cells.2.1
  have hcm := hr.cells.2.2.1
  obtain ⟨q, hq⟩ : ∃ q, q = fewB p := ⟨_, rfl⟩
  rw [← hq]
  have Hq := hid hq
  obtain ⟨N, hN⟩ : ∃ N, N = p.length := ⟨_, rfl⟩
  rw [← hN] at Hr hnc ⊢
  have HN := hid hN
  have hNI : (N : Int) ≤ 9223372036854775807 := by simp only [maxLen] at hcm; omega
  clear hr hH hs hq hN hcm
  go_enter Tryd.func11, Tryd.ntmps11
  go_wp2
  go_loopw [3] (fun v wr => ∃ i : Nat, i ≤ N ∧ i ≤ 20 ∧ v = .int .i64 i ∧ (∀ s ∈ p.take i, s.size ≤ 20) ∧ wr = w) (fun v _ => N - (intOf v).toNat)
  case atStart => exact ⟨0, Nat.zero_le _, by omega, rfl, by simp, rfl⟩
  case round =>
    obtain ⟨i, hi, hi20, rfl, hno, rfl⟩ := hrel
    have Hno := hid hno
    clear hno
    by_cases hlt : i < N
    · have hltI : (i : Int) < N := by omega
      have Hlt := hid hlt
      by_cases h20 : i = 20
      · have hge : (i : Int) ≥ 20 := by omega
        have hge2 : (20 : Int) ≤ i := by omega
        have hf := hid (show q = false by rw [Hq.out]; unfold fewB; rw [decide_eq_false_iff_not]; rintro ⟨h1, _⟩; rw [← HN.out] at h1; omega)
        clear h20 hlt hi hi20
        go_wp2
        go_ret
        exact ⟨by rw [hf.out]; rfl, rfl⟩
      have hge2 : ¬ (20 : Int) ≤ i := by omega
      obtain ⟨s, hsi⟩ : ∃ s, p[i]? = some s := ⟨_, List.getElem?_eq_getElem (by have := HN.out; omega)⟩
      obtain ⟨b, o, hA, e3⟩ := Hr.out.getStr hsi
      subst hA
      have f1 := e3.c0 HH.out
      have hsz := Hs.out s (List.mem_of_getElem? hsi)
      have hszI : (s.size : Int) ≤ 9223372036854775807 := by simp only [maxLen] at hsz; omega
      have hNc : N ≤ c := hnc
      have Hsi := hid hsi
      have H20 := hid (show i < 20 by omega)
      clear e3 hsi hsz hlt hi hi20 h20
      by_cases hb : s.size ≤ 20
      · have hbI : ¬ (20 : Int) < s.size := by omega
        have Hb := hid hb
        clear hb
        go_wp2
        go_roundw
        case rel => exact ⟨i + 1, Hlt.out, H20.out, by go_num, fun t ht => by
          rw [take_more Hsi.out] at ht
          rcases List.mem_append.1 ht with ht | ht
          · exact Hno.out t ht
          · rw [List.mem_singleton.1 ht]; exact Hb.out, by first | rfl | trivial⟩
        case measure => have := Hlt.out; simp [intOf]; omega
      · have hbI : (20 : Int) < s.size := by omega
        have hf := hid (show q = false by rw [Hq.out]; unfold fewB; rw [decide_eq_false_iff_not]; rintro ⟨_, h1⟩; exact hb (h1 s (List.mem_of_getElem? Hsi.out)))
        clear hb
        go_wp2
        go_ret
        exact ⟨by rw [hf.out]; rfl, rfl⟩
    · have hie : i = N := by omega
      subst hie
      have hf := hid (show q = true by
        have h1 := Hno.out
        rw [HN.out, List.take_length] at h1
        rw [Hq.out]; unfold fewB; rw [decide_eq_true_eq]; exact ⟨by rw [← HN.out]; exact hi20, h1⟩)
      clear hlt hi hi20
      go_wp2
      go_ret
      exact ⟨by rw [hf.out]; rfl, rfl⟩
end Go.Proofs.YtcdhimnmbpllgaaDoor

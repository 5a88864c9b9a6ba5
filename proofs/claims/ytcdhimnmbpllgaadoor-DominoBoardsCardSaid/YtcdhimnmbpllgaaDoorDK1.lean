/-
  The walk of inverse.
-/
import Derived.Test.YtcdhimnmbpllgaaDoorDBase
import Derived.Test.YtcdhimnmbpllgaaDoorProg
import Derived.WalkArith
namespace Go.Proofs.YtcdhimnmbpllgaaDoor
open Go.RowKit
set_option linter.unusedVariables false
set_option linter.unusedSimpArgs false
set_option maxHeartbeats 1000000
set_option maxRecDepth 100000

def prm : Nat := 2147483647
/-- The powers, one by one. -/
def invF : Nat → Nat → Nat → Nat → Nat
  | 0, _, out, _ => out
  | f + 1, k, out, by' => if k = 0 then out else invF f (k / 2) (if k % 2 = 1 then out * by' % prm else out) (by' * by' % prm)
def invN (n : Nat) : Nat := invF 31 (prm - 2) 1 n
theorem invF_zero (f out b : Nat) : invF f 0 out b = out := by cases f <;> simp [invF]
theorem invF_lt : ∀ (f k out b : Nat), out < prm → invF f k out b < prm
  | 0, _, _, _, h => h
  | f + 1, k, out, b, h => by
    unfold invF
    split
    · exact h
    · exact invF_lt f _ _ _ (by split; exact Nat.mod_lt _ (by decide); exact h)
theorem mul_facts {a b : Nat} (ha : a < prm) (hb : b < prm) : IntKind.i64.wrap ((a : Int) * (b : Int)) = ((a * b : Nat) : Int) ∧ ((a * b : Nat) : Int).tmod 2147483647 = ((a * b % prm : Nat) : Int) := by
  have h1 : a * b ≤ 2147483647 * 2147483647 := Nat.mul_le_mul (by unfold prm at ha; omega) (by unfold prm at hb; omega)
  refine ⟨?_, ?_⟩
  · rw [← Int.natCast_mul, IntKind.wrap_i64]
    generalize a * b = x at *
    have h2 : x ≤ 4611686014132420609 := h1
    omega
  · rw [Int.tmod_eq_emod_of_nonneg (Int.natCast_nonneg _)]
    rfl
theorem inv_any {n : Nat} (hn : n < prm) (w : World) :
    Calls Tryd.prog 79 #[.int .i64 n] w fun e w' => e = .returned (.int .i64 (invN n)) ∧ w' = w := by
  obtain ⟨R, hR⟩ : ∃ R, R = invN n := ⟨_, rfl⟩
  rw [← hR]
  have HR := hid hR
  have Hn := hid hn
  clear hR hn
  go_enter Tryd.func79, Tryd.ntmps79
  go_wp2
  go_loopw [3, 4, 5] (fun v3 v4 v5 wr => wr = w ∧ ∃ f k out b : Nat, v3 = .int .i64 out ∧ v4 = .int .i64 b ∧ v5 = .int .i64 k ∧ k < 2 ^ f ∧ k ≤ 2147483647 ∧ out < prm ∧ b < prm ∧ invF f k out b = R) (fun _ _ v _ => (intOf v).toNat)
  case atStart => exact ⟨rfl, 31, 2147483645, 1, n, rfl, rfl, rfl, by decide, by decide, by decide, Hn.out, HR.out.symm⟩
  case round =>
    obtain ⟨rfl, f, k, out, b, rfl, rfl, rfl, hk, hk2, ho, hb, hf⟩ := hrel
    obtain ⟨m1, m2⟩ := mul_facts ho hb
    obtain ⟨m3, m4⟩ := mul_facts hb hb
    have Ho := hid ho
    have Hb := hid hb
    have Hf := hid hf
    have Hk := hid hk
    by_cases hk0 : k = 0
    · subst hk0
      clear hk ho hb hf m1 m2 m3 m4
      go_wp2
      go_ret
      exact ⟨by rw [← Hf.out, invF_zero]; rfl, rfl⟩
    · have hkp : (0 : Int) < k := by omega
      obtain ⟨f', rfl⟩ : ∃ f', f = f' + 1 := ⟨f - 1, by
        rcases f with _ | f
        · simp at hk; omega
        · rfl⟩
      have hstep : invF f' (k / 2) (if k % 2 = 1 then out * b % prm else out) (b * b % prm) = R := by
        rw [← hf]
        show _ = invF (f' + 1) k out b
        rw [invF, if_neg hk0]
      have Hstep := hid hstep
      have hk' : k / 2 < 2 ^ f' := by rw [Nat.pow_succ] at hk; omega
      have Hk' := hid hk'
      have hkI : (k : Int) ≤ 2147483647 := by omega
      have td : (k : Int).tdiv 2 = ((k / 2 : Nat) : Int) := by rw [Int.tdiv_eq_ediv_of_nonneg (Int.natCast_nonneg k)]; rfl
      have hw2 : IntKind.i64.wrap ((k / 2 : Nat) : Int) = ((k / 2 : Nat) : Int) := by rw [IntKind.wrap_i64]; omega
      have hw3 : wrap64 ((k / 2 : Nat) : Int) = ((k / 2 : Nat) : Int) := by unfold wrap64; omega
      obtain ⟨KI, hKI⟩ : ∃ KI : Int, KI = ((k / 2 : Nat) : Int) := ⟨_, rfl⟩
      rw [← hKI] at td hw2 hw3
      obtain ⟨OB, hOB⟩ : ∃ OB : Int, OB = ((out * b : Nat) : Int) := ⟨_, rfl⟩
      obtain ⟨OM, hOM⟩ : ∃ OM : Int, OM = ((out * b % prm : Nat) : Int) := ⟨_, rfl⟩
      obtain ⟨BB, hBB⟩ : ∃ BB : Int, BB = ((b * b : Nat) : Int) := ⟨_, rfl⟩
      obtain ⟨BM, hBM⟩ : ∃ BM : Int, BM = ((b * b % prm : Nat) : Int) := ⟨_, rfl⟩
      rw [← hOB] at m1 m2
      rw [← hOM] at m2
      rw [← hBB] at m3 m4
      rw [← hBM] at m4
      have HKI := hid hKI
      have HOM := hid hOM
      have HBM := hid hBM
      have Hk2 := hid hk2
      have Hk0 := hid hk0
      by_cases hod : k % 2 = 1
      · have tm : (k : Int).tmod 2 = 1 := by rw [Int.tmod_eq_emod_of_nonneg (Int.natCast_nonneg k)]; omega
        have Hod := hid hod
        clear hk ho hb hf hk0 hstep hk' hk2 hKI hOB hOM hBB hBM hod
        go_wp2
        go_roundw
        case rel => exact ⟨trivial, f', k / 2, out * b % prm, b * b % prm, by rw [HOM.out], by rw [HBM.out], by rw [HKI.out], Hk'.out, by have := Hk2.out; omega, Nat.mod_lt _ (by decide), Nat.mod_lt _ (by decide), by rw [← Hstep.out, if_pos Hod.out]⟩
        case measure => rw [HKI.out]; have := Hk0.out; simp [intOf]; omega
      · have tm : (k : Int).tmod 2 = 0 := by rw [Int.tmod_eq_emod_of_nonneg (Int.natCast_nonneg k)]; omega
        have Hod := hid hod
        clear hk ho hb hf hk0 hstep hk' hk2 hKI hOB hOM hBB hBM hod
        go_wp2
        go_roundw
        case rel => exact ⟨trivial, f', k / 2, out, b * b % prm, rfl, by rw [HBM.out], by rw [HKI.out], Hk'.out, by have := Hk2.out; omega, Ho.out, Nat.mod_lt _ (by decide), by rw [← Hstep.out, if_neg Hod.out]⟩
        case measure => rw [HKI.out]; have := Hk0.out; simp [intOf]; omega
end Go.Proofs.YtcdhimnmbpllgaaDoor

/-
  The walk of inverse. A matrix of numbers in memory: rows that are owned; plain: the determinant modulo the prime, step by step. The walks of determinant's closure, slices.IndexFunc over rows.
-/
import Derived.Test.YtcdhimnmbpllgaaDoorDBase
import Derived.Test.YtcdhimnmbpllgaaDoorProg
import Derived.WalkArith
namespace Go.Proofs.YtcdhimnmbpllgaaDoor
open Go.RowKit
set_option linter.unusedVariables false
set_option linter.unusedSimpArgs false
set_option maxHeartbeats 1000000
set_option maxRecDepth 100000

def prm : Nat := 2147483647
/-- The powers, one by one. -/
def invF : Nat → Nat → Nat → Nat → Nat
  | 0, _, out, _ => out
  | f + 1, k, out, by' => if k = 0 then out else invF f (k / 2) (if k % 2 = 1 then out * by' % prm else out) (by' * by' % prm)
def invN (n : Nat) : Nat := invF 31 (prm - 2) 1 n
theorem invF_zero (f out b : Nat) : invF f 0 out b = out := by cases f <;> simp [invF]
theorem invF_lt : ∀ (f k out b : Nat), out < prm → invF f k out b < prm
  | 0, _, _, _, h => h
  | f + 1, k, out, b, h => by
    unfold invF
    split
    · exact h
    · exact invF_lt f _ _ _ (by split; exact Nat.mod_lt _ (by decide); exact h)
theorem mul_facts {a b : Nat} (ha : a < prm) (hb : b < prm) : IntKind.i64.wrap ((a : Int) * (b : Int)) = ((a * b : Nat) : Int) ∧ ((a * b : Nat) : Int).tmod 2147483647 = ((a * b % prm : Nat) : Int) := by
  have h1 : a * b ≤ 2147483647 * 2147483647 := Nat.mul_le_mul (by unfold prm at ha; omega) (by unfold prm at hb; omega)
  refine ⟨?_, ?_⟩
  · rw [← Int.natCast_mul, IntKind.wrap_i64]
    generalize a * b = x at *
    have h2 : x ≤ 4611686014132420609 := h1
    omega
  · rw [Int.tmod_eq_emod_of_nonneg (Int.natCast_nonneg _)]
    rfl
theorem inv_any {n : Nat} (hn : n < prm) (w : World) :
    Calls Tryd.prog 79 #[.int .i64 n] w fun e w' => e = .returned (.int .i64 (invN n)) ∧ w' = w := by
  obtain ⟨R, hR⟩ : ∃ R, R = invN n := ⟨_, rfl⟩
  rw [← hR]
  have HR := hid hR
  have Hn := hid hn
  clear hR hn
  go_enter Tryd.func79, Tryd.ntmps79
  go_wp2
  go_loopw [3, 4, 5] (fun v3 v4 v5 wr => wr = w ∧ ∃ f k out b : Nat, v3 = .int .i64 out ∧ v4 = .int .i64 b ∧ v5 = .int .i64 k ∧ k < 2 ^ f ∧ k ≤ 2147483647 ∧ out < prm ∧ b < prm ∧ invF f k out b = R) (fun _ _ v _ => (intOf v).toNat)
  case atStart => exact ⟨rfl, 31, 2147483645, 1, n, rfl, rfl, rfl, by decide, by decide, by decide, Hn.out, HR.out.symm⟩
  case round =>
    obtain ⟨rfl, f, k, out, b, rfl, rfl, rfl, hk, hk2, ho, hb, hf⟩ := hrel
    obtain ⟨m1, m2⟩ := mul_facts ho hb
    obtain ⟨m3, m4⟩ := mul_facts hb hb
    have Ho := hid ho
    have Hb := hid hb
    have Hf := hid hf
    have Hk := hid hk
    by_cases hk0 : k = 0
    · subst hk0
      clear hk ho hb hf m1 m2 m3 m4
      go_wp2
      go_ret
      exact ⟨by rw [← Hf.out, invF_zero]; rfl, rfl⟩
    · have hkp : (0 : Int) < k := by omega
      obtain ⟨f', rfl⟩ : ∃ f', f = f' + 1 := ⟨f - 1, by
        rcases f with _ | f
        · simp at hk; omega
        · rfl⟩
      have hstep : invF f' (k / 2) (if k % 2 = 1 then out * b % prm else out) (b * b % prm) = R := by
        rw [← hf]
        show _ = invF (f' + 1) k out b
        rw [invF, if_neg hk0]
      have Hstep := hid hstep
      have hk' : k / 2 < 2 ^ f' := by rw [Nat.pow_succ] at hk; omega
      have Hk' := hid hk'
      have hkI : (k : Int) ≤ 2147483647 := by omega
      have td : (k : Int).tdiv 2 = ((k / 2 : Nat) : Int) := by rw [Int.tdiv_eq_ediv_of_nonneg (Int.natCast_nonneg k)]; rfl
      have hw2 : IntKind.i64.wrap ((k / 2 : Nat) : Int) = ((k / 2 : Nat) : Int) := by rw [IntKind.wrap_i64]; omega
      have hw3 : wrap64 ((k / 2 : Nat) : Int) = ((k / 2 : Nat) : Int) := by unfold wrap64; omega
      obtain ⟨KI, hKI⟩ : ∃ KI : Int, KI = ((k / 2 : Nat) : Int) := ⟨_, rfl⟩
      rw [← hKI] at td hw2 hw3
      obtain ⟨OB, hOB⟩ : ∃ OB : Int, OB = ((out * b : Nat) : Int) := ⟨_, rfl⟩
      obtain ⟨OM, hOM⟩ : ∃ OM : Int, OM = ((out * b % prm : Nat) : Int) := ⟨_, rfl⟩
      obtain ⟨BB, hBB⟩ : ∃ BB : Int, BB = ((b * b : Nat) : Int) := ⟨_, rfl⟩
      obtain ⟨BM, hBM⟩ : ∃ BM : Int, BM = ((b * b % prm : Nat) : Int) := ⟨_, rfl⟩
      rw [← hOB] at m1 m2
      rw [← hOM] at m2
      rw [← hBB] at m3 m4
      rw [← hBM] at m4
      have HKI := hid hKI
      have HOM := hid hOM
      have HBM := hid hBM
      have Hk2 := hid hk2
      have Hk0 := hid hk0
      by_cases hod : k % 2 = 1
      · have tm : (k : Int).tmod 2 = 1 := by rw [Int.tmod_eq_emod_of_nonneg (Int.natCast_nonneg k)]; omega
        have Hod := hid hod
        clear hk ho hb hf hk0 hstep hk' hk2 hKI hOB hOM hBB hBM hod
        go_wp2
        go_roundw
        case rel => exact ⟨trivial, f', k / 2, out * b % prm, b * b % prm, by rw [HOM.out], by rw [HBM.out], by rw [HKI.out], Hk'.out, by have := Hk2.out; omega, Nat.mod_lt _ (by decide), Nat.mod_lt _ (by decide), by rw [← Hstep.out, if_pos Hod.out]⟩
        case measure => rw [HKI.out]; have := Hk0.out; simp [intOf]; omega
      · have tm : (k : Int).tmod 2 = 0 := by rw [Int.tmod_eq_emod_of_nonneg (Int.natCast_nonneg k)]; omega
        have Hod := hid hod
        clear hk ho hb hf hk0 hstep hk' hk2 hKI hOB hOM hBB hBM hod
        go_wp2
        go_roundw
        case rel => exact ⟨trivial, f', k / 2, out, b * b % prm, rfl, by rw [HBM.out], by rw [HKI.out], Hk'.out, by have := Hk2.out; omega, Ho.out, Nat.mod_lt _ (by decide), by rw [← Hstep.out, if_neg Hod.out]⟩
        case measure => rw [HKI.out]; have := Hk0.out; simp [intOf]; omega
end Go.Proofs.YtcdhimnmbpllgaaDoor

namespace Go.Proofs.YtcdhimnmbpllgaaDoor
open Go.RowKit
set_option linter.unusedVariables false
set_option linter.unusedSimpArgs false

/-! ### Plain -/
section
variable {α : Type}
def swapL (l : List α) (i j : Nat) : List α := match l[i]?, l[j]? with
  | some a, some b => (l.set i b).set j a
  | _, _ => l
theorem swapL_eq {l : List α} {i j : Nat} (hi : i < l.length) (hj : j < l.length) : swapL l i j = (l.set i l[j]).set j l[i] := by
  unfold swapL
  rw [List.getElem?_eq_getElem hi, List.getElem?_eq_getElem hj]
theorem swapL_len (l : List α) (i j : Nat) : (swapL l i j).length = l.length := by
  unfold swapL
  split <;> simp
theorem swapL_get {l : List α} {i j : Nat} (hi : i < l.length) (hj : j < l.length) (k : Nat) : (swapL l i j)[k]? = if k = j then l[i]? else if k = i then l[j]? else l[k]? := by
  rw [swapL_eq hi hj, List.getElem?_set, List.getElem?_set]
  by_cases h1 : k = j
  · subst h1
    simp [hj, List.getElem?_eq_getElem hi]
  · have h1' : ¬ j = k := fun e => h1 e.symm
    by_cases h2 : k = i
    · subst h2
      simp [h1, h1', hi, List.getElem?_eq_getElem hj]
    · have h2' : ¬ i = k := fun e => h2 e.symm
      simp [h1, h1', h2, h2']
theorem swapL_mem {l : List α} {i j : Nat} {x : α} (hi : i < l.length) (hj : j < l.length) (h : x ∈ swapL l i j) : x ∈ l := by
  obtain ⟨k, hk⟩ := List.getElem?_of_mem h
  rw [swapL_get hi hj] at hk
  split at hk
  · exact List.mem_of_getElem? hk
  · split at hk <;> exact List.mem_of_getElem? hk
end
/-- A row less a multiple of another one, up to a column. -/
def elimC (i f : Nat) (mi r : List Nat) (c : Nat) : List Nat := r.mapIdx fun j x => if i ≤ j ∧ j < c then (x + (prm - f) * mi.getD j 0) % prm else x
theorem elimC_len (i f : Nat) (mi r : List Nat) (c : Nat) : (elimC i f mi r c).length = r.length := by unfold elimC; simp
theorem elimC_start (i f : Nat) (mi r : List Nat) : elimC i f mi r i = r := by
  apply List.ext_getElem?
  intro k
  unfold elimC
  rw [List.getElem?_mapIdx]
  cases r[k]? with
  | none => rfl
  | some x => simp only [Option.map_some]; rw [if_neg (by omega)]
theorem elimC_at {i f c x : Nat} {mi r : List Nat} (hx : r[c]? = some x) : (elimC i f mi r c)[c]? = some x := by
  unfold elimC
  rw [List.getElem?_mapIdx, hx, Option.map_some, if_neg (by omega)]
theorem elimC_step {i f c x : Nat} {mi r : List Nat} (hi : i ≤ c) (hx : r[c]? = some x) : elimC i f mi r (c + 1) = (elimC i f mi r c).set c ((x + (prm - f) * mi.getD c 0) % prm) := by
  apply List.ext_getElem?
  intro k
  have hc := (List.getElem?_eq_some_iff.1 hx).1
  rw [List.getElem?_set, elimC_len, if_pos hc]
  by_cases h : c = k
  · subst h
    rw [if_pos rfl]
    unfold elimC
    rw [List.getElem?_mapIdx, hx, Option.map_some, if_pos ⟨hi, by omega⟩]
  · rw [if_neg h]
    unfold elimC
    rw [List.getElem?_mapIdx, List.getElem?_mapIdx]
    cases r[k]? with
    | none => rfl
    | some y =>
      simp only [Option.map_some]
      congr 1
      by_cases h2 : i ≤ k ∧ k < c
      · rw [if_pos h2, if_pos ⟨h2.1, by omega⟩]
      · rw [if_neg h2, if_neg (by omega)]
def elimRow (n i by' : Nat) (mi r : List Nat) : List Nat := if r.getD i 0 * by' % prm = 0 then r else elimC i (r.getD i 0 * by' % prm) mi r n
def elimK (n i by' : Nat) (M : List (List Nat)) (k : Nat) : List (List Nat) := M.mapIdx fun j r => if i < j ∧ j < i + 1 + k then elimRow n i by' (M.getD i []) r else r
theorem elimK_len (n i by' : Nat) (M : List (List Nat)) (k : Nat) : (elimK n i by' M k).length = M.length := by unfold elimK; simp
theorem elimK_get (n i by' : Nat) (M : List (List Nat)) (k j : Nat) : (elimK n i by' M k)[j]? = (M[j]?).map fun r => if i < j ∧ j < i + 1 + k then elimRow n i by' (M.getD i []) r else r := by
  unfold elimK
  rw [List.getElem?_mapIdx]
theorem elimK_start (n i by' : Nat) (M : List (List Nat)) : elimK n i by' M 0 = M := by
  apply List.ext_getElem?
  intro j
  rw [elimK_get]
  cases M[j]? with
  | none => rfl
  | some x => simp only [Option.map_some]; rw [if_neg (by omega)]
theorem elimK_row (n i by' : Nat) (M : List (List Nat)) (k : Nat) : (elimK n i by' M k)[i]? = M[i]? := by
  rw [elimK_get]
  cases M[i]? with
  | none => rfl
  | some x => simp only [Option.map_some]; rw [if_neg (by omega)]
theorem elimK_next (n i by' : Nat) (M : List (List Nat)) (k : Nat) : (elimK n i by' M k)[i + 1 + k]? = M[i + 1 + k]? := by
  rw [elimK_get]
  cases M[i + 1 + k]? with
  | none => rfl
  | some x => simp only [Option.map_some]; rw [if_neg (by omega)]
theorem elimK_step {n i by' k : Nat} {M : List (List Nat)} {r : List Nat} (hr : M[i + 1 + k]? = some r) : elimK n i by' M (k + 1) = (elimK n i by' M k).set (i + 1 + k) (elimRow n i by' (M.getD i []) r) := by
  apply List.ext_getElem?
  intro j
  have hc := (List.getElem?_eq_some_iff.1 hr).1
  rw [List.getElem?_set, elimK_len, if_pos hc]
  by_cases h : i + 1 + k = j
  · subst h
    rw [if_pos rfl, elimK_get, hr, Option.map_some, if_pos ⟨by omega, by omega⟩]
  · rw [if_neg h, elimK_get, elimK_get]
    cases M[j]? with
    | none => rfl
    | some y =>
      simp only [Option.map_some]
      congr 1
      by_cases h2 : i < j ∧ j < i + 1 + k
      · rw [if_pos h2, if_pos ⟨h2.1, by omega⟩]
      · rw [if_neg h2, if_neg (by omega)]
/-- A square of numbers below the prime. -/
structure MatN (n : Nat) (M : List (List Nat)) : Prop where
  len : M.length = n
  row : ∀ r ∈ M, r.length = n
  lt : ∀ r ∈ M, ∀ x ∈ r, x < prm
theorem MatN.swap {n i j : Nat} {M : List (List Nat)} (h : MatN n M) (hi : i < n) (hj : j < n) : MatN n (swapL M i j) :=
  ⟨by rw [swapL_len]; exact h.len, fun r hr => h.row r (swapL_mem (by rw [h.len]; exact hi) (by rw [h.len]; exact hj) hr), fun r hr => h.lt r (swapL_mem (by rw [h.len]; exact hi) (by rw [h.len]; exact hj) hr)⟩
theorem elimC_lt {i f c : Nat} {mi r : List Nat} (h : ∀ x ∈ r, x < prm) : ∀ x ∈ elimC i f mi r c, x < prm := fun x hx => by
  obtain ⟨k, hk⟩ := List.getElem?_of_mem hx
  unfold elimC at hk
  rw [List.getElem?_mapIdx] at hk
  cases hr : r[k]? with
  | none => rw [hr] at hk; cases hk
  | some y =>
    rw [hr, Option.map_some] at hk
    injection hk with hk
    rw [← hk]
    split
    · exact Nat.mod_lt _ (by decide)
    · exact h y (List.mem_of_getElem? hr)
theorem elimRow_len (n i by' : Nat) (mi r : List Nat) : (elimRow n i by' mi r).length = r.length := by
  unfold elimRow
  split
  · rfl
  · exact elimC_len ..
theorem elimRow_lt {n i by' : Nat} {mi r : List Nat} (h : ∀ x ∈ r, x < prm) : ∀ x ∈ elimRow n i by' mi r, x < prm := by
  unfold elimRow
  split
  · exact h
  · exact elimC_lt h
theorem MatN.elim {n : Nat} {M : List (List Nat)} (h : MatN n M) (i by' k : Nat) : MatN n (elimK n i by' M k) := by
  have key : ∀ r ∈ elimK n i by' M k, ∃ r0 ∈ M, r = r0 ∨ r = elimRow n i by' (M.getD i []) r0 := fun r hr => by
    obtain ⟨j, hj⟩ := List.getElem?_of_mem hr
    rw [elimK_get] at hj
    cases hm : M[j]? with
    | none => rw [hm] at hj; cases hj
    | some y =>
      rw [hm, Option.map_some] at hj
      injection hj with hj
      refine ⟨y, List.mem_of_getElem? hm, ?_⟩
      split at hj
      · exact .inr hj.symm
      · exact .inl hj.symm
  refine ⟨by rw [elimK_len]; exact h.len, fun r hr => ?_, fun r hr => ?_⟩
  · obtain ⟨r0, h0, rfl | rfl⟩ := key r hr
    · exact h.row _ h0
    · rw [elimRow_len]; exact h.row _ h0
  · obtain ⟨r0, h0, rfl | rfl⟩ := key r hr
    · exact h.lt _ h0
    · exact elimRow_lt (h.lt _ h0)
/-- Where is the first row with something in a column? -/
def pivot (i : Nat) (L : List (List Nat)) : Option Nat := L.findIdx? fun r => r.getD i 0 != 0
def detOut (out : Nat) : Int := if out > 1073741823 then (out : Int) - 2147483647 else out
def swM (M : List (List Nat)) (i p : Nat) : List (List Nat) := if p = 0 then M else swapL M i (i + p)
def swO (out p : Nat) : Nat := if p = 0 then out else prm - out
def entM (M : List (List Nat)) (i j : Nat) : Nat := (M.getD i []).getD j 0
def detF (n : Nat) : Nat → Nat → List (List Nat) → Nat → Int
  | 0, _, _, out => detOut out
  | f + 1, i, M, out => match pivot i (M.drop i) with
    | none => 0
    | some p => detF n f (i + 1) (elimK n i (invN (entM (swM M i p) i i)) (swM M i p) (n - (i + 1))) (swO out p * entM (swM M i p) i i % prm)
def detM (M : List (List Nat)) : Int := detF M.length M.length 0 M 1

/-! ### In memory -/
def sumMS (l : List MS) : MS := l.foldr (· + ·) 0
theorem sumMS_perm {l l' : List MS} (h : l.Perm l') : sumMS l = sumMS l' := h.foldr_eq' (fun x _ y _ z => by ac_rfl) 0
theorem sumMS_swap {l : List MS} {i j : Nat} (hi : i < l.length) (hj : j < l.length) : sumMS (swapL l i j) = sumMS l := by
  rw [swapL_eq hi hj]
  exact sumMS_perm (List.set_set_perm hi hj)
theorem sumMS_take : ∀ {l : List MS} {i : Nat}, i < l.length → ∃ R, ∀ m, sumMS (l.set i m) = m + R
  | a :: l, 0, _ => ⟨sumMS l, fun m => rfl⟩
  | a :: l, i + 1, h => by
    obtain ⟨R, hR⟩ := sumMS_take (l := l) (i := i) (by simpa using h)
    refine ⟨a + R, fun m => ?_⟩
    show a + sumMS (l.set i m) = _
    rw [hR]
    ac_rfl
theorem sumMS_get {l : List MS} {i : Nat} {m : MS} (h : l[i]? = some m) : ∃ R, sumMS l = m + R := by
  obtain ⟨hi, he⟩ := List.getElem?_eq_some_iff.1 h
  obtain ⟨R, hR⟩ := sumMS_take hi
  refine ⟨R, ?_⟩
  have := hR m
  rw [← he, List.set_getElem_self] at this
  rw [this, he]
theorem sumMS_at {l : List MS} {i : Nat} {m : MS} (h : l[i]? = some m) {b o : Nat} {u : Value} (hu : m.at b o u) : (sumMS l).at b o u := by
  obtain ⟨R, hR⟩ := sumMS_get h
  rw [hR]
  exact hu.less R
/-- A row of numbers. -/
def NatS (r : List Nat) (v : Value) (m : MS) : Prop := Sl 3 1 v r.length (r.map fun (n : Nat) => Value.int .i64 (n : Int)) m
structure MatIs (n off : Nat) (M : List (List Nat)) (cur : Array Value) (ms : List MS) : Prop where
  lm : M.length = n
  ls : ms.length = n
  row : ∀ (j : Nat) r, M[j]? = some r → ∃ v m, cur[off + j]? = some v ∧ ms[j]? = some m ∧ NatS r v m
theorem MatIs.lt {n off : Nat} {M : List (List Nat)} {cur : Array Value} {ms : List MS} (h : MatIs n off M cur ms) {j : Nat} (hj : j < n) : off + j < cur.size := by
  obtain ⟨v, m, h1, _⟩ := h.row j _ (List.getElem?_eq_getElem (by rw [h.lm]; exact hj))
  exact (Array.getElem?_eq_some_iff.1 h1).1
/-- Two rows exchanged. -/
theorem MatIs.swap {n off : Nat} {M : List (List Nat)} {cur : Array Value} {ms : List MS} (h : MatIs n off M cur ms) {i j : Nat} (hi : i < n) (hj : j < n) (hij : i ≠ j) {vi vj : Value} (hvi : cur[off + i]? = some vi) (hvj : cur[off + j]? = some vj) :
    MatIs n off (swapL M i j) ((cur.setIfInBounds (off + i) vj).setIfInBounds (off + j) vi) (swapL ms i j) := by
  refine ⟨by rw [swapL_len]; exact h.lm, by rw [swapL_len]; exact h.ls, fun k r hk => ?_⟩
  rw [swapL_get (by rw [h.lm]; exact hi) (by rw [h.lm]; exact hj)] at hk
  rw [swapL_get (by rw [h.ls]; exact hi) (by rw [h.ls]; exact hj)]
  have hli := h.lt hi
  have hlj := h.lt hj
  by_cases h1 : k = j
  · subst h1
    rw [if_pos rfl] at hk ⊢
    obtain ⟨v, m, g1, g2, g3⟩ := h.row _ _ hk
    rw [hvi] at g1
    injection g1 with g1
    subst g1
    exact ⟨vi, m, Array.getElem?_setIfInBounds_self_of_lt (by simpa using hlj), g2, g3⟩
  · rw [if_neg h1] at hk ⊢
    rw [Array.getElem?_setIfInBounds_ne (by omega)]
    by_cases h2 : k = i
    · subst h2
      rw [if_pos rfl] at hk ⊢
      obtain ⟨v, m, g1, g2, g3⟩ := h.row _ _ hk
      rw [hvj] at g1
      injection g1 with g1
      subst g1
      exact ⟨vj, m, Array.getElem?_setIfInBounds_self_of_lt hli, g2, g3⟩
    · rw [if_neg h2] at hk ⊢
      rw [Array.getElem?_setIfInBounds_ne (by omega)]
      exact h.row _ _ hk
/-- One row turned. -/
theorem MatIs.turn {n off : Nat} {M : List (List Nat)} {cur : Array Value} {ms : List MS} (h : MatIs n off M cur ms) {k : Nat} (hk : k < n) {v : Value} (hv : cur[off + k]? = some v) {r : List Nat} {m : MS} (hr : NatS r v m) : MatIs n off (M.set k r) cur (ms.set k m) := by
  refine ⟨by rw [List.length_set]; exact h.lm, by rw [List.length_set]; exact h.ls, fun j r' hj => ?_⟩
  rw [List.getElem?_set] at hj ⊢
  by_cases hkj : k = j
  · subst hkj
    rw [if_pos rfl, if_pos (by rw [h.lm]; exact hk)] at hj
    rw [if_pos rfl, if_pos (by rw [h.ls]; exact hk)]
    injection hj with hj
    subst hj
    exact ⟨v, m, hv, rfl, hr⟩
  · rw [if_neg hkj] at hj ⊢
    exact h.row _ _ hj
/-- A cell of a row, and how the row is turned. -/
theorem NatS.at_ {r : List Nat} {v : Value} {m : MS} (h : NatS r v m) {i x : Nat} (hx : r[i]? = some x) :
    ∃ b o c cur, v = .slice (some ⟨b, o, none⟩) r.length c ∧ m = blk b cur 3 ∧ r.length ≤ c ∧ cur[o + i]? = some (.int .i64 (x : Int)) ∧ ∀ y : Nat, NatS (r.set i y) v (blk b (cur.setIfInBounds (o + i) (.int .i64 (y : Int))) 3) := by
  have hi := (List.getElem?_eq_some_iff.1 hx).1
  have hl := h.1
  obtain ⟨b, o, c, cur, h1, h2, h3, h4, h5⟩ := Sl.at_ h (by omega)
  refine ⟨b, o, c, cur, h1, h2, h3, ?_, fun y => ?_⟩
  · rw [h4 i (by omega), List.getElem?_map, hx]; rfl
  · have := Sl.set_ h5 h4 hl (i := i) (by omega) (.int .i64 (y : Int))
    unfold NatS
    rw [List.map_set, List.length_set]
    exact this
theorem blk_cur {b : Nat} {cur cur' : Array Value} {e : TypeId} (h : blk b cur e = blk b cur' e) : cur' = cur := by
  have h0 : (blk b cur' e).g b (.cells cur' e (0, 0)) := ⟨rfl, rfl⟩
  rw [← h] at h0
  have := h0.2
  injection this
theorem NatS.cell {r : List Nat} {b o n c : Nat} {cur : Array Value} (h : NatS r (.slice (some ⟨b, o, none⟩) n c) (blk b cur 3)) {t x : Nat} (hx : r[t]? = some x) : cur[o + t]? = some (.int .i64 (x : Int)) := by
  obtain ⟨b', o', c', cur', e1, e2, _, e3, _⟩ := NatS.at_ h hx
  injection e1 with e1
  injection e1 with e1
  injection e1 with e1 e1'
  subst e1
  subst e1'
  have := blk_cur e2
  subst this
  exact e3
theorem NatS.put {r : List Nat} {b o n c : Nat} {cur : Array Value} (h : NatS r (.slice (some ⟨b, o, none⟩) n c) (blk b cur 3)) {t x : Nat} (hx : r[t]? = some x) (y : Nat) : NatS (r.set t y) (.slice (some ⟨b, o, none⟩) n c) (blk b (cur.setIfInBounds (o + t) (.int .i64 (y : Int))) 3) := by
  obtain ⟨b', o', c', cur', e1, e2, _, e3, e4⟩ := NatS.at_ h hx
  injection e1 with e1
  injection e1 with e1
  injection e1 with e1 e1'
  subst e1
  subst e1'
  have := blk_cur e2
  subst this
  exact e4 y
end Go.Proofs.YtcdhimnmbpllgaaDoor

namespace Go.Proofs.YtcdhimnmbpllgaaDoor
open Go.RowKit
set_option linter.unusedVariables false
set_option linter.unusedSimpArgs false
set_option maxHeartbeats 1000000
set_option maxRecDepth 100000

/-- Rows that can be read from a place on. -/
def RowsAt (F : MS) (b o : Nat) (L : List (List Nat)) : Prop := ∀ (j : Nat) r, L[j]? = some r → r ≠ [] → ∃ bq oq c, F.at b (o + j) (.slice (some ⟨bq, oq, none⟩) r.length c) ∧ r.length ≤ c ∧ ∀ (t x : Nat), r[t]? = some x → F.at bq (oq + t) (.int .i64 (x : Int))
theorem zer_any {F : MS} {bq oq c bi i x n : Nat} {w : World} (hx : F.at bq (oq + i) (.int .i64 (x : Int))) (hi : F.at bi 0 (.int .i64 (i : Int))) (hn : i < n) (hn2 : n ≤ 1000) (hc : n ≤ c) (hH : Has w F) :
    Calls Tryd.prog 78 #[.slice (some ⟨bq, oq, none⟩) n c, .pointer (some ⟨bi, 0, none⟩)] w fun e w' => e = .returned (.bool (x != 0)) ∧ w' = w := by
  have f0 := hx.c0 hH
  have f1 := hi.c0 hH
  have hnI : (i : Int) < n := by omega
  have hn2I : (n : Int) ≤ 1000 := by omega
  clear hx hi hH
  by_cases h0 : x = 0
  · subst h0
    go_enter Tryd.func78, Tryd.ntmps78
    go_wp2
    go_ret
    exact ⟨rfl, rfl⟩
  · have hb : ((x : Int) != 0) = true := by rw [bne_iff_ne]; omega
    have Hb := hid (show (x != 0) = true by rw [bne_iff_ne]; exact h0)
    clear h0
    go_enter Tryd.func78, Tryd.ntmps78
    go_wp2
    go_ret
    exact ⟨by rw [Hb.out]; first | rfl | simp [hb], rfl⟩
def pivI (i : Nat) (L : List (List Nat)) : Int := match pivot i L with
  | some p => p
  | none => -1
theorem pivot_at {i t : Nat} {L : List (List Nat)} {r : List Nat} (hr : L[t]? = some r) (hx : r.getD i 0 ≠ 0) (hno : ∀ (j : Nat) r, j < t → L[j]? = some r → r.getD i 0 = 0) : pivot i L = some t := by
  unfold pivot
  rw [List.findIdx?_eq_some_iff_getElem]
  have hl := (List.getElem?_eq_some_iff.1 hr).1
  refine ⟨hl, ?_, fun j hj => ?_⟩
  · rw [List.getElem?_eq_getElem hl] at hr
    injection hr with hr
    rw [hr, bne_iff_ne]
    exact hx
  · have := hno j _ hj (List.getElem?_eq_getElem (by omega))
    rw [this]; decide
theorem pivot_no {i : Nat} {L : List (List Nat)} (hno : ∀ (j : Nat) r, j < L.length → L[j]? = some r → r.getD i 0 = 0) : pivot i L = none := by
  unfold pivot
  rw [List.findIdx?_eq_none_iff]
  intro r hr
  obtain ⟨j, hj, rfl⟩ := List.getElem_of_mem hr
  have := hno j _ hj (List.getElem?_eq_getElem hj)
  rw [this]; decide
theorem pivx_any {F : MS} {b o bi i c : Nat} {L : List (List Nat)} {w : World} (h : RowsAt F b o L) (hi : F.at bi 0 (.int .i64 (i : Int))) (hrow : ∀ r ∈ L, i < r.length ∧ r.length ≤ 1000) (hl : L.length ≤ 1000) (hc : L.length ≤ c) (hH : Has w F) :
    Calls Tryd.prog 77 #[.slice (some ⟨b, o, none⟩) L.length c, .func (.func 78) #[] #[.pointer (some ⟨bi, 0, none⟩)]] w fun e w' => e = .returned (.int .i64 (pivI i L)) ∧ w' = w := by
  have Hr := hid h
  have Hi := hid hi
  have HH := hid hH
  have Hrow := hid hrow
  obtain ⟨R, hR⟩ : ∃ R, R = pivI i L := ⟨_, rfl⟩
  rw [← hR]
  have HR := hid hR
  obtain ⟨N, hN⟩ : ∃ N, N = L.length := ⟨_, rfl⟩
  rw [← hN] at hl hc ⊢
  have HN := hid hN
  have hNI : (N : Int) ≤ 1000 := by omega
  clear h hi hrow hH hR hN
  go_enter Tryd.func77, Tryd.ntmps77
  go_wp2
  go_loopw [8] (fun v wr => ∃ t : Nat, t ≤ N ∧ v = .int .i64 t ∧ (∀ (j : Nat) r, j < t → L[j]? = some r → r.getD i 0 = 0) ∧ wr = w) (fun v _ => N - (intOf v).toNat)
  case atStart => exact ⟨0, Nat.zero_le _, rfl, fun j r h => by omega, rfl⟩
  case round =>
    obtain ⟨t, ht, rfl, hno, rfl⟩ := hrel
    have Hno := hid hno
    clear hno
    by_cases hlt : t < N
    · have hltI : (t : Int) < N := by omega
      obtain ⟨r, hr⟩ : ∃ r, L[t]? = some r := ⟨_, List.getElem?_eq_getElem (by rw [← HN.out]; exact hlt)⟩
      obtain ⟨hir, hr2⟩ := Hrow.out r (List.mem_of_getElem? hr)
      obtain ⟨bq, oq, cq, e0, hcq, e1⟩ := Hr.out t r hr (fun e => by rw [e] at hir; simp at hir)
      obtain ⟨x, hx⟩ : ∃ x, r[i]? = some x := ⟨_, List.getElem?_eq_getElem hir⟩
      have f0 := e0.c0 HH.out
      have hcall := hid (zer_any (e1 i x hx) Hi.out hir hr2 hcq HH.out)
      have hgd : r.getD i 0 = x := by simp [hx]
      have Hgd := hid hgd
      have Hlt := hid hlt
      have Hri := hid hr
      obtain ⟨nr, hnr⟩ : ∃ nr, nr = r.length := ⟨_, rfl⟩
      rw [← hnr] at f0 hcall
      clear e0 e1 hlt hr hgd hx hir hr2 hcq hnr
      have hNc1 : N ≤ c := hc
      cases hq : (x != 0) with
      | true =>
        rw [hq] at hcall
        have Hq := hid (bne_iff_ne.1 hq)
        clear hq
        go_wp2_with (go_at_call 78; refine hcall.out.mono ?_; rintro e5 w5 ⟨rfl, rfl⟩)
        go_ret
        exact ⟨by rw [HR.out]; unfold pivI; rw [pivot_at Hri.out (by rw [Hgd.out]; exact Hq.out) Hno.out]; rfl, rfl⟩
      | false =>
        rw [hq] at hcall
        have Hq := hid (show x = 0 by simpa using hq)
        clear hq
        go_wp2_with (go_at_call 78; refine hcall.out.mono ?_; rintro e5 w5 ⟨rfl, rfl⟩)
        go_roundw
        case rel => exact ⟨t + 1, Hlt.out, by go_num, fun j r' h hj => by
          by_cases hjt : j = t
          · subst hjt
            rw [Hri.out] at hj
            injection hj with hj
            rw [← hj, Hgd.out, Hq.out]
          · exact Hno.out j r' (by omega) hj, trivial⟩
        case measure => have := Hlt.out; simp [intOf]; omega
    · have hte : t = N := by omega
      subst hte
      clear hlt ht
      go_wp2
      go_ret
      exact ⟨by rw [HR.out]; unfold pivI; rw [pivot_no (fun j r hj => Hno.out j r (by rw [HN.out]; exact hj))]; rfl, rfl⟩
end Go.Proofs.YtcdhimnmbpllgaaDoor

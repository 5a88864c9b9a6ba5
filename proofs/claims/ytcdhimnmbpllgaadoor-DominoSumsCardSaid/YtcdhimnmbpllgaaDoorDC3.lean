/-
  The walk of slices.Index over cells.
-/
import Derived.Test.YtcdhimnmbpllgaaDoorDC1
namespace Go.Proofs.YtcdhimnmbpllgaaDoor
open Go.RowKit
set_option linter.unusedVariables false
set_option linter.unusedSimpArgs false
set_option maxHeartbeats 1000000
set_option maxRecDepth 100000

theorem ifs2 (a b a' b' : Int) (W : World) : (if a = a' then if b = b' then Result.ok (Next.value (Value.bool true)) W else Result.ok (Next.value (Value.bool false)) W
    else Result.ok (Next.value (Value.bool false)) W) = Result.ok (Next.value (Value.bool (decide ((a, b) = (a', b'))))) W := by
  simp only [Prod.mk.injEq]
  repeat' split <;> simp [*]
/-- Where is a cell? -/
def idxC (l : List (Int × Int)) (q : Int × Int) : Int := match l.findIdx? (fun x => decide (x = q)) with
  | some i => i
  | none => -1
theorem idxC_at {l : List (Int × Int)} {q k : Int × Int} {i : Nat} (hk : l[i]? = some k) (he : k = q) (hno : ∀ j k, j < i → l[j]? = some k → k ≠ q) : idxC l q = i := by
  unfold idxC
  have : l.findIdx? (fun x => decide (x = q)) = some i := by
    rw [List.findIdx?_eq_some_iff_getElem]
    have hl := (List.getElem?_eq_some_iff.1 hk).1
    refine ⟨hl, ?_, fun j hj => ?_⟩
    · rw [List.getElem?_eq_getElem hl] at hk
      injection hk with hk
      simp [hk, he]
    · have := hno j _ hj (List.getElem?_eq_getElem (by omega))
      simpa using this
  rw [this]
theorem idxC_no {l : List (Int × Int)} {q : Int × Int} (hno : ∀ (j : Nat) k, j < l.length → l[j]? = some k → k ≠ q) : idxC l q = -1 := by
  unfold idxC
  have : l.findIdx? (fun x => decide (x = q)) = none := by
    rw [List.findIdx?_eq_none_iff]
    intro k hk
    obtain ⟨j, hj, rfl⟩ := List.getElem_of_mem hk
    have := hno j _ hj (List.getElem?_eq_getElem hj)
    simpa using this
  rw [this]
theorem cindex_any {F : MS} {l : List (Int × Int)} {A : Option Addr} {c : Nat} {w : World} (hr : RdS F RT.cl l (.slice A l.length c)) (hl : l.length ≤ 1000) (hH : Has w F) (q : Int × Int) :
    Calls Tryd.prog 40 #[.slice A l.length c, clV q] w fun e w' => e = .returned (.int .i64 (idxC l q)) ∧ Kp w w' := by
  have Hr := hid hr
  have HH := hid hH
  have hNc := hr.cells.2.1
  obtain ⟨a, b⟩ := q
  obtain ⟨r, hrr⟩ : ∃ r, r = idxC l (a, b) := ⟨_, rfl⟩
  rw [← hrr]
  have Hrr := hid hrr
  obtain ⟨N, hN⟩ : ∃ N, N = l.length := ⟨_, rfl⟩
  rw [← hN] at Hr hl hNc ⊢
  have HN := hid hN
  clear hr hH hrr hN
  have HG := hid (show Has (w.alloc (.cells #[.int .i64 a, .int .i64 b] 66)) (blk w.heap.size #[.int .i64 a, .int .i64 b] 66 + MS.all w) from (Has.all w).alloc _)
  have HEA := hid (Ext.alloc w (.cells #[.int .i64 a, .int .i64 b] 66))
  have hNI : (N : Int) ≤ 1000 := by omega
  show Calls Tryd.prog 40 #[.slice A N c, .agg #[.int .i64 a, .int .i64 b]] w _
  go_enter Tryd.func40, Tryd.ntmps40
  go_wp2
  go_loopw [8] (fun v wr => ∃ i : Nat, i ≤ N ∧ v = .int .i64 i ∧ (∀ j k, j < i → l[j]? = some k → k ≠ (a, b)) ∧ Has wr (blk w.heap.size #[.int .i64 a, .int .i64 b] 66 + MS.all w) ∧ Ext w wr) (fun v _ => N - (intOf v).toNat)
  case atStart => exact ⟨0, Nat.zero_le _, rfl, fun j k h => by omega, HG.out, HEA.out⟩
  case round =>
    obtain ⟨i, hi, rfl, hno, hW, hE⟩ := hrel
    have Hno := hid hno
    have HW := hid hW
    have HE := hid hE
    clear hno hW hE
    by_cases hlt : i < N
    · have hltI : (i : Int) < N := by omega
      obtain ⟨k, hk⟩ : ∃ k, l[i]? = some k := ⟨_, List.getElem?_eq_getElem (by rw [← HN.out]; exact hlt)⟩
      have HF := HH.out.of_all (X := blk w.heap.size #[.int .i64 a, .int .i64 b] 66) HW.out
      obtain ⟨ka, kb⟩ := k
      obtain ⟨bq, oq, hA, e0, e1⟩ := Hr.out.getCl hk
      subst hA
      have g0 := e0.c0 HF
      have g1 := e1.c0 HF
      simp only at g0 g1
      have m0 : wr.cell? ⟨w.heap.size, 0, none⟩ = some (.int .i64 a) := HW.out.at_ rfl
      have m1 : wr.cell? ⟨w.heap.size, 1, none⟩ = some (.int .i64 b) := HW.out.at_ rfl
      have Hlt := hid hlt
      have Hki := hid hk
      have hNc1 : N ≤ c := hNc
      cases hq : decide (((a, b) : Int × Int) = (ka, kb)) with
      | true =>
        have hif := fun W => ifs2 a b ka kb W
        rw [hq] at hif
        have Hq := hid (of_decide_eq_true hq)
        clear HF hlt hk hq e0 e1
        go_wp2
        go_quiet (fail)
        go_wp2
        go_ret
        exact ⟨by rw [Hrr.out, idxC_at Hki.out Hq.out.symm Hno.out]; rfl, (Kp.drewN ⟨fun M hM => hM.of_all HW.out, HE.out⟩ _)⟩
      | false =>
        have hif := fun W => ifs2 a b ka kb W
        rw [hq] at hif
        have Hq := hid (of_decide_eq_false hq)
        clear HF hlt hk hq e0 e1
        go_wp2
        go_quiet (fail)
        go_wp2
        go_roundw
        case rel => exact ⟨i + 1, Hlt.out, by go_num, fun j k h hk => by
          by_cases hji : j = i
          · subst hji
            rw [Hki.out] at hk
            injection hk with hk
            exact fun h => Hq.out (by rw [← h, ← hk])
          · exact Hno.out j k (by omega) hk, HW.out.drewN _, HE.out.trans (Ext.drewN _ _)⟩
        case measure => have := Hlt.out; simp [intOf]; omega
    · have hie : i = N := by omega
      subst hie
      clear hlt
      go_wp2
      go_ret
      exact ⟨by rw [Hrr.out, idxC_no (fun j k hj => Hno.out j k (by rw [HN.out]; exact hj))]; rfl, fun M hM => hM.of_all HW.out, HE.out⟩
end Go.Proofs.YtcdhimnmbpllgaaDoor

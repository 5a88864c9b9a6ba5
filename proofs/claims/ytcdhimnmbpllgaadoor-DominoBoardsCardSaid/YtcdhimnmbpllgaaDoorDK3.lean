/-
  The walks of determinant's closure, slices.IndexFunc over rows.
-/
import Derived.Test.YtcdhimnmbpllgaaDoorDK2
namespace Go.Proofs.YtcdhimnmbpllgaaDoor
open Go.RowKit
set_option linter.unusedVariables false
set_option linter.unusedSimpArgs false
set_option maxHeartbeats 1000000
set_option maxRecDepth 100000

/-- Rows that can be read from a place on. -/
def RowsAt (F : MS) (b o : Nat) (L : List (List Nat)) : Prop := ∀ (j : Nat) r, L[j]? = some r → r ≠ [] → ∃ bq oq c, F.at b (o + j) (.slice (some ⟨bq, oq, none⟩) r.length c) ∧ r.length ≤ c ∧ ∀ (t x : Nat), r[t]? = some x → F.at bq (oq + t) (.int .i64 (x : Int))
theorem zer_any {F : MS} {bq oq c bi i x n : Nat} {w : World} (hx : F.at bq (oq + i) (.int .i64 (x : Int))) (hi : F.at bi 0 (.int .i64 (i : Int))) (hn : i < n) (hn2 : n ≤ 1000) (hc : n ≤ c) (hH : Has w F) :
    Calls Tryd.prog 78 #[.slice (some ⟨bq, oq, none⟩) n c, .pointer (some ⟨bi, 0, none⟩)] w fun e w' => e = .returned (.bool (x != 0)) ∧ w' = w := by
  have f0 := hx.c0 hH
  have f1 := hi.c0 hH
  have hnI : (i : Int) < n := by omega
  have hn2I : (n : Int) ≤ 1000 := by omega
  clear hx hi hH
  by_cases h0 : x = 0
  · subst h0
    go_enter Tryd.func78, Tryd.ntmps78
    go_wp2
    go_ret
    exact ⟨rfl, rfl⟩
  · have hb : ((x : Int) != 0) = true := by rw [bne_iff_ne]; omega
    have Hb := hid (show (x != 0) = true by rw [bne_iff_ne]; exact h0)
    clear h0
    go_enter Tryd.func78, Tryd.ntmps78
    go_wp2
    go_ret
    exact ⟨by rw [Hb.out]; first | rfl | simp [hb], rfl⟩
def pivI (i : Nat) (L : List (List Nat)) : Int := match pivot i L with
  | some p => p
  | none => -1
theorem pivot_at {i t : Nat} {L : List (List Nat)} {r : List Nat} (hr : L[t]? = some r) (hx : r.getD i 0 ≠ 0) (hno : ∀ (j : Nat) r, j < t → L[j]? = some r → r.getD i 0 = 0) : pivot i L = some t := by
  unfold pivot
  rw [List.findIdx?_eq_some_iff_getElem]
  have hl := (List.getElem?_eq_some_iff.1 hr).1
  refine ⟨hl, ?_, fun j hj => ?_⟩
  · rw [List.getElem?_eq_getElem hl] at hr
    injection hr with hr
    rw [hr, bne_iff_ne]
    exact hx
  · have := hno j _ hj (List.getElem?_eq_getElem (by omega))
    rw [this]; decide
theorem pivot_no {i : Nat} {L : List (List Nat)} (hno : ∀ (j : Nat) r, j < L.length → L[j]? = some r → r.getD i 0 = 0) : pivot i L = none := by
  unfold pivot
  rw [List.findIdx?_eq_none_iff]
  intro r hr
  obtain ⟨j, hj, rfl⟩ := List.getElem_of_mem hr
  have := hno j _ hj (List.getElem?_eq_getElem hj)
  rw [this]; decide
theorem pivx_any {F : MS} {b o bi i c : Nat} {L : List (List Nat)} {w : World} (h : RowsAt F b o L) (hi : F.at bi 0 (.int .i64 (i : Int))) (hrow : ∀ r ∈ L, i < r.length ∧ r.length ≤ 1000) (hl : L.length ≤ 1000) (hc : L.length ≤ c) (hH : Has w F) :
    Calls Tryd.prog 77 #[.slice (some ⟨b, o, none⟩) L.length c, .func (.func 78) #[] #[.pointer (some ⟨bi, 0, none⟩)]] w fun e w' => e = .returned (.int .i64 (pivI i L)) ∧ w' = w := by
  have Hr := hid h
  have Hi := hid hi
  have HH := hid hH
  have Hrow := hid hrow
  obtain ⟨R, hR⟩ : ∃ R, R = pivI i L := ⟨_, rfl⟩
  rw [← hR]
  have HR := hid hR
  obtain ⟨N, hN⟩ : ∃ N, N = L.length := ⟨_, rfl⟩
  rw [← hN] at hl hc ⊢
  have HN := hid hN
  have hNI : (N : Int) ≤ 1000 := by omega
  clear h hi hrow hH hR hN
  go_enter Tryd.func77, Tryd.ntmps77
  go_wp2
  go_loopw [8] (fun v wr => ∃ t : Nat, t ≤ N ∧ v = .int .i64 t ∧ (∀ (j : Nat) r, j < t → L[j]? = some r → r.getD i 0 = 0) ∧ wr = w) (fun v _ => N - (intOf v).toNat)
  case atStart => exact ⟨0, Nat.zero_le _, rfl, fun j r h => by omega, rfl⟩
  case round =>
    obtain ⟨t, ht, rfl, hno, rfl⟩ := hrel
    have Hno := hid hno
    clear hno
    by_cases hlt : t < N
    · have hltI : (t : Int) < N := by omega
      obtain ⟨r, hr⟩ : ∃ r, L[t]? = some r := ⟨_, List.getElem?_eq_getElem (by rw [← HN.out]; exact hlt)⟩
      obtain ⟨hir, hr2⟩ := Hrow.out r (List.mem_of_getElem? hr)
      obtain ⟨bq, oq, cq, e0, hcq, e1⟩ := Hr.out t r hr (fun e => by rw [e] at hir; simp at hir)
      obtain ⟨x, hx⟩ : ∃ x, r[i]? = some x := ⟨_, List.getElem?_eq_getElem hir⟩
      have f0 := e0.c0 HH.out
      have hcall := hid (zer_any (e1 i x hx) Hi.out hir hr2 hcq HH.out)
      have hgd : r.getD i 0 = x := by simp [hx]
      have Hgd := hid hgd
      have Hlt := hid hlt
      have Hri := hid hr
      obtain ⟨nr, hnr⟩ : ∃ nr, nr = r.length := ⟨_, rfl⟩
      rw [← hnr] at f0 hcall
      clear e0 e1 hlt hr hgd hx hir hr2 hcq hnr
      have hNc1 : N ≤ c := hc
      cases hq : (x != 0) with
      | true =>
        rw [hq] at hcall
        have Hq := hid (bne_iff_ne.1 hq)
        clear hq
        go_wp2_with (go_at_call 78; refine hcall.out.mono ?_; rintro e5 w5 ⟨rfl, rfl⟩)
        go_ret
        exact ⟨by rw [HR.out]; unfold pivI; rw [pivot_at Hri.out (by rw [Hgd.out]; exact Hq.out) Hno.out]; rfl, rfl⟩
      | false =>
        rw [hq] at hcall
        have Hq := hid (show x = 0 by simpa using hq)
        clear hq
        go_wp2_with (go_at_call 78; refine hcall.out.mono ?_; rintro e5 w5 ⟨rfl, rfl⟩)
        go_roundw
        case rel => exact ⟨t + 1, Hlt.out, by go_num, fun j r' h hj => by
          by_cases hjt : j = t
          · subst hjt
            rw [Hri.out] at hj
            injection hj with hj
            rw [← hj, Hgd.out, Hq.out]
          · exact Hno.out j r' (by omega) hj, trivial⟩
        case measure => have := Hlt.out; simp [intOf]; omega
    · have hte : t = N := by omega
      subst hte
      clear hlt ht
      go_wp2
      go_ret
      exact ⟨by rw [HR.out]; unfold pivI; rw [pivot_no (fun j r hj => Hno.out j r (by rw [HN.out]; exact hj))]; rfl, rfl⟩
end Go.Proofs.YtcdhimnmbpllgaaDoor

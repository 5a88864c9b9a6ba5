/-
  The walk of numbers; sum.
-/
import Derived.Test.YtnkgfgkgepadhaaAct
import Derived.Deep.QuietTactic
import Derived.BigQuiet
namespace Go.Proofs.Ytnkgfgkgepadhaa
open Go.RowKit
set_option linter.unusedVariables false
set_option linter.unusedSimpArgs false

def numEq : List Int → List Int → Bool
  | [], [] => true
  | a :: l, b :: r => a == b && numEq l r
  | _, _ => false
theorem numEq_iff : ∀ {l r : List Int}, numEq l r = true ↔ l = r
  | [], [] => by simp [numEq]
  | [], _ :: _ => by simp [numEq]
  | _ :: _, [] => by simp [numEq]
  | a :: l, b :: r => by simp [numEq, numEq_iff (l := l) (r := r)]
theorem numEq_self (l : List Int) : numEq l l = true := numEq_iff.2 rfl
theorem numEq_len {l r : List Int} (h : l.length ≠ r.length) : numEq l r = false := by
  cases he : numEq l r with
  | false => rfl
  | true => exact absurd (congrArg List.length (numEq_iff.1 he)) h
theorem numEq_drop {l r : List Int} {t : Nat} {a b : Int} (h1 : l[t]? = some a) (h2 : r[t]? = some b) : numEq (l.drop t) (r.drop t) = (a == b && numEq (l.drop (t + 1)) (r.drop (t + 1))) := by
  obtain ⟨i1, rfl⟩ := List.getElem?_eq_some_iff.1 h1
  obtain ⟨i2, rfl⟩ := List.getElem?_eq_some_iff.1 h2
  rw [List.drop_eq_getElem_cons i1, List.drop_eq_getElem_cons i2]; rfl

set_option maxHeartbeats 1000000 in
theorem numbers_any {F : MS} {l r : List Int} {A A2 : Option Addr} {n n2 c c2 : Nat} {w : World} (h1 : RdS F RT.int l (.slice A n c)) (h2 : RdS F RT.int r (.slice A2 n2 c2)) (hH : Has w F) (hl : l.length ≤ 1000000) (hr : r.length ≤ 1000000) :
    Calls Try.prog 30 #[.slice A n c, .slice A2 n2 c2] w fun e w' => e = .returned (.bool (numEq l r)) ∧ (∀ M, Has w M → Has w' M) ∧ Ext w w' := by
  obtain ⟨rfl, _⟩ := h1.cells
  obtain ⟨rfl, _⟩ := h2.cells
  obtain ⟨q, hq⟩ : ∃ q, q = numEq l r := ⟨_, rfl⟩
  rw [← hq]
  by_cases hlen : l.length = r.length
  · have Hq := hid hq
    have H1 := hid h1
    have H2 := hid h2
    have HH := hid hH
    have hne : ((l.length : Int) != (r.length : Int)) = false := by simp; omega
    have Hlen := hid hlen
    have q3 : (l.length : Int) ≤ 1000000 := by omega
    clear hq h1 h2 hH hlen
    go_enter Try.func30, Try.ntmps30
    go_wp2
    go_loopw [5] (fun v wr => ∃ t : Nat, t ≤ l.length ∧ v = .int .i64 t ∧ numEq l r = numEq (l.drop t) (r.drop t) ∧ (∀ M, Has w M → Has wr M) ∧ Ext w wr) (fun v _ => l.length - (intOf v).toNat)
    case atStart => exact ⟨0, Nat.zero_le _, rfl, rfl, fun _ h => h, Ext.refl w⟩
    case round =>
      obtain ⟨t, ht, rfl, hN, hM, hE⟩ := hrel
      by_cases hlt : t < l.length
      · obtain ⟨x, hx⟩ : ∃ x, l[t]? = some x := ⟨_, List.getElem?_eq_getElem hlt⟩
        obtain ⟨y, hy⟩ : ∃ y, r[t]? = some y := ⟨_, List.getElem?_eq_getElem (by have := Hlen.out; omega)⟩
        have hHF : Has wr (0 + F) := by rw [MS.zero_add]; exact hM F HH.out
        obtain ⟨b1, o1, rfl, e1⟩ := H1.out.getInt hx
        obtain ⟨b2, o2, rfl, e2⟩ := H2.out.getInt hy
        have f1 := e1.cell hHF
        have f2 := e2.cell hHF
        rw [numEq_drop hx hy] at hN
        have HN := hid hN
        have HM := hid hM
        have HE := hid hE
        have Hlt := hid hlt
        have g1 : (t : Int) < l.length := by omega
        have g2 : (t : Int) < r.length := by have := Hlen.out; omega
        have g0 : (0 : Int) ≤ (t : Int) := by omega
        clear hN hM hE hx hy e1 e2 hHF
        cases hxy : (x == y) with
        | true =>
          have hxy' : (x != y) = false := by simp at hxy; simp [hxy]
          have Hxy := hid hxy
          clear hxy
          go_wp2
          go_quiet (fail)
          go_wp2
          go_roundw
          case rel => exact ⟨t + 1, Hlt.out, by go_num, by rw [HN.out, Hxy.out, Bool.true_and], HM.out, HE.out.trans (Ext.drewN _ _)⟩
          case measure => have := Hlt.out; simp [intOf]; omega
        | false =>
          have hxy' : (x != y) = true := by simp at hxy; simp [hxy]
          have Hxy := hid hxy
          clear hxy
          go_wp2
          go_quiet (fail)
          go_wp2
          go_ret
          exact ⟨ret_bool (by rw [Hq.out, HN.out, Hxy.out]; rfl), HM.out, HE.out.trans (Ext.drewN _ _)⟩
      · obtain rfl : t = l.length := by omega
        have HN := hid (show q = true by rw [Hq.out, hN, List.drop_length, List.drop_of_length_le (by have := Hlen.out; omega)]; rfl)
        have HM := hid hM
        have HE := hid hE
        clear hN hM hE
        go_wp2
        go_ret
        exact ⟨ret_bool HN.out.symm, HM.out, HE.out⟩
  · have hq' : q = false := by rw [hq, numEq_len hlen]
    subst hq'
    have hne : ((l.length : Int) != (r.length : Int)) = true := by simp; omega
    clear hq h1 h2 hH hlen
    go_enter Try.func30, Try.ntmps30
    go_wp2
    go_ret
    exact ⟨rfl, fun _ h => h, Ext.refl w⟩
end Go.Proofs.Ytnkgfgkgepadhaa

/-
  The walks of Of's closure, slices.IndexFunc, ContainsFunc.
-/
import Derived.Test.YtcdhimnmbpllgaaDoorDTrim
namespace Go.Proofs.YtcdhimnmbpllgaaDoor
open Go.RowKit
set_option linter.unusedVariables false
set_option linter.unusedSimpArgs false
set_option maxHeartbeats 1000000
set_option maxRecDepth 100000

/-- A row that no region has. -/
def abB (s : ByteArray) : Bool := s.data.toList.all ab
theorem abB_iff (s : ByteArray) : abB s = true ↔ allAb s := by unfold abB allAb; rw [List.all_eq_true]
def badRow (n : Nat) (s : ByteArray) : Bool := s.size != n || !abB s
theorem isE_bool (r : ByteArray) : r.toList.isEmpty = decide (r.size = 0) := by
  rw [ByteArray.toList_eq, show r.size = r.data.toList.length from (Array.length_toList (xs := r.data)).symm]
  cases r.data.toList with
  | nil => rfl
  | cons a l => simp
theorem of1_any {F : MS} {p : List ByteArray} {A : Option Addr} {c bx : Nat} {w : World} (hx : F.at bx 0 (.slice A p.length c)) (hr : RdS F RT.str p (.slice A p.length c)) (h1 : 1 ≤ p.length) (h6 : wd p ≤ 8) (hH : Has w F) (s : ByteArray) (hs : s.size ≤ 1000000) :
    Calls Tryd.prog 71 #[.string s, .pointer (some ⟨bx, 0, none⟩)] w fun e w' => e = .returned (.bool (badRow (wd p) s)) ∧ Kp w w' := by
  have f0 := hx.c0 hH
  obtain ⟨b, o, hA, hc⟩ := hr.getStr (i := 0) (a := p.getD 0 empty) (get_getD empty (by omega))
  subst hA
  have f1 := hc.c0 hH
  rw [Nat.add_zero] at f1
  have hn : p.length ≤ c := hr.cells.2.1
  have hl1 : (0 : Int) < p.length := by omega
  obtain ⟨r0, hr0⟩ : ∃ r0, r0 = p.getD 0 empty := ⟨_, rfl⟩
  have hwd : wd p = r0.size := by unfold wd; rw [hr0]
  rw [← hr0] at f1
  rw [hwd] at h6 ⊢
  have Ht := hid (fun (h : s.size ≤ 1000) => trim_any s h w)
  have Hs := hid hs
  have H6 := hid h6
  have hs0 : (s.size : Int) ≤ 1000000 := by omega
  have hr06 : (r0.size : Int) ≤ 8 := by omega
  clear hr hx hc hs hr0 hwd h6
  by_cases he : s.size = r0.size
  · have heI : ((s.size : Int) != (r0.size : Int)) = false := by simp [he]
    have hbad := hid (show badRow r0.size s = !abB s by unfold badRow; rw [he]; simp)
    have Hlt := hid (show s.size ≤ 1000 by have := H6.out; omega)
    clear he
    cases hab : abB s with
    | true =>
      have Hab := hid ((abB_iff s).1 hab)
      rw [hab] at hbad
      clear hab
      go_enter Tryd.func71, Tryd.ntmps71
      go_wp2_with (go_at_call 72; refine (Ht.out Hlt.out).mono ?_; rintro e1 w1 ⟨r1, rfl, hr1, k1⟩; have K1 := hid k1; have he1 : r1.toList.isEmpty = true := (by rw [isE_bool, decide_eq_true_eq]; exact hr1.2 Hab.out); clear hr1 k1)
      go_ret
      exact ⟨by rw [hbad.out]; rfl, K1.out⟩
    | false =>
      have Hab := hid (show ¬ allAb s from fun h => by rw [(abB_iff s).2 h] at hab; cases hab)
      rw [hab] at hbad
      clear hab
      go_enter Tryd.func71, Tryd.ntmps71
      go_wp2_with (go_at_call 72; refine (Ht.out Hlt.out).mono ?_; rintro e1 w1 ⟨r1, rfl, hr1, k1⟩; have K1 := hid k1; have he1 : r1.toList.isEmpty = false := (by rw [isE_bool, decide_eq_false_iff_not]; exact fun h => Hab.out (hr1.1 h)); clear hr1 k1)
      go_ret
      exact ⟨by rw [hbad.out]; rfl, K1.out⟩
  · have heI : ((s.size : Int) != (r0.size : Int)) = true := by simp; omega
    have hbad := hid (show badRow r0.size s = true by unfold badRow; simp [he])
    clear he
    go_enter Tryd.func71, Tryd.ntmps71
    go_wp2
    go_ret
    exact ⟨by rw [hbad.out]; rfl, Kp.refl _⟩
/-- Does any row do so? -/
theorem index_any {F : MS} {p : List ByteArray} {A : Option Addr} {c bx : Nat} {w : World} (hx : F.at bx 0 (.slice A p.length c)) (hr : RdS F RT.str p (.slice A p.length c)) (h1 : 1 ≤ p.length) (hl : p.length ≤ 1000) (h6 : wd p ≤ 8) (hH : Has w F) (hs : ∀ s ∈ p, s.size ≤ 1000000) :
    Calls Tryd.prog 103 #[.slice A p.length c, .func (.func 71) #[] #[.pointer (some ⟨bx, 0, none⟩)]] w fun e w' => ∃ i : Int, e = .returned (.int .i64 i) ∧ (decide (0 ≤ i) = p.any (badRow (wd p))) ∧ Kp w w' := by
  have Hcall := hid (fun (W : World) (hW : Has W F) (s : ByteArray) (hs : s.size ≤ 1000000) => of1_any hx hr h1 h6 hW s hs)
  have Hr := hid hr
  have HH := hid hH
  have Hs := hid hs
  have Hl := hid hl
  obtain ⟨N, hN⟩ : ∃ N, N = p.length := ⟨_, rfl⟩
  rw [← hN] at Hr Hl ⊢
  have HN := hid hN
  have hNI : (N : Int) ≤ 1000 := by have := Hl.out; omega
  have hNc := hid hr.cells.2.1
  clear hx hr h1 hl h6 hs hH hN
  go_enter Tryd.func103, Tryd.ntmps103
  go_wp2
  go_loopw [8] (fun v wr => ∃ i : Nat, i ≤ N ∧ v = .int .i64 i ∧ (p.take i).any (badRow (wd p)) = false ∧ Kp w wr) (fun v _ => N - (intOf v).toNat)
  case atStart => exact ⟨0, Nat.zero_le _, rfl, rfl, Kp.refl _⟩
  case round =>
    obtain ⟨i, hi, rfl, hno, hk⟩ := hrel
    have Hno := hid hno
    have HK := hid hk
    clear hno hk
    by_cases hlt : i < N
    · have hltI : (i : Int) < N := by omega
      obtain ⟨s, hs⟩ : ∃ s, p[i]? = some s := ⟨_, List.getElem?_eq_getElem (by have := HN.out; omega)⟩
      obtain ⟨b, o, hA, e3⟩ := Hr.out.getStr hs
      subst hA
      have f3 := e3.c0 (HK.out.1 _ HH.out)
      have hc := Hcall.out wr (HK.out.1 _ HH.out) s (Hs.out s (List.mem_of_getElem? hs))
      have Hlt := hid hlt
      have hNc1 : N ≤ c := by have := HN.out; have := hNc.out; omega
      have Hsi := hid hs
      clear e3 hlt hs
      cases hq : badRow (wd p) s with
      | true =>
        rw [hq] at hc
        have Hq := hid hq
        clear hq
        go_wp2_with (go_at_call 71; refine hc.mono ?_; rintro e5 w5 ⟨rfl, k1⟩; have K1 := hid (HK.out.trans k1); clear k1)
        go_ret
        exact ⟨(i : Int), rfl, by rw [List.any_eq_true.2 ⟨s, List.mem_of_getElem? Hsi.out, Hq.out⟩]; simp, K1.out⟩
      | false =>
        rw [hq] at hc
        have Hq := hid hq
        clear hq
        go_wp2_with (go_at_call 71; refine hc.mono ?_; rintro e5 w5 ⟨rfl, k1⟩; have K1 := hid (HK.out.trans k1); clear k1)
        go_roundw
        case rel => exact ⟨i + 1, Hlt.out, by go_num, by rw [take_more Hsi.out, List.any_append, Hno.out]; simp [Hq.out], K1.out⟩
        case measure => have := Hlt.out; simp [intOf]; omega
    · have hie : i = N := by omega
      subst hie
      clear hlt
      go_wp2
      go_ret
      refine ⟨-1, rfl, ?_, HK.out⟩
      have := Hno.out
      rw [HN.out, List.take_length] at this
      rw [this]; decide
theorem contains_fn {F : MS} {p : List ByteArray} {A : Option Addr} {c bx : Nat} {w : World} (hx : F.at bx 0 (.slice A p.length c)) (hr : RdS F RT.str p (.slice A p.length c)) (h1 : 1 ≤ p.length) (hl : p.length ≤ 1000) (h6 : wd p ≤ 8) (hH : Has w F) (hs : ∀ s ∈ p, s.size ≤ 1000000) :
    Calls Tryd.prog 73 #[.slice A p.length c, .func (.func 71) #[] #[.pointer (some ⟨bx, 0, none⟩)]] w fun e w' => e = .returned (.bool (p.any (badRow (wd p)))) ∧ Kp w w' := by
  have Hc := hid (index_any hx hr h1 hl h6 hH hs)
  generalize p.any (badRow (wd p)) = q at *
  clear hx hr h1 hl h6 hs hH
  go_enter Tryd.func73, Tryd.ntmps73
  go_wp2_with (go_at_call 103; refine Hc.out.mono ?_; rintro e5 w5 ⟨i, rfl, hi, k1⟩; have Hi := hid hi; have K1 := hid k1; clear k1 hi)
  go_ret
  exact ⟨by first | (rw [← Hi.out]; rfl) | (simp [Hi.out]), K1.out⟩
end Go.Proofs.YtcdhimnmbpllgaaDoor

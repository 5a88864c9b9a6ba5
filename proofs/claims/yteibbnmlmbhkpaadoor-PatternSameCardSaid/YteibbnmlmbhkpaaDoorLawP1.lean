/-
  The walks of few, moves, texts, and of PatternSymmetries.
-/
import Derived.Test.YteibbnmlmbhkpaaDoorRW10
import Derived.Test.YteibbnmlmbhkpaaDoorPAliveW
namespace Go.Proofs.YteibbnmlmbhkpaaDoor
open Go.RowKit
set_option linter.unusedVariables false
set_option linter.unusedSimpArgs false
set_option maxHeartbeats 2000000
set_option maxRecDepth 100000

/-- Are strings few and short? -/
def fewB (p : List ByteArray) : Bool := decide (p.length ≤ 20 ∧ ∀ s ∈ p, s.size ≤ 20)
theorem few_any {F : MS} {p : List ByteArray} {A : Option Addr} {c : Nat} {w : World} (hr : RdS F RT.str p (.slice A p.length c)) (hs : ∀ s ∈ p, s.size ≤ maxLen) (hH : Has w F) :
    Calls Tryd.prog 8 #[.slice A p.length c] w fun e w' => e = .returned (.bool (fewB p)) ∧ w' = w := by
  have Hr := hid hr
  have HH := hid hH
  have Hs := hid hs
  have hnc := hr.cells.2.1
  have hcm := hr.cells.2.2.1
  obtain ⟨q, hq⟩ : ∃ q, q = fewB p := ⟨_, rfl⟩
  rw [← hq]
  have Hq := hid hq
  obtain ⟨N, hN⟩ : ∃ N, N = p.length := ⟨_, rfl⟩
  rw [← hN] at Hr hnc ⊢
  have HN := hid hN
  have hNI : (N : Int) ≤ 9223372036854775807 := by simp only [maxLen] at hcm; omega
  clear hr hH hs hq hN hcm
  go_enter Tryd.func8, Tryd.ntmps8
  go_wp2
  go_loopw [3] (fun v wr => ∃ i : Nat, i ≤ N ∧ i ≤ 20 ∧ v = .int .i64 i ∧ (∀ s ∈ p.take i, s.size ≤ 20) ∧ wr = w) (fun v _ => N - (intOf v).toNat)
  case atStart => exact ⟨0, Nat.zero_le _, by omega, rfl, by simp, rfl⟩
  case round =>
    obtain ⟨i, hi, hi20, rfl, hno, rfl⟩ := hrel
    have Hno := hid hno
    clear hno
    by_cases hlt : i < N
    · have hltI : (i : Int) < N := by omega
      have Hlt := hid hlt
      by_cases h20 : i = 20
      · have hge : (i : Int) ≥ 20 := by omega
        have hge2 : (20 : Int) ≤ i := by omega
        have hf := hid (show q = false by rw [Hq.out]; unfold fewB; rw [decide_eq_false_iff_not]; rintro ⟨h1, _⟩; rw [← HN.out] at h1; omega)
        clear h20 hlt hi hi20
        go_wp2
        go_ret
        exact ⟨by rw [hf.out]; rfl, rfl⟩
      have hge2 : ¬ (20 : Int) ≤ i := by omega
      obtain ⟨s, hsi⟩ : ∃ s, p[i]? = some s := ⟨_, List.getElem?_eq_getElem (by have := HN.out; omega)⟩
      obtain ⟨b, o, hA, e3⟩ := Hr.out.getStr hsi
      subst hA
      have f1 := e3.c0 HH.out
      have hsz := Hs.out s (List.mem_of_getElem? hsi)
      have hszI : (s.size : Int) ≤ 9223372036854775807 := by simp only [maxLen] at hsz; omega
      have hNc : N ≤ c := hnc
      have Hsi := hid hsi
      have H20 := hid (show i < 20 by omega)
      clear e3 hsi hsz hlt hi hi20 h20
      by_cases hb : s.size ≤ 20
      · have hbI : ¬ (20 : Int) < s.size := by omega
        have Hb := hid hb
        clear hb
        go_wp2
        go_roundw
        case rel => exact ⟨i + 1, Hlt.out, H20.out, by go_num, fun t ht => by
          rw [take_more Hsi.out] at ht
          rcases List.mem_append.1 ht with ht | ht
          · exact Hno.out t ht
          · rw [List.mem_singleton.1 ht]; exact Hb.out, by first | rfl | trivial⟩
        case measure => have := Hlt.out; simp [intOf]; omega
      · have hbI : (20 : Int) < s.size := by omega
        have hf := hid (show q = false by rw [Hq.out]; unfold fewB; rw [decide_eq_false_iff_not]; rintro ⟨_, h1⟩; exact hb (h1 s (List.mem_of_getElem? Hsi.out)))
        clear hb
        go_wp2
        go_ret
        exact ⟨by rw [hf.out]; rfl, rfl⟩
    · have hie : i = N := by omega
      subst hie
      have hf := hid (show q = true by
        have h1 := Hno.out
        rw [HN.out, List.take_length] at h1
        rw [Hq.out]; unfold fewB; rw [decide_eq_true_eq]; exact ⟨by rw [← HN.out]; exact hi20, h1⟩)
      clear hlt hi hi20
      go_wp2
      go_ret
      exact ⟨by rw [hf.out]; rfl, rfl⟩
theorem moves_same {F : MS} {l : List Mv} {A B : Option Addr} {c d : Nat} {w : World} (hr : RdS F RT.mv l (.slice A l.length c)) (hr2 : RdS F RT.mv l (.slice B l.length d)) (hl : l.length ≤ 1000000) (hH : Has w F) :
    Calls Tryd.prog 14 #[.slice A l.length c, .slice B l.length d] w fun e w' => e = .returned (.bool true) ∧ ∃ q, w' = w.drewN q := by
  have Hr := hid hr
  have Hr2 := hid hr2
  have HH := hid hH
  have hnc := hr.cells.2.1
  have hnd := hr2.cells.2.1
  obtain ⟨N, hN⟩ : ∃ N, N = l.length := ⟨_, rfl⟩
  rw [← hN] at Hr Hr2 hnc hnd hl ⊢
  have HN := hid hN
  have hNI : (N : Int) ≤ 1000000 := by omega
  clear hr hr2 hH hN hl
  go_enter Tryd.func14, Tryd.ntmps14
  go_wp2
  go_loopw [5] (fun v wr => ∃ i : Nat, i ≤ N ∧ v = .int .i64 i ∧ ∃ m, wr = w.drewN m) (fun v _ => N - (intOf v).toNat)
  case atStart => exact ⟨0, Nat.zero_le _, rfl, 0, rfl⟩
  case round =>
    obtain ⟨i, hi, rfl, m, rfl⟩ := hrel
    by_cases hlt : i < N
    · have hltI : (i : Int) < N := by omega
      have hi0 : (0 : Int) ≤ i := by omega
      have Hlt := hid hlt
      obtain ⟨x, hx⟩ : ∃ x, l[i]? = some x := ⟨_, List.getElem?_eq_getElem (by have := HN.out; omega)⟩
      obtain ⟨b, o, hA, hcs⟩ := Hr.out.mvAt hx
      subst hA
      obtain ⟨b2, o2, hA2, hcs2⟩ := Hr2.out.mvAt hx
      subst hA2
      obtain ⟨xa, xb, xc, xd, xe, xf⟩ := x
      obtain ⟨n0, n1, n2, n3, n4, n5⟩ := hcs w HH.out
      obtain ⟨m0, m1, m2, m3, m4, m5⟩ := hcs2 w HH.out
      simp only at n0 n1 n2 n3 n4 n5 m0 m1 m2 m3 m4 m5
      have hNc : N ≤ c := hnc
      have hNd : N ≤ d := hnd
      clear hcs hcs2 hx hlt hi
      go_wp2
      go_quiet (fail)
      go_wp2
      go_roundw
      case rel => exact ⟨i + 1, Hlt.out, by go_num, _, rfl⟩
      case measure => have := Hlt.out; simp [intOf]; omega
    · have hie : i = N := by omega
      subst hie
      clear hlt hi
      go_wp2
      go_ret
      exact ⟨rfl, m, rfl⟩
theorem texts_same {F : MS} {l : List ByteArray} {A B : Option Addr} {c d : Nat} {w : World} (hr : RdS F RT.str l (.slice A l.length c)) (hr2 : RdS F RT.str l (.slice B l.length d)) (hl : l.length ≤ 1000000) (hH : Has w F) :
    Calls Tryd.prog 17 #[.slice A l.length c, .slice B l.length d] w fun e w' => e = .returned (.bool true) ∧ ∃ q, w' = w.drewN q := by
  have Hr := hid hr
  have Hr2 := hid hr2
  have HH := hid hH
  have hnc := hr.cells.2.1
  have hnd := hr2.cells.2.1
  obtain ⟨N, hN⟩ : ∃ N, N = l.length := ⟨_, rfl⟩
  rw [← hN] at Hr Hr2 hnc hnd hl ⊢
  have HN := hid hN
  have hNI : (N : Int) ≤ 1000000 := by omega
  clear hr hr2 hH hN hl
  go_enter Tryd.func17, Tryd.ntmps17
  go_wp2
  go_loopw [5] (fun v wr => ∃ i : Nat, i ≤ N ∧ v = .int .i64 i ∧ ∃ m, wr = w.drewN m) (fun v _ => N - (intOf v).toNat)
  case atStart => exact ⟨0, Nat.zero_le _, rfl, 0, rfl⟩
  case round =>
    obtain ⟨i, hi, rfl, m, rfl⟩ := hrel
    by_cases hlt : i < N
    · have hltI : (i : Int) < N := by omega
      have hi0 : (0 : Int) ≤ i := by omega
      have Hlt := hid hlt
      obtain ⟨s, hs⟩ : ∃ s, l[i]? = some s := ⟨_, List.getElem?_eq_getElem (by have := HN.out; omega)⟩
      obtain ⟨b, o, hA, e3⟩ := Hr.out.getStr hs
      subst hA
      obtain ⟨b2, o2, hA2, e4⟩ := Hr2.out.getStr hs
      subst hA2
      have f1 := e3.c0 HH.out
      have f2 := e4.c0 HH.out
      have hNc : N ≤ c := hnc
      have hNd : N ≤ d := hnd
      clear e3 e4 hs hlt hi
      go_wp2
      go_quiet (fail)
      go_wp2
      go_roundw
      case rel => exact ⟨i + 1, Hlt.out, by go_num, _, rfl⟩
      case measure => have := Hlt.out; simp [intOf]; omega
    · have hie : i = N := by omega
      subst hie
      clear hlt hi
      go_wp2
      go_ret
      exact ⟨rfl, m, rfl⟩
/-- Strings owned. -/
def StrR : ByteArray → List Value → MS → Prop := fun s cs ms => cs = [.string s] ∧ ms = 0
theorem strs_rows : ∀ l : List ByteArray, RowsR StrR l (l.map Value.string) 0
  | [] => RowsR.nil
  | s :: l => ⟨[.string s], 0, _, 0, ⟨rfl, rfl⟩, strs_rows l, rfl, by rw [MS.zero_add]⟩
theorem rowsQ_strs_eq : ∀ {F : MS} {l : List ByteArray} {xs : List Value}, RowsQ (RT.str.rel F) l xs → xs = l.map Value.string
  | _, [], _, h => h
  | F, a :: l, _, ⟨c1, c2, h1, h2, h3⟩ => by
    have e1 : c1 = [.string a] := h1
    rw [h3, e1, rowsQ_strs_eq h2]; rfl
/-- What a law leaves. -/
def LawPost (w : World) (F : MS) (e : Ending) (w' : World) : Prop := e = .returned (.bool true) ∧ Has w' F ∧ Ext w w'
theorem same_gd {p : List ByteArray} {g g' : Gd} {er er' : Int} (h1 : isPat p = true → IsLat p g ∧ er = 0) (h2 : isPat p = false → g = ⟨0, 0, 0⟩ ∧ er = 2) (h1' : isPat p = true → IsLat p g' ∧ er' = 0) (h2' : isPat p = false → g' = ⟨0, 0, 0⟩ ∧ er' = 2) : g' = g ∧ er' = er := by
  cases h : isPat p with
  | true => obtain ⟨a, b⟩ := h1 h; obtain ⟨a', b'⟩ := h1' h; exact ⟨a'.uniq a, by rw [b, b']⟩
  | false => obtain ⟨a, b⟩ := h2 h; obtain ⟨a', b'⟩ := h2' h; exact ⟨by rw [a, a'], by rw [b, b']⟩
theorem same_l {p : List ByteArray} {l l' : List Mv} {er er' : Int} (h1 : isPat p = true → (∃ g, IsLat p g ∧ l = symL p g) ∧ er = 0) (h2 : isPat p = false → l = [] ∧ er = 2) (h1' : isPat p = true → (∃ g, IsLat p g ∧ l' = symL p g) ∧ er' = 0) (h2' : isPat p = false → l' = [] ∧ er' = 2) : l' = l ∧ er' = er := by
  cases h : isPat p with
  | true =>
    obtain ⟨⟨g, a, c⟩, b⟩ := h1 h
    obtain ⟨⟨g', a', c'⟩, b'⟩ := h1' h
    rw [a'.uniq a] at c'
    exact ⟨by rw [c, c'], by rw [b, b']⟩
  | false => obtain ⟨a, b⟩ := h2 h; obtain ⟨a', b'⟩ := h2' h; exact ⟨by rw [a, a'], by rw [b, b']⟩
theorem same_nm {p : List ByteArray} {l l' : ByteArray} {er er' : Int} (h1 : isPat p = true → (∃ g, IsLat p g ∧ l = nameOf p g) ∧ er = 0) (h2 : isPat p = false → l = txt [] ∧ er = 2) (h1' : isPat p = true → (∃ g, IsLat p g ∧ l' = nameOf p g) ∧ er' = 0) (h2' : isPat p = false → l' = txt [] ∧ er' = 2) : l' = l ∧ er' = er := by
  cases h : isPat p with
  | true =>
    obtain ⟨⟨g, a, c⟩, b⟩ := h1 h
    obtain ⟨⟨g', a', c'⟩, b'⟩ := h1' h
    rw [a'.uniq a] at c'
    exact ⟨by rw [c, c'], by rw [b, b']⟩
  | false => obtain ⟨a, b⟩ := h2 h; obtain ⟨a', b'⟩ := h2' h; exact ⟨by rw [a, a'], by rw [b, b']⟩
theorem l_len {p : List ByteArray} {l : List Mv} {er : Int} (h1 : isPat p = true → (∃ g, IsLat p g ∧ l = symL p g) ∧ er = 0) (h2 : isPat p = false → l = [] ∧ er = 2) : l.length ≤ 1000000 := by
  cases h : isPat p with
  | true =>
    obtain ⟨⟨g, a, c⟩, b⟩ := h1 h
    have hp := (isPat.ok h).1
    have := symL_len (p := p) (g := g) (by have := a.a6 hp; omega) (by have := a.a6 hp; omega)
    rw [c]; omega
  | false => rw [(h2 h).1]; simp
theorem Sl.empty (b e sz : Nat) : Sl e sz (.slice (some ⟨b, 0, none⟩) 0 0) 0 [] (blk b #[] e) := Sl.made (n := 0) b #[] (by simp [maxLen]) (by simp)
theorem info9 : (Tryd.prog.info? 9).map (fun i => (i.zero, i.size, i.bytes)) = some (some (.string ⟨#[]⟩), 1, 16) := by kernel_rfl
theorem patSym_any {F : MS} {p : List ByteArray} {A : Option Addr} {c : Nat} {w : World} (hr : RdS F RT.str p (.slice A p.length c)) (hs : ∀ s ∈ p, s.size ≤ maxLen) (hk : KinOk F) (hH : Has w F) :
    Calls Tryd.prog 3 #[.slice A p.length c] w (LawPost w F) := by
  have Hfew := hid (few_any hr hs hH)
  cases hf : fewB p with
  | false =>
    have Hal := hid (alive_any hk hH)
    rw [hf] at Hfew
    clear hf hr hs hk
    have HH := hid hH
    clear hH
    go_enter Tryd.func3, Tryd.ntmps3
    go_wp2_with (first
      | (go_at_call 8; refine Hfew.out.mono ?_; rintro e1 w1 ⟨rfl, hw1⟩; rw [hw1]; clear hw1)
      | (go_at_call 9; refine Hal.out.mono ?_; rintro e2 w2 ⟨rfl, k2⟩; have K2 := hid k2; clear k2))
    go_ret
    exact ⟨rfl, K2.out.1 _ HH.out, K2.out.2⟩
  | true =>
    rw [hf] at Hfew
    unfold fewB at hf
    rw [decide_eq_true_eq] at hf
    obtain ⟨hl20, hs20⟩ := hf
    have hgiv : Giv F p A c := ⟨hr, by omega, fun s h => by have := hs20 s h; omega⟩
    have Hgiv := hid hgiv
    obtain ⟨_, _, _, xs, h4, h5, h6⟩ := hr.cells
    obtain rfl := rowsQ_strs_eq h5
    have HX := hid (show Has (w.alloc (.cells #[] 9)) (blk w.heap.size #[] 9 + F) from hH.alloc (.cells #[] 9))
    have hnews := (h4.more (blk w.heap.size #[] 9)).news (X := 0) (w := w.alloc (.cells #[] 9)) (by rw [MS.zero_add]; exact HX.out)
    have Hnews := hid hnews
    have hnone : A = none → p.length = 0 := fun hA => by
      cases p with
      | nil => rfl
      | cons x l => obtain ⟨b, o, h7, _⟩ := h4 (by simp); rw [hA] at h7; cases h7
    have Hnone := hid hnone
    have HH := hid hH
    have Hk := hid hk
    have Hl20 := hid hl20
    have Hs20 := hid hs20
    clear hr hs hk hH hl20 hs20 h4 h5 h6 hnews hnone hgiv
    go_enter Tryd.func3, Tryd.ntmps3
    go_wp2_with (first
      | (go_at_call 8; refine Hfew.out.mono ?_; rintro e1 w1 ⟨rfl, hw1⟩; rw [hw1]; clear hw1)
      | (at_builtin; refine wpList_append_sl rfl (.tmp 16) (.tmp 17) 22 rfl 9 _ 1 16 Tryd.underlying22 info9 rfl _ rfl A p.length c rfl 0 [] (blk w.heap.size #[] 9) F (Sl.empty _ 9 1) HX.out (p.map Value.string) (by simp) Hnone.out Hnews.out (fun u hu => by obtain ⟨s, _, rfl⟩ := List.mem_map.1 hu; rfl) (by have := Hl20.out; simp only [maxLen]; omega) (by have := Hl20.out; omega) ?_; intro v' w1 m1 h1 h2 h3; obtain ⟨A1, c1, rfl, _⟩ := h1.form; simp only [Nat.zero_add, List.nil_append] at h1 ⊢; have R1 := hid (show RdS m1 RT.str p (.slice A1 p.length c1) from SlR.rd (R := StrR) (T := RT.str) (fun a cs m h => h.1) (by have := SlR.of h1 (strs_rows p); rwa [MS.add_zero] at this)); have J1 := hid h2; have E1 := hid ((Ext.alloc w _).trans h3); have Hown := hid (show Giv (MS.all w1) p A1 c1 from ⟨rd_all_str R1.out h2.left, by have := Hl20.out; omega, fun s h => by have := Hs20.out s h; omega⟩); have Hp1 := hid (show Giv (MS.all w1) p A c from ⟨rd_all_str Hgiv.out.rd h2.right, by have := Hl20.out; omega, fun s h => by have := Hs20.out s h; omega⟩); have Hk1 := hid (show KinOk (MS.all w1) from Hk.out.all h2.right); have A1' := hid (Has.all w1); clear h1 h2 h3)
      | (go_at_call 9; refine (alive_any Hk1.out (K17.out.1 _ A1'.out)).mono ?_; rintro e9 w9 ⟨rfl, k9⟩; have K9 := hid (K17.out.trans k9); clear k9)
      | (go_at_call 17; refine (texts_same Hown.out.rd Hp1.out.rd (by have := Hl20.out; omega) (K16.out.1 _ A1'.out)).mono ?_; rintro e17 w17 ⟨rfl, q17, hw17⟩; have K17 := hid (show Kp w1 w17 by rw [hw17]; exact Kp.drewN K16.out _); clear hw17)
      | (go_at_call 16; refine (GroupR_any Hp1.out (K15.out.1 _ A1'.out)).mono ?_; rintro e16 w16 ⟨nm', er3', rfl, k16, z1, z2⟩; obtain ⟨rfl, rfl⟩ := same_nm Hn1.out Hn2.out z1 z2; have K16 := hid (K15.out.trans k16); clear k16 z1 z2)
      | (go_at_call 15; refine (Group_any Hown.out (Hk1.out) (K14.out.1 _ A1'.out)).mono ?_; rintro e15 w15 ⟨nm, er3, rfl, k15, z1, z2⟩; have K15 := hid (K14.out.trans k15); have Hn1 := hid z1; have Hn2 := hid z2; clear k15 z1 z2)
      | (go_at_call 14; refine (moves_same Hl3.out Hm3.out Hlen.out (Has.all _)).mono ?_; rintro e14 w14 ⟨rfl, q14, hw14⟩; have K14 := hid (show Kp w1 w14 by rw [hw14]; exact Kp.drewN K13.out _); clear hw14)
      | (go_at_call 13; refine (SymmetriesR_any Hp1.out (K12.out.1 _ A1'.out)).mono ?_; rintro e13 w13 ⟨A3, c3, l', er2', X3, rfl, k13, hX3, hr3, z1, z2⟩; obtain ⟨rfl, rfl⟩ := same_l Hl1.out Hl2.out z1 z2; have K13 := hid (K12.out.trans k13); have Hm3 := hid (rd_all (F := X3) (T := RT.mv) (fun _ _ h => h) hr3 hX3); have Hl3 := hid (rd_all (F := X2) (T := RT.mv) (fun _ _ h => h) Hr2.out (k13.1 _ HX2.out)); clear k13 z1 z2 hX3 hr3)
      | (go_at_call 12; refine (Symmetries_any Hown.out Hk1.out (K11.out.1 _ A1'.out)).mono ?_; rintro e12 w12 ⟨A2, c2, l, er2, X2, rfl, k12, hX2, hr2, z1, z2⟩; have K12 := hid (K11.out.trans k12); have Hl1 := hid z1; have Hl2 := hid z2; have HX2 := hid hX2; have Hr2 := hid hr2; have Hlen := hid (l_len z1 z2); clear k12 z1 z2 hX2 hr2)
      | (go_at_call 11; refine (refLatticeX_any Hp1.out (K10.out.1 _ A1'.out)).mono ?_; rintro e11 w11 ⟨g', er', rfl, k11, z1, z2⟩; obtain ⟨rfl, rfl⟩ := same_gd Hg1.out Hg2.out z1 z2; have C11 := hid (k11.1 _ B10.out); have K11 := hid (show Kp w1 (w11.alloc (.cells #[.int .i64 g'.A, .int .i64 g'.B, .int .i64 g'.D] 26)) from (K10.out.trans k11).trans ⟨fun M hM => hM.of_all ((Has.all w11).alloc _), Ext.alloc _ _⟩); have D11 : Has (w11.alloc (.cells #[.int .i64 g'.A, .int .i64 g'.B, .int .i64 g'.D] 26)) (blk w10.heap.size #[.int .i64 g'.A, .int .i64 g'.B, .int .i64 g'.D] 26 + (blk w11.heap.size #[.int .i64 g'.A, .int .i64 g'.B, .int .i64 g'.D] 26 + MS.all w10)) := (C11.out.alloc (.cells #[.int .i64 g'.A, .int .i64 g'.B, .int .i64 g'.D] 26)).eq (by show blk w11.heap.size #[.int .i64 g'.A, .int .i64 g'.B, .int .i64 g'.D] 26 + _ = _; ac_rfl); have x0 : (w11.alloc (.cells #[.int .i64 g'.A, .int .i64 g'.B, .int .i64 g'.D] 26)).cell? ⟨w10.heap.size, 0, none⟩ = some (.int .i64 g'.A) := D11.at_ rfl; have x1 : (w11.alloc (.cells #[.int .i64 g'.A, .int .i64 g'.B, .int .i64 g'.D] 26)).cell? ⟨w10.heap.size, 1, none⟩ = some (.int .i64 g'.B) := D11.at_ rfl; have x2 : (w11.alloc (.cells #[.int .i64 g'.A, .int .i64 g'.B, .int .i64 g'.D] 26)).cell? ⟨w10.heap.size, 2, none⟩ = some (.int .i64 g'.D) := D11.at_ rfl; clear D11; clear k11 z1 z2)
      | (go_at_call 10; refine (Lattice_any Hown.out A1'.out).mono ?_; rintro e10 w10 ⟨g, er, rfl, k10, z1, z2⟩; have B10 := hid (show Has (w10.alloc (.cells #[.int .i64 g.A, .int .i64 g.B, .int .i64 g.D] 26)) (blk w10.heap.size #[.int .i64 g.A, .int .i64 g.B, .int .i64 g.D] 26 + MS.all w10) from (Has.all w10).alloc _); have K10 := hid (show Kp w1 (w10.alloc (.cells #[.int .i64 g.A, .int .i64 g.B, .int .i64 g.D] 26)) from k10.trans ⟨fun M hM => hM.of_all B10.out, Ext.alloc _ _⟩); have Hg1 := hid z1; have Hg2 := hid z2; clear k10 z1 z2))
    go_ret
    exact ⟨rfl, K9.out.1 _ J1.out.right, E1.out.trans K9.out.2⟩
end Go.Proofs.YteibbnmlmbhkpaaDoor

/-
  The walks of on, any, directions, order.
-/
import Derived.Test.YteibbnmlmbhkpaaDoorPLines
namespace Go.Proofs.YteibbnmlmbhkpaaDoor
open Go.RowKit
set_option linter.unusedVariables false
set_option linter.unusedSimpArgs false
set_option maxHeartbeats 2000000
set_option maxRecDepth 100000

theorem Has.obj {w : World} {F : MS} {g : Nat} {o : Obj} (h : Has w F) (hg : F.g g o) : w.heap[g]? = some o := (h g).2.2 _ (Or.inl hg)
/-- A look into a set of lines. -/
theorem LnV.look {F : MS} {v : Value} {pr : Int → Prop} (h : LnV F v pr) : ∃ g, v = .map (some g) ∧ ∀ a, zOk a → ∃ q : Bool, (q = true ↔ pr a) ∧ ∀ W, Has W F → (Instr.lookup 110 (.map (some g)) (.int .i64 a) false).run Tryd.prog W = .ok (.bool q) W := by
  obtain ⟨g, S, es, clock, h1, h2, h3, h4, h5⟩ := h
  exact ⟨g, h1, fun a ha => ⟨decide (a ∈ S), by rw [decide_eq_true_iff, h4], fun W hW => h3.look (hW.obj h2) ha⟩⟩
theorem LnV.len {F : MS} {v : Value} {pr : Int → Prop} (h : LnV F v pr) : ∃ g, ∃ n : Nat, v = .map (some g) ∧ n ≤ 30000 ∧ (0 < n ↔ ∃ a, pr a) ∧ ∀ W, Has W F → Sem.run Tryd.prog (Builtin.len_ #[110] 3 #[.map (some g)]) W = .ok (.int .i64 n) W := by
  obtain ⟨g, S, es, clock, h1, h2, h3, h4, h5⟩ := h
  refine ⟨g, es.size, h1, by rw [h3.size]; exact h5, ?_, fun W hW => len_mapZ (hW.obj h2) (by rw [h3.size]; omega)⟩
  rw [h3.size]
  constructor
  · intro h
    cases S with
    | nil => simp at h
    | cons a l => exact ⟨a, (h4 a).1 (by simp)⟩
  · rintro ⟨a, ha⟩
    have := (h4 a).2 ha
    cases S with
    | nil => simp at this
    | cons a l => simp
/-- Does a point lie on a mirror? -/
def onP (p : List ByteArray) (g : Gd) (x y : Int) : Prop := lnMir p g 4 y ∨ lnMir p g 5 x ∨ lnMir p g 6 (x - y) ∨ lnMir p g 7 (x + y)
/-- What answers a question. -/
def RetB (pr : Prop) (e : Ending) : Prop := ∃ q : Bool, e = .returned (.bool q) ∧ (q = true ↔ pr)
theorem on_any {F : MS} {p : List ByteArray} {g : Gd} {lb : Nat} {w : World} (h : Lns F p g lb) (x y : Int) (hx : -200 ≤ x ∧ x ≤ 200) (hy : -200 ≤ y ∧ y ≤ 200) (hH : Has w F) :
    Calls Tryd.prog 68 #[.pointer (some ⟨lb, 0, none⟩), .int .i64 x, .int .i64 y] w fun e w' => RetB (onP p g x y) e ∧ w' = w := by
  obtain ⟨v4, a4, b4⟩ := h.mir 4 (by omega) (by omega)
  obtain ⟨v5, a5, b5⟩ := h.mir 5 (by omega) (by omega)
  obtain ⟨v6, a6, b6⟩ := h.mir 6 (by omega) (by omega)
  obtain ⟨v7, a7, b7⟩ := h.mir 7 (by omega) (by omega)
  obtain ⟨g4, rfl, l4⟩ := b4.look
  obtain ⟨g5, rfl, l5⟩ := b5.look
  obtain ⟨g6, rfl, l6⟩ := b6.look
  obtain ⟨g7, rfl, l7⟩ := b7.look
  obtain ⟨q4, r4, t4⟩ := l4 y (by unfold zOk; omega)
  obtain ⟨q5, r5, t5⟩ := l5 x (by unfold zOk; omega)
  obtain ⟨q6, r6, t6⟩ := l6 (x - y) (by unfold zOk; omega)
  obtain ⟨q7, r7, t7⟩ := l7 (x + y) (by unfold zOk; omega)
  have f4 := a4.c0 hH
  have f5 := a5.c0 hH
  have f6 := a6.c0 hH
  have f7 := a7.c0 hH
  have s4 := t4 w hH
  have s5 := t5 w hH
  have s6 := t6 w hH
  have s7 := t7 w hH
  have hw1 : IntKind.i64.wrap (x - y) = x - y := by rw [IntKind.wrap_i64]; omega
  have hw2 : IntKind.i64.wrap (x + y) = x + y := by rw [IntKind.wrap_i64]; omega
  have Hon := hid (show onP p g x y ↔ (q4 = true ∨ q5 = true ∨ q6 = true ∨ q7 = true) by unfold onP; rw [r4, r5, r6, r7])
  clear a4 a5 a6 a7 b4 b5 b6 b7 l4 l5 l6 l7 r4 r5 r6 r7 t4 t5 t6 t7 hx hy h hH
  cases q4 with
  | true =>
    go_enter Tryd.func68, Tryd.ntmps68
    go_wp2
    go_ret
    exact ⟨⟨true, rfl, ⟨fun _ => Hon.out.2 (.inl (by first | rfl | trivial)), fun _ => rfl⟩⟩, rfl⟩
  | false =>
    cases q5 with
    | true =>
      go_enter Tryd.func68, Tryd.ntmps68
      go_wp2
      go_ret
      exact ⟨⟨true, rfl, ⟨fun _ => Hon.out.2 (.inr (.inl (by first | rfl | trivial))), fun _ => rfl⟩⟩, rfl⟩
    | false =>
      cases q6 with
      | true =>
        go_enter Tryd.func68, Tryd.ntmps68
        go_wp2
        go_ret
        exact ⟨⟨true, rfl, ⟨fun _ => Hon.out.2 (.inr (.inr (.inl (by first | rfl | trivial)))), fun _ => rfl⟩⟩, rfl⟩
      | false =>
        go_enter Tryd.func68, Tryd.ntmps68
        go_wp2
        go_ret
        exact ⟨⟨q7, rfl, ⟨fun h => Hon.out.2 (.inr (.inr (.inr h))), fun h => (Hon.out.1 h).elim (fun h => by cases h) fun h => h.elim (fun h => by cases h) fun h => h.elim (fun h => by cases h) id⟩⟩, rfl⟩
/-- Is there any mirrored symmetry? How many kinds of mirrors? -/
def anyL (p : List ByteArray) (g : Gd) : Prop := ∃ k, 4 ≤ k ∧ k < 8 ∧ ∃ a, lnAll p g k a
theorem any_any {F : MS} {p : List ByteArray} {g : Gd} {lb : Nat} {w : World} (h : Lns F p g lb) (hH : Has w F) :
    Calls Tryd.prog 65 #[.pointer (some ⟨lb, 0, none⟩)] w fun e w' => RetB (anyL p g) e ∧ w' = w := by
  have Hl := hid h
  have HH := hid hH
  clear h hH
  go_enter Tryd.func65, Tryd.ntmps65
  go_wp2
  go_loop [3] (fun v => ∃ k : Nat, 4 ≤ k ∧ k ≤ 8 ∧ v = .int .i64 k ∧ ∀ k', 4 ≤ k' → k' < k → ¬ ∃ a, lnAll p g k' a) (fun v => 8 - (intOf v).toNat)
  case atStart => exact ⟨4, Nat.le_refl _, by omega, rfl, fun k' h1 h2 => by omega⟩
  case round =>
    obtain ⟨k, h4, h8, rfl, hno⟩ := hrel
    have Hno := hid hno
    have H4 := hid h4
    clear hno
    by_cases hlt : k < 8
    · have Hlt := hid hlt
      have hltI : (k : Int) < 8 := by omega
      obtain ⟨v, a1, a2⟩ := Hl.out.all k h4 hlt
      obtain ⟨g1, n, rfl, hn, hpos, hlen⟩ := a2.len
      have f0 := a1.c0 HH.out
      have f1 := hlen w HH.out
      have Hpos := hid hpos
      have hnI : (n : Int) ≤ 30000 := by omega
      clear a1 a2 hpos hlen hlt h4 h8
      by_cases h0 : 0 < n
      · have h0I : (0 : Int) < n := by omega
        have H0 := hid h0
        clear h0
        go_wp2
        go_ret
        exact ⟨⟨true, rfl, ⟨fun _ => ⟨k, H4.out, Hlt.out, Hpos.out.1 H0.out⟩, fun _ => rfl⟩⟩, rfl⟩
      · have h0I : ¬ (0 : Int) < n := by omega
        have H0 := hid h0
        clear h0
        go_wp2
        go_round
        case rel => exact ⟨k + 1, by have := H4.out; omega, Hlt.out, by go_num, fun k' h1 h2 => by
          by_cases hkk : k' = k
          · rw [hkk]; exact fun hh => H0.out (Hpos.out.2 hh)
          · exact Hno.out k' h1 (by omega)⟩
        case measure => have := Hlt.out; simp [intOf]; omega
    · have hk8 : k = 8 := by omega
      subst hk8
      clear hlt h4 h8
      go_wp2
      go_ret
      exact ⟨⟨false, rfl, ⟨fun h => absurd h (by decide), fun ⟨k', h1, h2, h3⟩ => absurd h3 (Hno.out k' h1 h2)⟩⟩, rfl⟩
/-- Is there a mirror of a kind? -/
def anyM (p : List ByteArray) (g : Gd) (k : Nat) : Prop := ∃ a, lnMir p g k a
open Classical in
noncomputable def dirN (p : List ByteArray) (g : Gd) (k : Nat) : Nat := ((List.range k).filter fun k' => decide (4 ≤ k' ∧ anyM p g k')).length
theorem dirN_four (p : List ByteArray) (g : Gd) : dirN p g 4 = 0 := by
  unfold dirN
  rw [List.length_eq_zero_iff, List.filter_eq_nil_iff]
  intro a ha
  have := List.mem_range.1 ha
  simp
  omega
theorem dirN_yes {p : List ByteArray} {g : Gd} {k : Nat} (h4 : 4 ≤ k) (h : anyM p g k) : dirN p g (k + 1) = dirN p g k + 1 := by
  unfold dirN
  rw [List.range_succ, List.filter_append]
  simp [h4, h]
theorem dirN_no {p : List ByteArray} {g : Gd} {k : Nat} (h : ¬ anyM p g k) : dirN p g (k + 1) = dirN p g k := by
  unfold dirN
  rw [List.range_succ, List.filter_append]
  simp [h]
theorem dirN_le (p : List ByteArray) (g : Gd) (k : Nat) : dirN p g k ≤ k := by
  unfold dirN
  exact Nat.le_trans (List.length_filter_le _ _) (by rw [List.length_range]; exact Nat.le_refl _)
theorem directions_any {F : MS} {p : List ByteArray} {g : Gd} {lb : Nat} {w : World} (h : Lns F p g lb) (hH : Has w F) :
    Calls Tryd.prog 69 #[.pointer (some ⟨lb, 0, none⟩)] w fun e w' => e = .returned (.int .i64 (dirN p g 8)) ∧ w' = w := by
  have Hl := hid h
  have HH := hid hH
  clear h hH
  go_enter Tryd.func69, Tryd.ntmps69
  go_wp2
  go_loop [3, 4] (fun u v => ∃ k : Nat, 4 ≤ k ∧ k ≤ 8 ∧ v = .int .i64 k ∧ u = .int .i64 (dirN p g k)) (fun u v => 8 - (intOf v).toNat)
  case atStart => exact ⟨4, Nat.le_refl _, by omega, rfl, by rw [dirN_four]; rfl⟩
  case round =>
    obtain ⟨k, h4, h8, rfl, rfl⟩ := hrel
    have H4 := hid h4
    have hd8 := dirN_le p g k
    obtain ⟨d, hd⟩ : ∃ d, d = dirN p g k := ⟨_, rfl⟩
    rw [← hd] at hd8 ⊢
    have Hd := hid hd
    have hdI : (d : Int) ≤ 8 := by omega
    clear hd8 hd
    by_cases hlt : k < 8
    · have Hlt := hid hlt
      have hltI : (k : Int) < 8 := by omega
      obtain ⟨v, a1, a2⟩ := Hl.out.mir k h4 hlt
      obtain ⟨g1, n, rfl, hn, hpos, hlen⟩ := a2.len
      have f0 := a1.c0 HH.out
      have f1 := hlen w HH.out
      have Hpos := hid hpos
      have hnI : (n : Int) ≤ 30000 := by omega
      clear a1 a2 hpos hlen hlt h4 h8
      by_cases h0 : 0 < n
      · have h0I : (0 : Int) < n := by omega
        have H0 := hid h0
        clear h0
        go_wp2
        go_round
        case rel => exact ⟨k + 1, by have := H4.out; omega, Hlt.out, by go_num, by rw [dirN_yes H4.out (Hpos.out.1 H0.out), ← Hd.out]; go_num⟩
        case measure => have := Hlt.out; simp [intOf]; omega
      · have h0I : ¬ (0 : Int) < n := by omega
        have H0 := hid h0
        clear h0
        go_wp2
        go_round
        case rel => exact ⟨k + 1, by have := H4.out; omega, Hlt.out, by go_num, by rw [dirN_no (fun hh => H0.out (Hpos.out.2 hh)), ← Hd.out]⟩
        case measure => have := Hlt.out; simp [intOf]; omega
    · have hk8 : k = 8 := by omega
      subst hk8
      clear hlt h4 h8
      go_wp2
      go_ret
      exact ⟨by rw [← Hd.out]; rfl, rfl⟩
theorem RdS.getMv {F : MS} {l : List Mv} {A : Option Addr} {n c : Nat} (h : RdS F RT.mv l (.slice A n c)) {i : Nat} {m : Mv} (ha : l[i]? = some m) : ∃ b o, A = some ⟨b, o, none⟩ ∧ ∀ (j : Nat) v, m.cells[j]? = some v → F.at b (o + i * 6 + j) v := by
  obtain ⟨b, o, cs, h1, h2, h3⟩ := h.get ha (show 0 < RT.mv.sz by decide)
  obtain rfl : cs = m.cells := h2
  exact ⟨b, o, h1, h3⟩
theorem symL_len {p : List ByteArray} {g : Gd} (hA : g.A ≤ 6) (hD : g.D ≤ 6) : (symL p g).length ≤ 400 := by
  rw [← listP_endK]
  exact listP_len (by omega) (by omega) (by omega) hA hD
/-- The highest order of a turn. -/
def ordOf (l : List Mv) : Int := if l.any (fun m => kindOf m == 1 || kindOf m == 3) then 4 else if l.any (fun m => kindOf m == 2) then 2 else 1
theorem order_any {F : MS} {p : List ByteArray} {g : Gd} {gb : Nat} {w : World} (h : PGr F p g gb) (hk : KinOk F) (hH : Has w F) :
    Calls Tryd.prog 64 #[.pointer (some ⟨gb, 0, none⟩)] w fun e w' => e = .returned (.int .i64 (ordOf (symL p g))) ∧ Kp w w' := by
  obtain ⟨A, c, a1, a2⟩ := h.all
  have f0 := a1.c0 hH
  have hnc := a2.cells.2.1
  have hl4 : (symL p g).length ≤ 400 := symL_len (by have := h.lat.aw; have := h.pok.w6; omega) (by have := h.lat.dh; have := h.pok.h6; omega)
  have Ha2 := hid a2
  have Hkind := hid (fun (m : Mv) (W : World) (hW : Has W F) => kind_any hk m W hW)
  have HH := hid hH
  generalize symL p g = l at *
  obtain ⟨N, hN⟩ : ∃ N, N = l.length := ⟨_, rfl⟩
  rw [← hN] at f0 hnc hl4 Ha2
  have HN := hid hN
  have hNI : (N : Int) ≤ 400 := by omega
  clear h hk hH a1 a2 hN
  go_enter Tryd.func64, Tryd.ntmps64
  go_wp2
  clear f0
  go_loopw [3, 11] (fun u v wr => ∃ i : Nat, i ≤ N ∧ v = .int .i64 i ∧ (∀ m ∈ l.take i, kindOf m ≠ 1 ∧ kindOf m ≠ 3) ∧ u = .int .i64 (if (l.take i).any (fun m => kindOf m == 2) then 2 else 1) ∧ Kp w wr) (fun u v _ => N - (intOf v).toNat)
  case atStart => exact ⟨0, Nat.zero_le _, rfl, by simp, rfl, Kp.refl _⟩
  case round =>
    obtain ⟨i, hi, rfl, hno, rfl, hK⟩ := hrel
    have Hno := hid hno
    have HK := hid hK
    obtain ⟨r, hr⟩ : ∃ r : Int, r = if (l.take i).any (fun m => kindOf m == 2) then 2 else 1 := ⟨_, rfl⟩
    rw [← hr]
    have Hr := hid hr
    clear hno hK hr
    by_cases hlt : i < N
    · have hltI : (i : Int) < N := by omega
      have Hlt := hid hlt
      obtain ⟨m, hm⟩ : ∃ m, l[i]? = some m := ⟨_, List.getElem?_eq_getElem (by have := HN.out; omega)⟩
      obtain ⟨b, o, hA, hcs⟩ := Ha2.out.getMv hm
      subst hA
      have HF := HK.out.1 _ HH.out
      have Hm := hid hm
      obtain ⟨ma, mb, mc, md, me, mf⟩ := m
      have n0 := (hcs 0 _ rfl).c0 HF
      rw [Nat.add_zero] at n0
      have n1 := (hcs 1 _ rfl).c0 HF
      have n2 := (hcs 2 _ rfl).c0 HF
      have n3 := (hcs 3 _ rfl).c0 HF
      have n4 := (hcs 4 _ rfl).c0 HF
      have n5 := (hcs 5 _ rfl).c0 HF
      have hNc1 : N ≤ c := hnc
      have HA1 := hid ((Has.all wr).alloc (.cells #[.int .i64 ma, .int .i64 mb, .int .i64 mc, .int .i64 md, .int .i64 me, .int .i64 mf] 41))
      have Hc := hid (Hkind.out ⟨ma, mb, mc, md, me, mf⟩ _ (HF.of_all HA1.out))
      have Ekp := hid (show Kp w (wr.alloc (.cells #[.int .i64 ma, .int .i64 mb, .int .i64 mc, .int .i64 md, .int .i64 me, .int .i64 mf] 41)) from HK.out.trans ⟨fun M hM => hM.of_all HA1.out, Ext.alloc _ _⟩)
      obtain ⟨kk, hkk⟩ : ∃ kk, kk = kindOf ⟨ma, mb, mc, md, me, mf⟩ := ⟨_, rfl⟩
      rw [← hkk] at Hc
      have Hkk := hid hkk
      clear hcs HF hm hlt hkk hi
      by_cases h1 : kk = 1
      · have H1 := hid h1
        subst h1
        go_wp2_with (go_at_call 44; refine Hc.out.mono ?_; rintro e5 w5 ⟨rfl, k5⟩; have K5 := hid (Ekp.out.trans k5); clear k5)
        go_ret
        refine ⟨?_, K5.out⟩
        have : l.any (fun m => kindOf m == 1 || kindOf m == 3) = true := List.any_eq_true.2 ⟨_, List.mem_of_getElem? Hm.out, by rw [← Hkk.out]; rfl⟩
        unfold ordOf
        rw [if_pos this]; rfl
      by_cases h3 : kk = 3
      · subst h3
        go_wp2_with (go_at_call 44; refine Hc.out.mono ?_; rintro e5 w5 ⟨rfl, k5⟩; have K5 := hid (Ekp.out.trans k5); clear k5)
        go_ret
        refine ⟨?_, K5.out⟩
        have : l.any (fun m => kindOf m == 1 || kindOf m == 3) = true := List.any_eq_true.2 ⟨_, List.mem_of_getElem? Hm.out, by rw [← Hkk.out]; rfl⟩
        unfold ordOf
        rw [if_pos this]; rfl
      have Hno2 := hid (show ∀ m ∈ l.take (i + 1), kindOf m ≠ 1 ∧ kindOf m ≠ 3 from fun m hm => by
        rw [take_more Hm.out] at hm
        rcases List.mem_append.1 hm with hm | hm
        · exact Hno.out m hm
        · rw [List.mem_singleton.1 hm, ← Hkk.out]; exact ⟨h1, h3⟩)
      by_cases h2 : kk = 2
      · subst h2
        go_wp2_with (go_at_call 44; refine Hc.out.mono ?_; rintro e5 w5 ⟨rfl, k5⟩; have K5 := hid (Ekp.out.trans k5); clear k5)
        go_roundw
        case rel => exact ⟨i + 1, Hlt.out, by go_num, Hno2.out, by rw [take_more Hm.out, List.any_append, if_pos]; simp [← Hkk.out], K5.out⟩
        case measure => have := Hlt.out; simp [intOf]; omega
      · have H2 := hid h2
        go_wp2_with (go_at_call 44; refine Hc.out.mono ?_; rintro e5 w5 ⟨rfl, k5⟩; have K5 := hid (Ekp.out.trans k5); clear k5)
        go_roundw
        case rel => exact ⟨i + 1, Hlt.out, by go_num, Hno2.out, by rw [Hr.out, take_more Hm.out, List.any_append]; simp [← Hkk.out, H2.out], K5.out⟩
        case measure => have := Hlt.out; simp [intOf]; omega
    · have hie : i = N := by omega
      subst hie
      clear hlt hi
      go_wp2
      go_ret
      refine ⟨?_, HK.out⟩
      have h1 := Hno.out
      have h2 := Hr.out
      rw [HN.out, List.take_length] at h1 h2
      unfold ordOf
      rw [if_neg, ← h2]
      · rfl
      · rw [Bool.not_eq_true, List.any_eq_false]
        intro m hm
        have := h1 m hm
        simp [this.1, this.2]
end Go.Proofs.YteibbnmlmbhkpaaDoor

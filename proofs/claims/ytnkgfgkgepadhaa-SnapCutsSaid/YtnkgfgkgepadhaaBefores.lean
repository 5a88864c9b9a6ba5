/-
  The walks of slices.Equal and Before.
-/
import Derived.Test.YtnkgfgkgepadhaaSame
namespace Go.Proofs.Ytnkgfgkgepadhaa
open Go.RowKit
set_option linter.unusedVariables false
set_option linter.unusedSimpArgs false
set_option maxHeartbeats 4000000
set_option maxRecDepth 100000

theorem take_succ_eq {la lb : List Int} {t : Nat} (h : la.take t = lb.take t) (ha : t < la.length) (hb : t < lb.length) (he : la.getD t 0 = lb.getD t 0) : la.take (t + 1) = lb.take (t + 1) := by
  rw [take_more (get_getD 0 ha), take_more (get_getD 0 hb), h, he]
theorem ne_of_getD {la lb : List Int} {t : Nat} (he : ¬ la.getD t 0 = lb.getD t 0) : decide (la = lb) = false := by
  simp only [decide_eq_false_iff_not]
  exact fun h => he (by rw [h])

theorem equal_any {F : MS} {la lb : List Int} {A B : Option Addr} {n k c d : Nat} {w : World} (ha : RdS F RT.int la (.slice A n c)) (hb : RdS F RT.int lb (.slice B k d)) (hH : Has w F) (hl : la.length ≤ 1000) :
    Calls Try.prog 78 #[.slice A n c, .slice B k d] w fun e w' => e = .returned (.bool (decide (la = lb))) ∧ (∀ M, Has w M → Has w' M) ∧ Ext w w' := by
  obtain ⟨rfl, _⟩ := ha.cells
  obtain ⟨rfl, _⟩ := hb.cells
  have Ha := hid ha
  have Hb := hid hb
  have HH := hid hH
  have lI : (la.length : Int) ≤ 1000 := by omega
  clear ha hb hH hl
  go_enter Try.func78, Try.ntmps78
  by_cases hlen : la.length = lb.length
  · have Hlen := hid hlen
    have hlenI : (la.length : Int) = lb.length := by omega
    clear hlen
    go_wp2
    go_loopw [13] (fun v wr => ∃ t : Nat, t ≤ la.length ∧ v = .int .i64 t ∧ la.take t = lb.take t ∧ (∃ X, Has wr (X + MS.all w)) ∧ Ext w wr) (fun v _ => la.length - (intOf v).toNat)
    case atStart => exact ⟨0, Nat.zero_le _, rfl, rfl, ⟨0, by rw [MS.zero_add]; exact Has.all w⟩, Ext.refl w⟩
    case round =>
      obtain ⟨t, ht, rfl, hpre, ⟨X, hX⟩, hE⟩ := hrel
      have Hpre := hid hpre
      have HX := hid hX
      have HE := hid hE
      have HF := hid (HH.out.of_all hX)
      clear hpre hX hE
      by_cases hlt : t < la.length
      · have hlb : t < lb.length := by rw [← Hlen.out]; exact hlt
        obtain ⟨b1, o1, hA1, e1⟩ := Ha.out.getInt (get_getD (l := la) (j := t) 0 hlt)
        obtain ⟨b2, o2, hA2, e2⟩ := Hb.out.getInt (get_getD (l := lb) (j := t) 0 hlb)
        subst hA1
        subst hA2
        have f1 := e1.c0 HF.out
        have f2 := e2.c0 HF.out
        have hltI : (t : Int) < la.length := by omega
        have hltJ : (t : Int) < lb.length := by omega
        have Hn := hid (take_succ_eq Hpre.out hlt hlb)
        have Hm := hid (ne_of_getD (la := la) (lb := lb) (t := t))
        have Hlt := hid hlt
        clear hlt hlb e1 e2
        generalize la.getD t 0 = x at *
        generalize lb.getD t 0 = y at *
        cases hq : (x == y) with
        | true =>
          obtain rfl := eq_of_beq hq
          go_wp2
          go_quiet (fail)
          go_wp2
          go_roundw
          case rel => exact ⟨t + 1, Hlt.out, by go_num, Hn.out (by first | rfl | trivial), ⟨X, HX.out.drewN _⟩, HE.out.trans (Ext.drewN _ _)⟩
          case measure => have := Hlt.out; simp [intOf]; omega
        | false =>
          have hne : ¬ x = y := fun h => by rw [h, beq_self_eq_true] at hq; cases hq
          go_wp2
          go_quiet (fail)
          go_wp2
          go_ret
          exact ⟨by rw [Hm.out hne]; rfl, fun M hM => (hM.of_all HX.out).drewN _, HE.out.trans (Ext.drewN _ _)⟩
      · have hte : t = la.length := by omega
        subst hte
        go_wp2
        go_ret
        have hh : la = lb := by
          have := Hpre.out
          rwa [List.take_length, Hlen.out, List.take_length] at this
        exact ⟨by rw [decide_eq_true hh]; rfl, fun M hM => hM.of_all HX.out, HE.out⟩
  · have hf : decide (la = lb) = false := by
      simp only [decide_eq_false_iff_not]
      exact fun h => hlen (by rw [h])
    have hlenI : ¬ (la.length : Int) = lb.length := by omega
    have Hf := hid hf
    clear hlen hf
    go_wp2
    go_ret
    exact ⟨by rw [Hf.out]; rfl, fun M hM => hM, Ext.refl w⟩
/-- Is a before b, by their clocks? -/
def bfB (a b : List Int) : Bool := decide (a.length = b.length) && (!decide (a = b) && (List.range a.length).all fun i => decide (a.getD i 0 ≤ b.getD i 0))
/-- An event as a value. -/
def EvV (F : MS) (x : Ev) (v : Value) : Prop := ∃ A c, v = .agg #[.int .i64 x.station, .int .i64 x.what, .int .i64 x.other, .int .i64 x.pieces, .slice A x.clock.length c] ∧ RdS F RT.int x.clock (.slice A x.clock.length c)
theorem Has.left' {w w' : World} {a b F : MS} (h : Has w' (a + (b + MS.all w))) (hF : Has w F) : Has w' F := hF.of_all (h.eq (MS.add_assoc _ _ _).symm)
theorem before_any {F : MS} {x y : Ev} {vx vy : Value} {w : World} (hx : EvV F x vx) (hy : EvV F y vy) (hH : Has w F) (hl : x.clock.length ≤ 1000) :
    Calls Try.prog 36 #[vx, vy] w fun e w' => e = .returned (.bool (bfB x.clock y.clock)) ∧ (∀ M, Has w M → Has w' M) ∧ Ext w w' := by
  obtain ⟨A, c, rfl, ha⟩ := hx
  obtain ⟨B, d, rfl, hb⟩ := hy
  have Ha := hid ha
  have Hb := hid hb
  have HH := hid hH
  have Hq := hid (show bfB x.clock y.clock = (decide (x.clock.length = y.clock.length) && (!decide (x.clock = y.clock) && (List.range x.clock.length).all fun i => decide (x.clock.getD i 0 ≤ y.clock.getD i 0))) from rfl)
  generalize bfB x.clock y.clock = q at *
  generalize x.clock = la at *
  generalize y.clock = lb at *
  have lI : (la.length : Int) ≤ 1000 := by omega
  have HL := hid hl
  clear ha hb hH hl
  obtain ⟨B1, hB1⟩ : ∃ B1 : Obj, B1 = .cells #[.int .i64 x.station, .int .i64 x.what, .int .i64 x.other, .int .i64 x.pieces, .slice A la.length c] 68 := ⟨_, rfl⟩
  obtain ⟨B2, hB2⟩ : ∃ B2 : Obj, B2 = .cells #[.int .i64 y.station, .int .i64 y.what, .int .i64 y.other, .int .i64 y.pieces, .slice B lb.length d] 68 := ⟨_, rfl⟩
  have hS : Has ((w.alloc B1).alloc B2) (pts (w.heap.size + 1) B2 + (pts w.heap.size B1 + MS.all w)) := by
    have := ((Has.all w).alloc B1).alloc B2
    rwa [show (w.alloc B1).heap.size = w.heap.size + 1 by simp] at this
  have hE : Ext w ((w.alloc B1).alloc B2) := (Ext.alloc _ _).trans (Ext.alloc _ _)
  have keep : ∀ (W : World) (X : MS), Has W (X + (pts (w.heap.size + 1) B2 + (pts w.heap.size B1 + MS.all w))) →
      W.cell? ⟨w.heap.size, 4, none⟩ = some (.slice A la.length c) ∧ W.cell? ⟨w.heap.size + 1, 4, none⟩ = some (.slice B lb.length d) ∧ w.heap.size < W.heap.size ∧ w.heap.size + 1 < W.heap.size := fun W X h => by
    have a1 := h.eq (b := pts (w.heap.size + 1) B2 + (X + (pts w.heap.size B1 + MS.all w))) (by ac_rfl)
    have a2 := h.eq (b := pts w.heap.size B1 + (X + (pts (w.heap.size + 1) B2 + MS.all w))) (by ac_rfl)
    subst hB1; subst hB2
    exact ⟨Has.at_ (cs := #[.int .i64 x.station, .int .i64 x.what, .int .i64 x.other, .int .i64 x.pieces, .slice A la.length c]) (e := 68) a2 rfl, Has.at_ (cs := #[.int .i64 y.station, .int .i64 y.what, .int .i64 y.other, .int .i64 y.pieces, .slice B lb.length d]) (e := 68) a1 rfl, a2.lt, a1.lt⟩
  have Keep := hid keep
  have HS := hid hS
  have HES := hid hE
  clear keep hS hE
  subst hB1
  subst hB2
  go_enter Try.func36, Try.ntmps36
  by_cases hlen : la.length = lb.length
  · have Hlen := hid hlen
    have hlenI : (la.length : Int) = lb.length := by omega
    clear hlen
    by_cases heq : la = lb
    · have hf := hid (show q = false by rw [Hq.out, decide_eq_true heq]; simp)
      have hd : decide (la = lb) = true := decide_eq_true heq
      clear heq
      go_wp2_with (go_at_call 78; refine (equal_any Ha.out Hb.out (HS.out.left' HH.out) HL.out).mono ?_; rintro e w1 ⟨rfl, k2, k3⟩; have K2 := hid (k2 _ HS.out); have K3 := hid (HES.out.trans k3); clear k2 k3; rw [hd])
      go_ret
      exact ⟨by rw [hf.out]; rfl, fun M hM => hM.of_all (K2.out.eq (MS.add_assoc _ _ _).symm), K3.out⟩
    · have hd : decide (la = lb) = false := decide_eq_false heq
      have Hd := hid hd
      clear heq
      go_wp2_with (go_at_call 78; refine (equal_any Ha.out Hb.out (HS.out.left' HH.out) HL.out).mono ?_; rintro e w1 ⟨rfl, k2, k3⟩; have K2 := hid (k2 _ HS.out); have K3 := hid (HES.out.trans k3); obtain ⟨c1, c2, c3, c4⟩ := Keep.out w1 0 (by rw [MS.zero_add]; exact k2 _ HS.out); clear k2 k3; rw [hd])
      clear c1 c2 c3 c4
      go_loopw [24] (fun v wr => ∃ t : Nat, t ≤ la.length ∧ v = .int .i64 t ∧ (List.range t).all (fun i => decide (la.getD i 0 ≤ lb.getD i 0)) = true ∧ (∃ X, Has wr (X + (pts (w.heap.size + 1) (.cells #[.int .i64 y.station, .int .i64 y.what, .int .i64 y.other, .int .i64 y.pieces, .slice B lb.length d] 68) + (pts w.heap.size (.cells #[.int .i64 x.station, .int .i64 x.what, .int .i64 x.other, .int .i64 x.pieces, .slice A la.length c] 68) + MS.all w)))) ∧ Ext w wr) (fun v _ => la.length - (intOf v).toNat)
      case atStart => exact ⟨0, Nat.zero_le _, rfl, rfl, ⟨0, by rw [MS.zero_add]; exact K2.out⟩, K3.out⟩
      case round =>
        obtain ⟨t, ht, rfl, hpre, ⟨X, hX⟩, hE⟩ := hrel
        have Hpre := hid hpre
        have HX := hid hX
        have HE := hid hE
        have HF := hid (HH.out.of_all (hX.eq (b := (X + (pts (w.heap.size + 1) _ + pts w.heap.size _)) + MS.all w) (by ac_rfl)))
        have HA := hid (show ∀ M, Has w M → Has wr M from fun M hM => hM.of_all (hX.eq (b := (X + (pts (w.heap.size + 1) _ + pts w.heap.size _)) + MS.all w) (by ac_rfl)))
        obtain ⟨c1, c2, c3, c4⟩ := Keep.out wr X hX
        clear hpre hX hE
        by_cases hlt : t < la.length
        · have hlb : t < lb.length := by rw [← Hlen.out]; exact hlt
          obtain ⟨b1, o1, hA1, e1⟩ := Ha.out.getInt (get_getD (l := la) (j := t) 0 hlt)
          obtain ⟨b2, o2, hA2, e2⟩ := Hb.out.getInt (get_getD (l := lb) (j := t) 0 hlb)
          subst hA1
          subst hA2
          have f1 := e1.c0 HF.out
          have f2 := e2.c0 HF.out
          have hltI : (t : Int) < la.length := by omega
          have hltJ : (t : Int) < lb.length := by omega
          have Hlt := hid hlt
          have Hn := hid (all_range_succ (fun i => decide (la.getD i 0 ≤ lb.getD i 0)) t)
          have Hm := hid (all_range_false (p := fun i => decide (la.getD i 0 ≤ lb.getD i 0)) (i := t) hlt)
          clear hlt hlb e1 e2
          by_cases hq : la.getD t 0 ≤ lb.getD t 0
          · have Hq2 := hid hq
            generalize hx1 : la.getD t 0 = x1 at f1 hq
            generalize hx2 : lb.getD t 0 = x2 at f2 hq
            clear hx1 hx2
            go_wp2
            go_roundw
            case rel => exact ⟨t + 1, Hlt.out, by go_num, by rw [Hn.out, Hpre.out, decide_eq_true Hq2.out]; rfl, ⟨X, HX.out⟩, HE.out⟩
            case measure => have := Hlt.out; simp [intOf]; omega
          · have hf := hid (show q = false by rw [Hq.out, Hm.out (decide_eq_false hq), Bool.and_false, Bool.and_false])
            generalize hx1 : la.getD t 0 = x1 at f1 hq
            generalize hx2 : lb.getD t 0 = x2 at f2 hq
            clear hx1 hx2
            go_wp2
            go_ret
            exact ⟨by rw [hf.out]; rfl, HA.out, HE.out⟩
        · have hte : t = la.length := by omega
          subst hte
          go_wp2
          go_ret
          exact ⟨by rw [Hq.out, Hpre.out, Hd.out, Hlen.out]; simp, HA.out, HE.out⟩
  · have hf := hid (show q = false by rw [Hq.out, decide_eq_false hlen]; rfl)
    have hlenI : ¬ (la.length : Int) = lb.length := by omega
    clear hlen
    go_wp2
    go_ret
    exact ⟨by rw [hf.out]; rfl, fun M hM => hM.of_all (HS.out.eq (MS.add_assoc _ _ _).symm), HES.out⟩
end Go.Proofs.Ytnkgfgkgepadhaa

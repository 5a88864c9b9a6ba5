/-
  The walk of the reference's Before.
-/
import Derived.Test.YtnkgfgkgepadhaaCutW1
namespace Go.Proofs.Ytnkgfgkgepadhaa
open Go.RowKit
set_option linter.unusedVariables false
set_option linter.unusedSimpArgs false
set_option maxHeartbeats 4000000
set_option maxRecDepth 100000

def ltAny (la lb : List Int) (t : Nat) : Bool := (List.range t).any fun i => decide (la.getD i 0 < lb.getD i 0)
theorem ltAny_succ (la lb : List Int) (t : Nat) : ltAny la lb (t + 1) = (ltAny la lb t || decide (la.getD t 0 < lb.getD t 0)) := by
  unfold ltAny; rw [List.range_succ, List.any_append]; simp
theorem lt_any_ne {la lb : List Int} (hl : la.length = lb.length) (h : ((List.range la.length).all fun i => decide (la.getD i 0 ≤ lb.getD i 0)) = true) : ltAny la lb la.length = !decide (la = lb) := by
  simp only [List.all_eq_true, List.mem_range, decide_eq_true_eq] at h
  by_cases he : la = lb
  · subst he
    rw [decide_eq_true rfl]
    unfold ltAny
    rw [List.any_eq_false.2 (fun i _ => by simp)]
    rfl
  · rw [decide_eq_false he]
    cases hc : ltAny la lb la.length with
    | true => rfl
    | false =>
      exfalso
      apply he
      unfold ltAny at hc
      rw [List.any_eq_false] at hc
      refine List.ext_getElem hl fun i h1 h2 => ?_
      have h3 := h i h1
      have h4 := hc i (List.mem_range.2 h1)
      simp only [decide_eq_true_eq] at h4
      simp only [List.getD, List.getElem?_eq_getElem h1, List.getElem?_eq_getElem h2, Option.getD_some] at h3 h4
      omega
theorem rbefore_any {F : MS} {x y : Ev} {vx vy : Value} {w : World} (hx : EvV F x vx) (hy : EvV F y vy) (hH : Has w F) (hl : x.clock.length ≤ 1000) :
    Calls Try.prog 41 #[vx, vy] w fun e w' => e = .returned (.bool (bfB x.clock y.clock)) ∧ Kp w w' := by
  obtain ⟨A, c, rfl, ha⟩ := hx
  obtain ⟨B, d, rfl, hb⟩ := hy
  obtain ⟨_, _, hb2, _⟩ := hb.cells
  have lJ : (y.clock.length : Int) ≤ 9223372036854775807 := by unfold maxLen at hb2; omega
  have Ha := hid ha
  have Hb := hid hb
  have HH := hid hH
  have Hq := hid (show bfB x.clock y.clock = (decide (x.clock.length = y.clock.length) && (!decide (x.clock = y.clock) && (List.range x.clock.length).all fun i => decide (x.clock.getD i 0 ≤ y.clock.getD i 0))) from rfl)
  generalize bfB x.clock y.clock = q at *
  generalize x.clock = la at *
  generalize y.clock = lb at *
  have lI : (la.length : Int) ≤ 1000 := by omega
  have HL := hid hl
  clear ha hb hH hl hb2
  obtain ⟨B1, hB1⟩ : ∃ B1 : Obj, B1 = .cells #[.int .i64 x.station, .int .i64 x.what, .int .i64 x.other, .int .i64 x.pieces, .slice A la.length c] 68 := ⟨_, rfl⟩
  obtain ⟨B2, hB2⟩ : ∃ B2 : Obj, B2 = .cells #[.int .i64 y.station, .int .i64 y.what, .int .i64 y.other, .int .i64 y.pieces, .slice B lb.length d] 68 := ⟨_, rfl⟩
  have hS : Has ((w.alloc B1).alloc B2) (pts (w.heap.size + 1) B2 + (pts w.heap.size B1 + MS.all w)) := by
    have := ((Has.all w).alloc B1).alloc B2
    rwa [show (w.alloc B1).heap.size = w.heap.size + 1 by simp] at this
  have hE : Ext w ((w.alloc B1).alloc B2) := (Ext.alloc _ _).trans (Ext.alloc _ _)
  have keep : ∀ (W : World) (X : MS), Has W (X + (pts (w.heap.size + 1) B2 + (pts w.heap.size B1 + MS.all w))) →
      W.cell? ⟨w.heap.size, 4, none⟩ = some (.slice A la.length c) ∧ W.cell? ⟨w.heap.size + 1, 4, none⟩ = some (.slice B lb.length d) ∧ w.heap.size < W.heap.size ∧ w.heap.size + 1 < W.heap.size := fun W X h => by
    have a1 := h.eq (b := pts (w.heap.size + 1) B2 + (X + (pts w.heap.size B1 + MS.all w))) (by ac_rfl)
    have a2 := h.eq (b := pts w.heap.size B1 + (X + (pts (w.heap.size + 1) B2 + MS.all w))) (by ac_rfl)
    subst hB1; subst hB2
    exact ⟨Has.at_ (cs := #[.int .i64 x.station, .int .i64 x.what, .int .i64 x.other, .int .i64 x.pieces, .slice A la.length c]) (e := 68) a2 rfl, Has.at_ (cs := #[.int .i64 y.station, .int .i64 y.what, .int .i64 y.other, .int .i64 y.pieces, .slice B lb.length d]) (e := 68) a1 rfl, a2.lt, a1.lt⟩
  obtain ⟨Y, hY⟩ : ∃ Y, Y = pts (w.heap.size + 1) B2 + pts w.heap.size B1 := ⟨_, rfl⟩
  have hS' : Has ((w.alloc B1).alloc B2) (Y + MS.all w) := hS.eq (by rw [hY]; ac_rfl)
  have keep' : ∀ (W : World), Has W (Y + MS.all w) → W.cell? ⟨w.heap.size, 4, none⟩ = some (.slice A la.length c) ∧ W.cell? ⟨w.heap.size + 1, 4, none⟩ = some (.slice B lb.length d) ∧ w.heap.size < W.heap.size ∧ w.heap.size + 1 < W.heap.size := fun W h => keep W 0 (h.eq (by rw [hY, MS.zero_add]; ac_rfl))
  have Keep := hid keep'
  have HS := hid hS'
  have HES := hid hE
  clear keep hS hE hS' keep' hY
  subst hB1
  subst hB2
  obtain ⟨c1, c2, c3, c4⟩ := Keep.out _ HS.out
  go_enter Try.func41, Try.ntmps41
  by_cases hlen : la.length = lb.length
  · have Hlen := hid hlen
    have hlenI : (la.length : Int) = lb.length := by omega
    clear hlen
    go_wp2
    clear c1 c2 c3 c4
    go_loopw [5, 6] (fun v5 v wr => ∃ t : Nat, t ≤ la.length ∧ v = .int .i64 t ∧ v5 = .bool (ltAny la lb t) ∧ (List.range t).all (fun i => decide (la.getD i 0 ≤ lb.getD i 0)) = true ∧ Has wr (Y + MS.all w) ∧ Ext w wr) (fun _ v _ => la.length - (intOf v).toNat)
    case atStart => exact ⟨0, Nat.zero_le _, rfl, rfl, rfl, HS.out, HES.out⟩
    case round =>
      obtain ⟨t, ht, rfl, rfl, hpre, hX, hE⟩ := hrel
      have Hpre := hid hpre
      have HX := hid hX
      have HE := hid hE
      have HF := hid (HH.out.of_all hX)
      have HK := hid (show Kp w wr from ⟨fun M hM => hM.of_all hX, hE⟩)
      obtain ⟨c1, c2, c3, c4⟩ := Keep.out wr hX
      clear hpre hX hE
      by_cases hlt : t < la.length
      · have hlb : t < lb.length := by rw [← Hlen.out]; exact hlt
        obtain ⟨b1, o1, hA1, e1⟩ := Ha.out.getInt (get_getD (l := la) (j := t) 0 hlt)
        obtain ⟨b2, o2, hA2, e2⟩ := Hb.out.getInt (get_getD (l := lb) (j := t) 0 hlb)
        subst hA1
        subst hA2
        have f1 := e1.c0 HF.out
        have f2 := e2.c0 HF.out
        have hltI : (t : Int) < la.length := by omega
        have hltJ : (t : Int) < lb.length := by omega
        have Hlt := hid hlt
        have Hn := hid (all_range_succ (fun i => decide (la.getD i 0 ≤ lb.getD i 0)) t)
        have Hm := hid (all_range_false (p := fun i => decide (la.getD i 0 ≤ lb.getD i 0)) (i := t) hlt)
        have Hl := hid (ltAny_succ la lb t)
        clear hlt hlb e1 e2
        by_cases hq : la.getD t 0 ≤ lb.getD t 0
        · have Hq2 := hid hq
          generalize hx1 : la.getD t 0 = x1 at f1 hq Hl
          generalize hx2 : lb.getD t 0 = x2 at f2 hq Hl
          clear hx1 hx2
          have hq' : ¬ x2 < x1 := by omega
          cases hla : ltAny la lb t with
          | true =>
            rw [hla] at Hl
            clear hq
            go_wp2
            go_quiet (fail)
            go_wp2
            go_quiet (fail)
            go_wp2
            go_roundw
            case rel => exact ⟨t + 1, Hlt.out, by go_num, by rw [Hl.out]; rfl, by rw [Hn.out, Hpre.out, decide_eq_true Hq2.out]; rfl, HX.out.drewN _, HE.out.trans (Ext.drewN _ _)⟩
            case measure => have := Hlt.out; simp [intOf]; omega
          | false =>
            rw [hla] at Hl
            clear hq
            go_wp2
            go_quiet (fail)
            go_wp2
            go_quiet (fail)
            go_wp2
            go_roundw
            case rel => exact ⟨t + 1, Hlt.out, by go_num, by rw [Hl.out]; rfl, by rw [Hn.out, Hpre.out, decide_eq_true Hq2.out]; rfl, HX.out.drewN _, HE.out.trans (Ext.drewN _ _)⟩
            case measure => have := Hlt.out; simp [intOf]; omega
        · have hf := hid (show q = false by rw [Hq.out, Hm.out (decide_eq_false hq), Bool.and_false, Bool.and_false])
          generalize hx1 : la.getD t 0 = x1 at f1 hq
          generalize hx2 : lb.getD t 0 = x2 at f2 hq
          clear hx1 hx2
          have hq' : x2 < x1 := by omega
          clear hq
          go_wp2
          go_quiet (fail)
          go_wp2
          go_ret
          exact ⟨by rw [hf.out]; rfl, HK.out.drewN _⟩
      · have hte : t = la.length := by omega
        subst hte
        have hres := hid (show ltAny la lb la.length = q by rw [lt_any_ne Hlen.out Hpre.out, Hq.out, Hpre.out, decide_eq_true Hlen.out]; simp)
        clear hlt
        rw [hres.out]
        go_wp2
        go_ret
        exact ⟨rfl, HK.out⟩
  · have hf := hid (show q = false by rw [Hq.out, decide_eq_false hlen]; rfl)
    have hne : ¬ (la.length : Int) = lb.length := by omega
    have HK := hid (show Kp w ((w.alloc (.cells #[.int .i64 x.station, .int .i64 x.what, .int .i64 x.other, .int .i64 x.pieces, .slice A la.length c] 68)).alloc (.cells #[.int .i64 y.station, .int .i64 y.what, .int .i64 y.other, .int .i64 y.pieces, .slice B lb.length d] 68)) from ⟨fun M hM => hM.of_all HS.out, HES.out⟩)
    clear hlen
    go_wp2
    go_ret
    exact ⟨by rw [hf.out]; rfl, HK.out⟩
end Go.Proofs.Ytnkgfgkgepadhaa

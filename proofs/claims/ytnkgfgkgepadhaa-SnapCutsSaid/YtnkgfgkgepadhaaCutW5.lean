/-
  The walk of the reference's Events. The walk of the reference's Holds. The walks of the reference's Consistent and Cuts.
-/
import Derived.Test.YtnkgfgkgepadhaaCutW1
import Derived.Test.YtnkgfgkgepadhaaHistC
namespace Go.Proofs.Ytnkgfgkgepadhaa
open Go.RowKit
set_option linter.unusedVariables false
set_option linter.unusedSimpArgs false
set_option maxHeartbeats 4000000
set_option maxRecDepth 100000

def evOkI (n : Int) (l : List Ev) (i : Nat) : Bool := !decide (evBad n (l.getD i dfEv)) && !((l.getD i dfEv).what == 3 && decide (mateI l i < 0))
theorem mateI_ge (l : List Ev) (i : Nat) : -1 ≤ mateI l i := by unfold mateI; split <;> omega
/-- The errors of events. -/
def evErr (n : Int) (l : List Ev) : Int := if n < 2 ∨ 5 < n then 2 else if 60 < l.length then 3 else if (List.range l.length).all (evOkI n l) = true then 0 else 2
theorem events_err {F : MS} {n : Int} {l : List Ev} {A : Option Addr} {k c : Nat} {w : World} (hr : RdS F RT.ev l (.slice A k c)) (hH : Has w F) :
    Calls Try.prog 42 #[.int .i64 n, .slice A k c] w fun e w' => e = .returned (.int .i64 (evErr n l)) ∧ Kp w w' := by
  obtain ⟨rfl, hc1, hc2, _⟩ := hr.cells
  have lM : (l.length : Int) ≤ 9223372036854775807 := by unfold maxLen at hc2; omega
  clear hc1 hc2
  by_cases h2 : n < 2
  · have hq := hid (show evErr n l = 2 by unfold evErr; rw [if_pos (.inl h2)])
    clear hr hH
    go_enter Try.func42, Try.ntmps42
    go_wp2
    go_ret
    exact ⟨by rw [hq.out]; rfl, Kp.refl w⟩
  by_cases h5 : 5 < n
  · have hq := hid (show evErr n l = 2 by unfold evErr; rw [if_pos (.inr h5)])
    clear hr hH
    go_enter Try.func42, Try.ntmps42
    go_wp2
    go_ret
    exact ⟨by rw [hq.out]; rfl, Kp.refl w⟩
  by_cases h60 : 60 < l.length
  · have hq := hid (show evErr n l = 3 by unfold evErr; rw [if_neg (by omega), if_pos h60])
    have h60I : (60 : Int) < l.length := by omega
    clear hr hH h60
    go_enter Try.func42, Try.ntmps42
    go_wp2
    go_ret
    exact ⟨by rw [hq.out]; rfl, Kp.refl w⟩
  have Hr := hid hr
  have HH := hid hH
  have l60 : ¬ (60 : Int) < l.length := by omega
  have L60 := hid h60
  have Hq := hid (show evErr n l = if (List.range l.length).all (evOkI n l) = true then 0 else 2 by unfold evErr; rw [if_neg (by omega), if_neg h60])
  obtain ⟨q, hqq⟩ : ∃ q, q = evErr n l := ⟨_, rfl⟩
  rw [← hqq] at Hq ⊢
  clear hr hH h60 hqq
  go_enter Try.func42, Try.ntmps42
  go_wp2
  go_loopw [5] (fun v wq => ∃ i : Nat, i ≤ l.length ∧ v = .int .i64 i ∧ (List.range i).all (evOkI n l) = true ∧ (∃ X, Has wq (X + MS.all w)) ∧ Ext w wq) (fun v _ => l.length - (intOf v).toNat)
  case atStart => exact ⟨0, Nat.zero_le _, rfl, rfl, ⟨0, by rw [MS.zero_add]; exact Has.all w⟩, Ext.refl w⟩
  case round =>
    obtain ⟨i, hi, rfl, hall, ⟨X, hX⟩, hE⟩ := hrel
    have Hall := hid hall
    have HX := hid hX
    have HE := hid hE
    clear hall hX hE
    by_cases hlt : i < l.length
    · have hltI : (i : Int) < l.length := by omega
      have hi0 : (0 : Int) ≤ (i : Int) := by omega
      obtain ⟨v, hv⟩ : ∃ v, l[i]? = some v := ⟨_, List.getElem?_eq_getElem hlt⟩
      have hvg : l.getD i dfEv = v := by simp [List.getD, hv]
      obtain ⟨b1, o1, Ak, ck, hA2, e0, e1, e2, e3, e4, _⟩ := Hr.out.getEv hv
      subst hA2
      have hHF := HH.out.of_all HX.out
      have f0 := e0.c0 hHF
      have f1 := e1.c0 hHF
      have f2 := e2.c0 hHF
      have f3 := e3.c0 hHF
      have f4 := e4.c0 hHF
      have Hn := hid (all_range_succ (evOkI n l) i)
      have Hm := hid (all_range_false (p := evOkI n l) (i := i) hlt)
      have Ho := hid (show evOkI n l i = (!decide (evBad n v) && !(v.what == 3 && decide (mateI l i < 0))) by unfold evOkI; rw [hvg])
      have Hbad := hid (show evBad n v ↔ (v.station < 0 ∨ n ≤ v.station ∨ v.other < 0 ∨ n ≤ v.other ∨ v.what < 1 ∨ 3 < v.what) from Iff.rfl)
      obtain ⟨bad, hbad⟩ : ∃ p : Prop, p = evBad n v := ⟨_, rfl⟩
      obtain ⟨st, hst⟩ : ∃ a, a = v.station := ⟨_, rfl⟩
      obtain ⟨wh, hwh⟩ : ∃ a, a = v.what := ⟨_, rfl⟩
      obtain ⟨ot, hot⟩ : ∃ a, a = v.other := ⟨_, rfl⟩
      obtain ⟨pc, hpc⟩ : ∃ a, a = v.pieces := ⟨_, rfl⟩
      obtain ⟨nk, hnk⟩ : ∃ a, a = v.clock.length := ⟨_, rfl⟩
      rw [← hst] at f0 Hbad
      rw [← hwh] at f1 Hbad Ho
      rw [← hot] at f2 Hbad
      rw [← hpc] at f3
      rw [← hnk] at f4
      have Hlt := hid hlt
      clear e0 e1 e2 e3 e4 hv hvg hHF hst hwh hot hpc hnk hlt hbad
      have HA := hid (HX.out.alloc (.cells #[.int .i64 0, .int .i64 0, .int .i64 0, .int .i64 0, .slice none 0 0] 68))
      by_cases hc : st < 0
      · have hq := hid (show q = 2 by rw [Hq.out, Hm.out (by rw [Ho.out, decide_eq_true (Hbad.out.2 (.inl hc))]; rfl), if_neg (by decide)])
        go_wp2_with (refine wpList_store_whole rfl (.tmp 6) (.tmp 25) 68 rfl 5 size68q wr.heap.size (.agg #[.int .i64 st, .int .i64 wh, .int .i64 ot, .int .i64 pc, .slice Ak nk ck]) rfl rfl rfl (by simp [Value.cells, Value.oneCell']) #[.int .i64 0, .int .i64 0, .int .i64 0, .int .i64 0, .slice none 0 0] 68 _ HA.out rfl ?_; intro w5 k1 k2; have J1 := hid (show Has w5 (blk wr.heap.size #[.int .i64 st, .int .i64 wh, .int .i64 ot, .int .i64 pc, .slice Ak nk ck] 68 + _) from k1); have J2 := hid ((HE.out.trans (Ext.alloc _ _)).trans k2); have g0 := J1.out.at_ (i := 0) rfl; have g1 := J1.out.at_ (i := 1) rfl; have g2 := J1.out.at_ (i := 2) rfl; clear k1 k2)
        go_ret
        exact ⟨by rw [hq.out]; rfl, fun M hM => hM.of_all (J1.out.eq (b := (blk wr.heap.size #[.int .i64 st, .int .i64 wh, .int .i64 ot, .int .i64 pc, .slice Ak nk ck] 68 + X) + MS.all w) (by ac_rfl)), J2.out⟩
      have c0 := hc
      clear hc
      by_cases hc : n ≤ st
      · have hq := hid (show q = 2 by rw [Hq.out, Hm.out (by rw [Ho.out, decide_eq_true (Hbad.out.2 (.inr (.inl hc)))]; rfl), if_neg (by decide)])
        go_wp2_with (refine wpList_store_whole rfl (.tmp 6) (.tmp 25) 68 rfl 5 size68q wr.heap.size (.agg #[.int .i64 st, .int .i64 wh, .int .i64 ot, .int .i64 pc, .slice Ak nk ck]) rfl rfl rfl (by simp [Value.cells, Value.oneCell']) #[.int .i64 0, .int .i64 0, .int .i64 0, .int .i64 0, .slice none 0 0] 68 _ HA.out rfl ?_; intro w5 k1 k2; have J1 := hid (show Has w5 (blk wr.heap.size #[.int .i64 st, .int .i64 wh, .int .i64 ot, .int .i64 pc, .slice Ak nk ck] 68 + _) from k1); have J2 := hid ((HE.out.trans (Ext.alloc _ _)).trans k2); have g0 := J1.out.at_ (i := 0) rfl; have g1 := J1.out.at_ (i := 1) rfl; have g2 := J1.out.at_ (i := 2) rfl; clear k1 k2)
        go_ret
        exact ⟨by rw [hq.out]; rfl, fun M hM => hM.of_all (J1.out.eq (b := (blk wr.heap.size #[.int .i64 st, .int .i64 wh, .int .i64 ot, .int .i64 pc, .slice Ak nk ck] 68 + X) + MS.all w) (by ac_rfl)), J2.out⟩
      have c1 := hc
      clear hc
      by_cases hc : ot < 0
      · have hq := hid (show q = 2 by rw [Hq.out, Hm.out (by rw [Ho.out, decide_eq_true (Hbad.out.2 (.inr (.inr (.inl hc))))]; rfl), if_neg (by decide)])
        go_wp2_with (refine wpList_store_whole rfl (.tmp 6) (.tmp 25) 68 rfl 5 size68q wr.heap.size (.agg #[.int .i64 st, .int .i64 wh, .int .i64 ot, .int .i64 pc, .slice Ak nk ck]) rfl rfl rfl (by simp [Value.cells, Value.oneCell']) #[.int .i64 0, .int .i64 0, .int .i64 0, .int .i64 0, .slice none 0 0] 68 _ HA.out rfl ?_; intro w5 k1 k2; have J1 := hid (show Has w5 (blk wr.heap.size #[.int .i64 st, .int .i64 wh, .int .i64 ot, .int .i64 pc, .slice Ak nk ck] 68 + _) from k1); have J2 := hid ((HE.out.trans (Ext.alloc _ _)).trans k2); have g0 := J1.out.at_ (i := 0) rfl; have g1 := J1.out.at_ (i := 1) rfl; have g2 := J1.out.at_ (i := 2) rfl; clear k1 k2)
        go_ret
        exact ⟨by rw [hq.out]; rfl, fun M hM => hM.of_all (J1.out.eq (b := (blk wr.heap.size #[.int .i64 st, .int .i64 wh, .int .i64 ot, .int .i64 pc, .slice Ak nk ck] 68 + X) + MS.all w) (by ac_rfl)), J2.out⟩
      have c2 := hc
      clear hc
      by_cases hc : n ≤ ot
      · have hq := hid (show q = 2 by rw [Hq.out, Hm.out (by rw [Ho.out, decide_eq_true (Hbad.out.2 (.inr (.inr (.inr (.inl hc)))))]; rfl), if_neg (by decide)])
        go_wp2_with (refine wpList_store_whole rfl (.tmp 6) (.tmp 25) 68 rfl 5 size68q wr.heap.size (.agg #[.int .i64 st, .int .i64 wh, .int .i64 ot, .int .i64 pc, .slice Ak nk ck]) rfl rfl rfl (by simp [Value.cells, Value.oneCell']) #[.int .i64 0, .int .i64 0, .int .i64 0, .int .i64 0, .slice none 0 0] 68 _ HA.out rfl ?_; intro w5 k1 k2; have J1 := hid (show Has w5 (blk wr.heap.size #[.int .i64 st, .int .i64 wh, .int .i64 ot, .int .i64 pc, .slice Ak nk ck] 68 + _) from k1); have J2 := hid ((HE.out.trans (Ext.alloc _ _)).trans k2); have g0 := J1.out.at_ (i := 0) rfl; have g1 := J1.out.at_ (i := 1) rfl; have g2 := J1.out.at_ (i := 2) rfl; clear k1 k2)
        go_ret
        exact ⟨by rw [hq.out]; rfl, fun M hM => hM.of_all (J1.out.eq (b := (blk wr.heap.size #[.int .i64 st, .int .i64 wh, .int .i64 ot, .int .i64 pc, .slice Ak nk ck] 68 + X) + MS.all w) (by ac_rfl)), J2.out⟩
      have c3 := hc
      clear hc
      by_cases hc : wh < 1
      · have hq := hid (show q = 2 by rw [Hq.out, Hm.out (by rw [Ho.out, decide_eq_true (Hbad.out.2 (.inr (.inr (.inr (.inr (.inl hc))))))]; rfl), if_neg (by decide)])
        go_wp2_with (refine wpList_store_whole rfl (.tmp 6) (.tmp 25) 68 rfl 5 size68q wr.heap.size (.agg #[.int .i64 st, .int .i64 wh, .int .i64 ot, .int .i64 pc, .slice Ak nk ck]) rfl rfl rfl (by simp [Value.cells, Value.oneCell']) #[.int .i64 0, .int .i64 0, .int .i64 0, .int .i64 0, .slice none 0 0] 68 _ HA.out rfl ?_; intro w5 k1 k2; have J1 := hid (show Has w5 (blk wr.heap.size #[.int .i64 st, .int .i64 wh, .int .i64 ot, .int .i64 pc, .slice Ak nk ck] 68 + _) from k1); have J2 := hid ((HE.out.trans (Ext.alloc _ _)).trans k2); have g0 := J1.out.at_ (i := 0) rfl; have g1 := J1.out.at_ (i := 1) rfl; have g2 := J1.out.at_ (i := 2) rfl; clear k1 k2)
        go_ret
        exact ⟨by rw [hq.out]; rfl, fun M hM => hM.of_all (J1.out.eq (b := (blk wr.heap.size #[.int .i64 st, .int .i64 wh, .int .i64 ot, .int .i64 pc, .slice Ak nk ck] 68 + X) + MS.all w) (by ac_rfl)), J2.out⟩
      have c4 := hc
      clear hc
      by_cases hc : 3 < wh
      · have hq := hid (show q = 2 by rw [Hq.out, Hm.out (by rw [Ho.out, decide_eq_true (Hbad.out.2 (.inr (.inr (.inr (.inr (.inr (hc)))))))]; rfl), if_neg (by decide)])
        go_wp2_with (refine wpList_store_whole rfl (.tmp 6) (.tmp 25) 68 rfl 5 size68q wr.heap.size (.agg #[.int .i64 st, .int .i64 wh, .int .i64 ot, .int .i64 pc, .slice Ak nk ck]) rfl rfl rfl (by simp [Value.cells, Value.oneCell']) #[.int .i64 0, .int .i64 0, .int .i64 0, .int .i64 0, .slice none 0 0] 68 _ HA.out rfl ?_; intro w5 k1 k2; have J1 := hid (show Has w5 (blk wr.heap.size #[.int .i64 st, .int .i64 wh, .int .i64 ot, .int .i64 pc, .slice Ak nk ck] 68 + _) from k1); have J2 := hid ((HE.out.trans (Ext.alloc _ _)).trans k2); have g0 := J1.out.at_ (i := 0) rfl; have g1 := J1.out.at_ (i := 1) rfl; have g2 := J1.out.at_ (i := 2) rfl; clear k1 k2)
        go_ret
        exact ⟨by rw [hq.out]; rfl, fun M hM => hM.of_all (J1.out.eq (b := (blk wr.heap.size #[.int .i64 st, .int .i64 wh, .int .i64 ot, .int .i64 pc, .slice Ak nk ck] 68 + X) + MS.all w) (by ac_rfl)), J2.out⟩
      have c5 := hc
      clear hc
      have Hgood := hid (show decide (evBad n v) = false from decide_eq_false (fun h => by
        have := Hbad.out.1 h
        omega))
      by_cases hw3 : wh = 3
      · have Hmt := hid (mateI_ge l i)
        obtain ⟨mt, hmt⟩ : ∃ m, m = mateI l i := ⟨_, rfl⟩
        have Hmc := hid (fun (W : World) (hW : Has W F) => mate_any Hr.out hW (by have := L60.out; omega) Hlt.out)
        rw [← hmt] at Hmc Ho Hmt
        subst hw3
        clear hmt
        by_cases hneg : mt < 0
        · have hq := hid (show q = 2 by rw [Hq.out, Hm.out (by rw [Ho.out, decide_eq_true hneg, beq_self_eq_true]; simp), if_neg (by decide)])
          go_wp2_with (first
            | (refine wpList_store_whole rfl (.tmp 6) (.tmp 25) 68 rfl 5 size68q wr.heap.size (.agg #[.int .i64 st, .int .i64 3, .int .i64 ot, .int .i64 pc, .slice Ak nk ck]) rfl rfl rfl (by simp [Value.cells, Value.oneCell']) #[.int .i64 0, .int .i64 0, .int .i64 0, .int .i64 0, .slice none 0 0] 68 _ HA.out rfl ?_; intro w5 k1 k2; have J1 := hid (show Has w5 (blk wr.heap.size #[.int .i64 st, .int .i64 3, .int .i64 ot, .int .i64 pc, .slice Ak nk ck] 68 + _) from k1); have J2 := hid ((HE.out.trans (Ext.alloc _ _)).trans k2); have g0 := J1.out.at_ (i := 0) rfl; have g1 := J1.out.at_ (i := 1) rfl; have g2 := J1.out.at_ (i := 2) rfl; clear k1 k2; have HX5 := hid (J1.out.eq (b := (blk wr.heap.size #[.int .i64 st, .int .i64 3, .int .i64 ot, .int .i64 pc, .slice Ak nk ck] 68 + X) + MS.all w) (by ac_rfl)))
            | (go_at_call 82; refine (Hmc.out _ (HH.out.of_all HX5.out)).mono ?_; rintro e w6 ⟨rfl, m6, rfl⟩; have K6 := hid ((Kp.refl w5).drewN m6)))
          go_ret
          exact ⟨by rw [hq.out]; rfl, Kp.trans ⟨fun M hM => hM.of_all HX5.out, J2.out⟩ K6.out⟩
        · have hok := hid (show evOkI n l i = true by rw [Ho.out, Hgood.out, decide_eq_false hneg]; simp)
          go_wp2_with (first
            | (refine wpList_store_whole rfl (.tmp 6) (.tmp 25) 68 rfl 5 size68q wr.heap.size (.agg #[.int .i64 st, .int .i64 3, .int .i64 ot, .int .i64 pc, .slice Ak nk ck]) rfl rfl rfl (by simp [Value.cells, Value.oneCell']) #[.int .i64 0, .int .i64 0, .int .i64 0, .int .i64 0, .slice none 0 0] 68 _ HA.out rfl ?_; intro w5 k1 k2; have J1 := hid (show Has w5 (blk wr.heap.size #[.int .i64 st, .int .i64 3, .int .i64 ot, .int .i64 pc, .slice Ak nk ck] 68 + _) from k1); have J2 := hid ((HE.out.trans (Ext.alloc _ _)).trans k2); have g0 := J1.out.at_ (i := 0) rfl; have g1 := J1.out.at_ (i := 1) rfl; have g2 := J1.out.at_ (i := 2) rfl; clear k1 k2; have HX5 := hid (J1.out.eq (b := (blk wr.heap.size #[.int .i64 st, .int .i64 3, .int .i64 ot, .int .i64 pc, .slice Ak nk ck] 68 + X) + MS.all w) (by ac_rfl)))
            | (go_at_call 82; refine (Hmc.out _ (HH.out.of_all HX5.out)).mono ?_; rintro e w6 ⟨rfl, m6, rfl⟩; have K6 := hid ((Kp.refl w5).drewN m6)))
          go_roundw
          case rel => exact ⟨i + 1, Hlt.out, by go_num, by rw [Hn.out, Hall.out, hok.out]; rfl, ⟨_, K6.out.1 _ HX5.out⟩, J2.out.trans K6.out.2⟩
          case measure => have := Hlt.out; simp [intOf]; omega
      · have h3 : (wh == 3) = false := by simp [hw3]
        have hok := hid (show evOkI n l i = true by rw [Ho.out, Hgood.out, h3]; simp)
        clear hw3
        go_wp2_with (refine wpList_store_whole rfl (.tmp 6) (.tmp 25) 68 rfl 5 size68q wr.heap.size (.agg #[.int .i64 st, .int .i64 wh, .int .i64 ot, .int .i64 pc, .slice Ak nk ck]) rfl rfl rfl (by simp [Value.cells, Value.oneCell']) #[.int .i64 0, .int .i64 0, .int .i64 0, .int .i64 0, .slice none 0 0] 68 _ HA.out rfl ?_; intro w5 k1 k2; have J1 := hid (show Has w5 (blk wr.heap.size #[.int .i64 st, .int .i64 wh, .int .i64 ot, .int .i64 pc, .slice Ak nk ck] 68 + _) from k1); have J2 := hid ((HE.out.trans (Ext.alloc _ _)).trans k2); have g0 := J1.out.at_ (i := 0) rfl; have g1 := J1.out.at_ (i := 1) rfl; have g2 := J1.out.at_ (i := 2) rfl; clear k1 k2; have HX5 := hid (J1.out.eq (b := (blk wr.heap.size #[.int .i64 st, .int .i64 wh, .int .i64 ot, .int .i64 pc, .slice Ak nk ck] 68 + X) + MS.all w) (by ac_rfl)))
        go_roundw
        case rel => exact ⟨i + 1, Hlt.out, by go_num, by rw [Hn.out, Hall.out, hok.out]; rfl, ⟨_, HX5.out⟩, J2.out⟩
        case measure => have := Hlt.out; simp [intOf]; omega
    · have hie : i = l.length := by omega
      subst hie
      have hq := hid (show q = 0 by rw [Hq.out, Hall.out, if_pos rfl])
      have HK := hid (show Kp w wr from ⟨fun M hM => hM.of_all HX.out, HE.out⟩)
      clear hlt
      go_wp2
      go_ret
      exact ⟨by rw [hq.out]; rfl, HK.out⟩
end Go.Proofs.Ytnkgfgkgepadhaa

namespace Go.Proofs.Ytnkgfgkgepadhaa
open Go.RowKit
set_option linter.unusedVariables false
set_option linter.unusedSimpArgs false
set_option maxHeartbeats 4000000
set_option maxRecDepth 100000

theorem drew_more {w w' : World} (h : ∃ m, w' = w.drewN m) (n : Nat) : ∃ m, w'.drewN n = w.drewN m := by
  obtain ⟨m, rfl⟩ := h
  exact ⟨m + n, World.drewN_drewN _ _ _⟩
theorem drew_has {w w' : World} {F : MS} (h : ∃ m, w' = w.drewN m) (hH : Has w F) : Has w' F := by
  obtain ⟨m, rfl⟩ := h
  exact hH.drewN m
def hlRow (l : List Ev) (cut : List Int) (s : Nat) : Bool := decide (0 ≤ cut.getD s 0) && decide (cut.getD s 0 ≤ cntS l l.length s)
def stN (l : List Ev) (i : Nat) : Nat := (l.getD i dfEv).station.toNat
def hlEv (l : List Ev) (cut : List Int) (i : Nat) : Bool := !((l.getD i dfEv).what == 3 && (decide ((cntS l i (stN l i) : Int) < cut.getD (stN l i) 0) && decide (cut.getD (stN l (mateI l i).toNat) 0 ≤ cntS l (mateI l i).toNat (stN l (mateI l i).toNat))))
/-- Does a cut hold? -/
def holdsB (n : Nat) (l : List Ev) (cut : List Int) : Bool := (List.range n).all (hlRow l cut) && (List.range l.length).all (hlEv l cut)
theorem mateI_lt {l : List Ev} {i : Nat} (h : 0 ≤ mateI l i) : ∃ m : Nat, mateI l i = m ∧ m < i ∧ mateP l i m = true := by
  unfold mateI at h ⊢
  cases hc : (List.range i).find? (mateP l i) with
  | none => rw [hc] at h; simp at h
  | some m =>
    obtain ⟨h1, h2, _⟩ := List.find?_range_eq_some.1 hc
    exact ⟨m, rfl, List.mem_range.1 h2, h1⟩
theorem holds_any {F : MS} {n : Nat} {l : List Ev} {cut : List Int} {A A2 : Option Addr} {k c c2 : Nat} {w : World} (hr : RdS F RT.ev l (.slice A k c)) (hc : RdS F RT.int cut (.slice A2 n c2)) (hH : Has w F) (hl : l.length ≤ 60) (n5 : n ≤ 5)
    (hst : ∀ i, i < l.length → ∃ s : Nat, s < n ∧ (l.getD i dfEv).station = (s : Int)) (hmt : ∀ i, i < l.length → (l.getD i dfEv).what = 3 → 0 ≤ mateI l i) :
    Calls Try.prog 81 #[.int .i64 n, .slice A k c, .slice A2 n c2] w fun e w' => e = .returned (.bool (holdsB n l cut)) ∧ ∃ m, w' = w.drewN m := by
  obtain ⟨rfl, _⟩ := hr.cells
  obtain ⟨hcl, _⟩ := hc.cells
  obtain ⟨bl, ol, hA, hcell⟩ := evAt hr
  have Hcell := hid hcell
  have HH := hid hH
  have HA := hid hA
  have Hr := hid hr
  have Hc := hid hc
  have Hst := hid hst
  have Hmt := hid hmt
  have Hcl := hid hcl
  have L60 := hid hl
  have lI : (l.length : Int) ≤ 60 := by omega
  have nI : (n : Int) ≤ 5 := by omega
  obtain ⟨q, hq⟩ : ∃ q, q = holdsB n l cut := ⟨_, rfl⟩
  rw [← hq]
  have Hq := hid hq
  clear hcell hH hA hr hc hst hmt hcl hq hl
  go_enter Try.func81, Try.ntmps81
  go_wp2
  go_loopw [7] (fun v wq => ∃ s : Nat, s ≤ n ∧ v = .int .i64 s ∧ (List.range s).all (hlRow l cut) = true ∧ ∃ m, wq = w.drewN m) (fun v _ => n - (intOf v).toNat)
  case atStart => exact ⟨0, Nat.zero_le _, rfl, rfl, 0, rfl⟩
  case round =>
    obtain ⟨s, hs, rfl, hall, hE⟩ := hrel
    have Hall := hid hall
    have HE := hid hE
    clear hall hE
    by_cases hlt : s < n
    · have hltI : (s : Int) < n := by omega
      have hs0 : (0 : Int) ≤ (s : Int) := by omega
      obtain ⟨b4, o4, hA3, e5⟩ := Hc.out.getInt (get_getD (l := cut) (j := s) 0 (by rw [← Hcl.out]; exact hlt))
      subst hA3
      have He5 := hid e5
      have Hn := hid (all_range_succ (hlRow l cut) s)
      have Hm := hid (all_range_false (p := hlRow l cut) (i := s) hlt)
      have Hrow := hid (show hlRow l cut s = (decide (0 ≤ cut.getD s 0) && decide (cut.getD s 0 ≤ cntS l l.length s)) from rfl)
      have Hlt := hid hlt
      clear e5 hlt
      obtain ⟨cv, hcv⟩ : ∃ cv, cv = cut.getD s 0 := ⟨_, rfl⟩
      rw [← hcv] at He5 Hrow
      clear hcv
      go_wp2
      go_loopw [8, 9] (fun vk v wq => ∃ j : Nat, j ≤ l.length ∧ v = .int .i64 j ∧ vk = .int .i64 (cntS l j s) ∧ ∃ m, wq = w.drewN m) (fun _ v _ => l.length - (intOf v).toNat)
      case atStart => exact ⟨0, Nat.zero_le _, rfl, by rw [cntS_zero]; rfl, HE.out⟩
      case round =>
        obtain ⟨j, hj, rfl, rfl, hE⟩ := hrel
        have HEj := hid hE
        clear hE HE
        by_cases hlj : j < l.length
        · have hA1 := HA.out (by omega)
          subst hA1
          have Hej := Hcell.out j hlj
          have f0 := Hej.c0.c0 (drew_has HEj.out HH.out)
          have hjl : (j : Int) < l.length := by omega
          have hj0 : (0 : Int) ≤ (j : Int) := by omega
          have Hs1 := hid (cntS_succ (l := l) (t := j) hlj s)
          have hcb : cntS l j s ≤ j := by unfold cntS; exact Nat.le_trans List.countP_le_length (by rw [List.length_take]; omega)
          obtain ⟨kn, hkn⟩ : ∃ kn, kn = cntS l j s := ⟨_, rfl⟩
          rw [← hkn] at Hs1 ⊢
          have hw1 : IntKind.i64.wrap ((kn : Int) + 1) = kn + 1 := by rw [IntKind.wrap_i64]; omega
          clear Hej hkn hcb
          generalize (l.getD j dfEv).station = sj at *
          have Hlj := hid hlj
          clear hlj
          by_cases h1 : sj = (s : Int)
          · rw [if_pos h1] at Hs1
            subst h1
            go_wp2
            go_roundw
            case rel => exact ⟨j + 1, Hlj.out, by go_num, by rw [Hs1.out]; go_num, HEj.out⟩
            case measure => have := Hlj.out; simp [intOf]; omega
          · rw [if_neg h1] at Hs1
            have h2 : (sj == (s : Int)) = false := by simp [h1]
            clear h1
            go_wp2
            go_roundw
            case rel => exact ⟨j + 1, Hlj.out, by go_num, by rw [Hs1.out]; rfl, HEj.out⟩
            case measure => have := Hlj.out; simp [intOf]; omega
        · have hje : j = l.length := by omega
          subst hje
          have f5 := He5.out.c0 (drew_has HEj.out HH.out)
          obtain ⟨kn, hkn⟩ : ∃ kn, kn = cntS l l.length s := ⟨_, rfl⟩
          rw [← hkn] at Hrow ⊢
          clear hkn hlj
          by_cases c1 : cv < 0
          · have hf := hid (show q = false by rw [Hq.out]; unfold holdsB; rw [Hm.out (by rw [Hrow.out, decide_eq_false (by omega)]; rfl)]; rfl)
            go_wp2
            go_ret
            exact ⟨by rw [hf.out]; rfl, HEj.out⟩
          · by_cases c2 : (kn : Int) < cv
            · have hf := hid (show q = false by rw [Hq.out]; unfold holdsB; rw [Hm.out (by rw [Hrow.out, decide_eq_false (show ¬ cv ≤ kn by omega), Bool.and_false])]; rfl)
              go_wp2
              go_ret
              exact ⟨by rw [hf.out]; rfl, HEj.out⟩
            · have hok := hid (show hlRow l cut s = true by rw [Hrow.out, decide_eq_true (show 0 ≤ cv by omega), decide_eq_true (show cv ≤ kn by omega)]; rfl)
              go_wp2
              go_roundw
              case rel => exact ⟨s + 1, Hlt.out, by go_num, by rw [Hn.out, Hall.out, hok.out]; rfl, HEj.out⟩
              case measure => have := Hlt.out; simp [intOf]; omega
    · have hse : s = n := by omega
      subst hse
      have Hrows := hid Hall.out
      clear hlt Hall
      go_wp2
      go_loopw [10] (fun v wq => ∃ i : Nat, i ≤ l.length ∧ v = .int .i64 i ∧ (List.range i).all (hlEv l cut) = true ∧ ∃ m, wq = w.drewN m) (fun v _ => l.length - (intOf v).toNat)
      case atStart => exact ⟨0, Nat.zero_le _, rfl, rfl, HE.out⟩
      case round =>
        obtain ⟨i, hi, rfl, hall, hE⟩ := hrel
        have Hall := hid hall
        have HEi := hid hE
        clear hall hE HE
        by_cases hli : i < l.length
        · have hA1 := HA.out (by omega)
          subst hA1
          obtain ⟨si, hsi, hse⟩ := Hst.out i hli
          have Hei := Hcell.out i hli
          have HF := hid (drew_has HEi.out HH.out)
          have f0 := Hei.c0.c0 HF.out
          have f1 := Hei.c1.c0 HF.out
          rw [hse] at f0
          obtain ⟨b4, o4, hA3, e5⟩ := Hc.out.getInt (get_getD (l := cut) (j := si) 0 (by rw [← Hcl.out]; exact hsi))
          subst hA3
          have f5 := e5.c0 HF.out
          have hliI : (i : Int) < l.length := by omega
          have hi0 : (0 : Int) ≤ (i : Int) := by omega
          have hsiI : (si : Int) < s := by omega
          have hsi0 : (0 : Int) ≤ (si : Int) := by omega
          have Hn := hid (all_range_succ (hlEv l cut) i)
          have Hm := hid (all_range_false (p := hlEv l cut) (i := i) hli)
          have Hev := hid (show hlEv l cut i = !((l.getD i dfEv).what == 3 && (decide ((cntS l i si : Int) < cut.getD si 0) && decide (cut.getD (stN l (mateI l i).toNat) 0 ≤ cntS l (mateI l i).toNat (stN l (mateI l i).toNat)))) by unfold hlEv; rw [show stN l i = si by unfold stN; rw [hse, Int.toNat_natCast]])
          have Hmi := hid (Hmt.out i hli)
          have Hord := hid (fun (W : World) (hW : Has W F) => order_any Hr.out hW (by have := L60.out; omega) hli hse)
          have Hmte := hid (fun (W : World) (hW : Has W F) => mate_any Hr.out hW (by have := L60.out; omega) hli)
          have Hli := hid hli
          obtain ⟨cv, hcv⟩ : ∃ cv, cv = cut.getD si 0 := ⟨_, rfl⟩
          rw [← hcv] at f5 Hev
          obtain ⟨kn, hkn⟩ : ∃ kn, kn = cntS l i si := ⟨_, rfl⟩
          rw [← hkn] at Hev Hord
          obtain ⟨wh, hwh⟩ : ∃ a, a = (l.getD i dfEv).what := ⟨_, rfl⟩
          rw [← hwh] at f1 Hev Hmi
          clear hcv hkn e5 Hei hli hse hsi hwh
          by_cases hw3 : wh = 3
          · subst hw3
            obtain ⟨m, hm1, hm2, _⟩ := mateI_lt (Hmi.out rfl)
            rw [hm1, Int.toNat_natCast] at Hev
            rw [hm1] at Hmte
            by_cases hin : (kn : Int) < cv
            · obtain ⟨sm, hsm, hsme⟩ := Hst.out m (by have := Hli.out; omega)
              have Hem := Hcell.out m (by have := Hli.out; omega)
              obtain ⟨b5, o5, hA4, e6⟩ := Hc.out.getInt (get_getD (l := cut) (j := sm) 0 (by rw [← Hcl.out]; exact hsm))
              simp only [Option.some.injEq, Addr.mk.injEq] at hA4
              obtain ⟨rfl, rfl, _⟩ := hA4
              rw [show stN l m = sm by unfold stN; rw [hsme, Int.toNat_natCast]] at Hev
              have Hord2 := hid (fun (W : World) (hW : Has W F) => order_any Hr.out hW (by have := L60.out; omega) (show m < l.length by have := Hli.out; omega) hsme)
              have g0 := Hem.c0
              rw [hsme] at g0
              have Hg0 := hid g0
              have He6 := hid e6
              obtain ⟨cm, hcm⟩ : ∃ cm, cm = cut.getD sm 0 := ⟨_, rfl⟩
              rw [← hcm] at He6 Hev
              obtain ⟨km, hkm⟩ : ∃ km, km = cntS l m sm := ⟨_, rfl⟩
              rw [← hkm] at Hev Hord2
              have hmI : (m : Int) < l.length := by have := Hli.out; omega
              have hm0 : (0 : Int) ≤ (m : Int) := by omega
              have hsmI : (sm : Int) < s := by omega
              have hsm0 : (0 : Int) ≤ (sm : Int) := by omega
              clear e6 g0 Hem hcm hkm hsme hsm hm1 hm2
              go_wp2
              go_quiet (first | (go_at_call 94; refine Calls.quiet_of (Hord.out _ (HF.out.drewN _))))
              obtain ⟨w2, hw2⟩ : ∃ w2, w2 = wr.drewN nq := ⟨_, rfl⟩
              have HE2 := hid (show ∃ m, w2 = w.drewN m by rw [hw2]; exact drew_more HEi.out _)
              rw [← hw2]
              clear hw2 f0 f1 f5
              have HF2 := hid (drew_has HE2.out HH.out)
              go_wp2_with (go_at_call 82; refine (Hmte.out _ HF2.out).mono ?_; rintro e w3 ⟨rfl, hw3⟩)
              have HE3 := hid (show ∃ m, w3 = w.drewN m by obtain ⟨m3, rfl⟩ := hw3; exact drew_more HE2.out _)
              clear hw3
              have HF3 := hid (drew_has HE3.out HH.out)
              have g0 := Hg0.out.c0 HF3.out
              have g6 := He6.out.c0 HF3.out
              go_quiet (first | (go_at_call 94; refine Calls.quiet_of (Hord2.out _ (HF3.out.drewN _))))
              by_cases hge : cm ≤ (km : Int)
              · have hf := hid (show q = false by rw [Hq.out]; unfold holdsB; rw [Hrows.out, Hm.out (by rw [Hev.out, decide_eq_true hin, decide_eq_true hge]; rfl)]; rfl)
                go_wp2
                go_ret
                exact ⟨by rw [hf.out]; rfl, drew_more HE3.out _⟩
              · have hok := hid (show hlEv l cut i = true by rw [Hev.out, decide_eq_false hge]; simp)
                go_wp2
                go_roundw
                case rel => exact ⟨i + 1, Hli.out, by go_num, by rw [Hn.out, Hall.out, hok.out]; rfl, drew_more HE3.out _⟩
                case measure => have := Hli.out; simp [intOf]; omega
            · have hok := hid (show hlEv l cut i = true by rw [Hev.out, decide_eq_false hin]; simp)
              clear hm1 hm2
              go_wp2
              go_quiet (first | (go_at_call 94; refine Calls.quiet_of (Hord.out _ (HF.out.drewN _))))
              go_wp2
              go_roundw
              case rel => exact ⟨i + 1, Hli.out, by go_num, by rw [Hn.out, Hall.out, hok.out]; rfl, drew_more HEi.out _⟩
              case measure => have := Hli.out; simp [intOf]; omega
          · have h3 : (wh == 3) = false := by simp [hw3]
            have hok := hid (show hlEv l cut i = true by rw [Hev.out, h3]; rfl)
            clear hw3
            go_wp2
            go_quiet (fail)
            go_wp2
            go_roundw
            case rel => exact ⟨i + 1, Hli.out, by go_num, by rw [Hn.out, Hall.out, hok.out]; rfl, drew_more HEi.out _⟩
            case measure => have := Hli.out; simp [intOf]; omega
        · have hie : i = l.length := by omega
          subst hie
          have hq := hid (show q = true by rw [Hq.out]; unfold holdsB; rw [Hrows.out, Hall.out]; rfl)
          clear hli
          go_wp2
          go_ret
          exact ⟨by rw [hq.out]; rfl, HEi.out⟩
end Go.Proofs.Ytnkgfgkgepadhaa

namespace Go.Proofs.Ytnkgfgkgepadhaa
open Go.RowKit
set_option linter.unusedVariables false
set_option linter.unusedSimpArgs false
set_option maxHeartbeats 4000000
set_option maxRecDepth 100000

theorem evErr_ok {n : Int} {l : List Ev} (h : evErr n l = 0) : 2 ≤ n ∧ n ≤ 5 ∧ l.length ≤ 60 ∧ ∀ i, i < l.length → ¬ evBad n (l.getD i dfEv) ∧ ((l.getD i dfEv).what = 3 → 0 ≤ mateI l i) := by
  unfold evErr at h
  split at h
  · cases h
  · split at h
    · cases h
    · split at h
      · rename_i h1 h2 h3
        refine ⟨by omega, by omega, by omega, fun i hi => ?_⟩
        rw [List.all_eq_true] at h3
        have := h3 i (List.mem_range.2 hi)
        unfold evOkI at this
        simp only [Bool.and_eq_true, Bool.not_eq_true', decide_eq_false_iff_not, Bool.and_eq_false_iff, beq_eq_false_iff_ne] at this
        exact ⟨this.1, fun hw => by rcases this.2 with h | h <;> omega⟩
      · cases h
theorem ok_st {n : Nat} {l : List Ev} (h : ∀ i, i < l.length → ¬ evBad n (l.getD i dfEv) ∧ ((l.getD i dfEv).what = 3 → 0 ≤ mateI l i)) : ∀ i, i < l.length → ∃ s : Nat, s < n ∧ (l.getD i dfEv).station = (s : Int) := fun i hi => by
  obtain ⟨h1, _⟩ := h i hi
  unfold evBad at h1
  exact ⟨(l.getD i dfEv).station.toNat, by omega, by omega⟩
def rcon (n : Int) (l : List Ev) (cut : List Int) : Bool × Int := if evErr n l ≠ 0 then (false, evErr n l) else if (cut.length : Int) ≠ n then (false, 2) else (holdsB n.toNat l cut, 0)
theorem rconsistent_any {F : MS} {n : Int} {l : List Ev} {A A2 : Option Addr} {k c k2 c2 : Nat} {cut : List Int} {w : World} (hr : RdS F RT.ev l (.slice A k c)) (hc : RdS F RT.int cut (.slice A2 k2 c2)) (hH : Has w F) :
    Calls Try.prog 40 #[.int .i64 n, .slice A k c, .slice A2 k2 c2] w fun e w' => e = .returned (.tuple #[.bool (rcon n l cut).1, .int .i64 (rcon n l cut).2]) ∧ Kp w w' := by
  obtain ⟨rfl, hcc1, hcc2, _⟩ := hc.cells
  have qm : (cut.length : Int) ≤ 9223372036854775807 := by unfold maxLen at hcc2; omega
  have Hev := hid (events_err (n := n) hr hH)
  have Hr := hid hr
  have Hc := hid hc
  have HH := hid hH
  clear hr hc hH hcc1 hcc2
  by_cases he : evErr n l = 0
  · obtain ⟨n2, n5, h60, hgood⟩ := evErr_ok he
    obtain ⟨m, rfl⟩ : ∃ m : Nat, n = m := ⟨n.toNat, by omega⟩
    rw [he] at Hev
    by_cases hcl : cut.length = m
    · have hq := hid (show rcon m l cut = (holdsB m l cut, 0) by unfold rcon; rw [if_neg (by rw [he]; decide), if_neg (by omega), Int.toNat_natCast])
      have Hh := hid (fun (W : World) (hW : Has W F) => holds_any (n := m) Hr.out (by rw [← hcl]; exact Hc.out) hW h60 (by omega) (ok_st hgood) (fun i hi hw => (hgood i hi).2 hw))
      have hclI : (cut.length : Int) = m := by omega
      rw [hq.out, hcl]
      clear he hgood hcl hclI
      go_enter Try.func40, Try.ntmps40
      go_wp2_with (first
        | (go_at_call 42; refine Hev.out.mono ?_; rintro e w1 ⟨rfl, k1⟩; have K1 := hid k1; clear k1)
        | (go_at_call 81; refine (Hh.out _ (K1.out.1 _ HH.out)).mono ?_; rintro e w2 ⟨rfl, m2, rfl⟩))
      go_ret2
      exact ⟨rfl, K1.out.drewN _⟩
    · have hq := hid (show rcon m l cut = (false, 2) by unfold rcon; rw [if_neg (by rw [he]; decide), if_pos (by omega)])
      have hclI : ¬ (cut.length : Int) = m := by omega
      rw [hq.out]
      clear he hgood hcl
      go_enter Try.func40, Try.ntmps40
      go_wp2_with (go_at_call 42; refine Hev.out.mono ?_; rintro e w1 ⟨rfl, k1⟩; have K1 := hid k1; clear k1)
      go_ret2
      exact ⟨rfl, K1.out⟩
  · have hq := hid (show rcon n l cut = (false, evErr n l) by unfold rcon; rw [if_pos he])
    rw [hq.out]
    generalize evErr n l = er at *
    clear hq
    go_enter Try.func40, Try.ntmps40
    go_wp2_with (go_at_call 42; refine Hev.out.mono ?_; rintro e w1 ⟨rfl, k1⟩; have K1 := hid k1; clear k1)
    go_ret2
    exact ⟨rfl, K1.out⟩
/-- How many cuts there are, up to a bound. -/
def cutsN (l : List Ev) : Nat → Int
  | 0 => 1
  | s + 1 => if cutsN l s * (cntS l l.length s + 1) < 3000 then cutsN l s * (cntS l l.length s + 1) else 3000
theorem cutsN_bound (l : List Ev) : ∀ s, 1 ≤ cutsN l s ∧ cutsN l s ≤ 3000
  | 0 => by unfold cutsN; omega
  | s + 1 => by
    have := cutsN_bound l s
    have h1 : 1 * 1 ≤ cutsN l s * ((cntS l l.length s : Int) + 1) := Int.mul_le_mul this.1 (by omega) (by omega) (by omega)
    unfold cutsN
    split <;> omega
theorem cuts_any {F : MS} {n : Nat} {l : List Ev} {A : Option Addr} {k c : Nat} {w : World} (hr : RdS F RT.ev l (.slice A k c)) (hH : Has w F) (hl : l.length ≤ 60) (n5 : n ≤ 5) :
    Calls Try.prog 43 #[.int .i64 n, .slice A k c, .int .i64 3000] w fun e w' => e = .returned (.int .i64 (cutsN l n)) ∧ ∃ m, w' = w.drewN m := by
  obtain ⟨rfl, _⟩ := hr.cells
  obtain ⟨bl, ol, hA, hcell⟩ := evAt hr
  have Hcell := hid hcell
  have HH := hid hH
  have HA := hid hA
  have L60 := hid hl
  have lI : (l.length : Int) ≤ 60 := by omega
  have nI : (n : Int) ≤ 5 := by omega
  clear hcell hH hA hr hl
  go_enter Try.func43, Try.ntmps43
  go_wp2
  go_loopw [7, 8] (fun vo v wq => ∃ s : Nat, s ≤ n ∧ v = .int .i64 s ∧ vo = .int .i64 (cutsN l s) ∧ ∃ m, wq = w.drewN m) (fun _ v _ => n - (intOf v).toNat)
  case atStart => exact ⟨0, Nat.zero_le _, rfl, rfl, 0, rfl⟩
  case round =>
    obtain ⟨s, hs, rfl, rfl, hE⟩ := hrel
    have HE := hid hE
    clear hE
    have Hn := hid (show cutsN l (s + 1) = if cutsN l s * (cntS l l.length s + 1) < 3000 then cutsN l s * (cntS l l.length s + 1) else 3000 from rfl)
    obtain ⟨hb1, hb2⟩ := cutsN_bound l s
    obtain ⟨o, ho⟩ : ∃ o, o = cutsN l s := ⟨_, rfl⟩
    rw [← ho] at Hn hb1 hb2 ⊢
    have Ho := hid ho
    clear ho
    by_cases hlt : s < n
    · have hltI : (s : Int) < n := by omega
      have Hlt := hid hlt
      clear hlt
      go_wp2
      go_loopw [9, 10] (fun vk v wq => ∃ j : Nat, j ≤ l.length ∧ v = .int .i64 j ∧ vk = .int .i64 (cntS l j s + 1) ∧ ∃ m, wq = w.drewN m) (fun _ v _ => l.length - (intOf v).toNat)
      case atStart => exact ⟨0, Nat.zero_le _, rfl, by rw [cntS_zero]; rfl, HE.out⟩
      case round =>
        obtain ⟨j, hj, rfl, rfl, hE⟩ := hrel
        have HEj := hid hE
        clear hE HE
        have hcb : cntS l j s ≤ j := by unfold cntS; exact Nat.le_trans List.countP_le_length (by rw [List.length_take]; omega)
        by_cases hlj : j < l.length
        · have hA1 := HA.out (by omega)
          subst hA1
          have Hej := Hcell.out j hlj
          have f0 := Hej.c0.c0 (drew_has HEj.out HH.out)
          have hjl : (j : Int) < l.length := by omega
          have hj0 : (0 : Int) ≤ (j : Int) := by omega
          have Hs1 := hid (cntS_succ (l := l) (t := j) hlj s)
          obtain ⟨kn, hkn⟩ : ∃ kn, kn = cntS l j s := ⟨_, rfl⟩
          rw [← hkn] at Hs1 ⊢
          have hw1 : IntKind.i64.wrap ((kn : Int) + 1 + 1) = kn + 1 + 1 := by rw [IntKind.wrap_i64]; omega
          clear Hej hkn hcb
          generalize (l.getD j dfEv).station = sj at *
          have Hlj := hid hlj
          clear hlj
          by_cases h1 : sj = (s : Int)
          · rw [if_pos h1] at Hs1
            subst h1
            go_wp2
            go_roundw
            case rel => exact ⟨j + 1, Hlj.out, by go_num, by rw [Hs1.out]; go_num, HEj.out⟩
            case measure => have := Hlj.out; simp [intOf]; omega
          · rw [if_neg h1] at Hs1
            have h2 : (sj == (s : Int)) = false := by simp [h1]
            clear h1
            go_wp2
            go_roundw
            case rel => exact ⟨j + 1, Hlj.out, by go_num, by rw [Hs1.out]; rfl, HEj.out⟩
            case measure => have := Hlj.out; simp [intOf]; omega
        · have hje : j = l.length := by omega
          subst hje
          have hkb : ((cntS l l.length s : Nat) : Int) ≤ 60 := by omega
          obtain ⟨kn, hkn⟩ : ∃ kn, kn = cntS l l.length s := ⟨_, rfl⟩
          rw [← hkn] at Hn hkb ⊢
          have hpr : o * ((kn : Int) + 1) ≤ 3000 * 61 := Int.mul_le_mul hb2 (by omega) (by omega) (by omega)
          have hpr0 : 0 ≤ o * ((kn : Int) + 1) := Int.mul_nonneg (by omega) (by omega)
          have hw2 : IntKind.i64.wrap (o * ((kn : Int) + 1)) = o * (kn + 1) := by rw [IntKind.wrap_i64]; omega
          obtain ⟨pr, hpe⟩ : ∃ pr, pr = o * ((kn : Int) + 1) := ⟨_, rfl⟩
          have hw3 : IntKind.i64.wrap (o * ((kn : Int) + 1)) = pr := hw2.trans hpe.symm
          rw [← hpe] at Hn hpr hpr0
          clear hkn hlj hcb hw2 hpe
          by_cases hc : pr < 3000
          · rw [if_pos hc] at Hn
            go_wp2
            go_roundw
            case rel => exact ⟨s + 1, Hlt.out, by go_num, by rw [Hn.out], HEj.out⟩
            case measure => have := Hlt.out; simp [intOf]; omega
          · rw [if_neg hc] at Hn
            go_wp2
            go_roundw
            case rel => exact ⟨s + 1, Hlt.out, by go_num, by rw [Hn.out], HEj.out⟩
            case measure => have := Hlt.out; simp [intOf]; omega
    · have hse : s = n := by omega
      subst hse
      go_wp2
      go_ret
      exact ⟨by rw [← Ho.out]; rfl, HE.out⟩
end Go.Proofs.Ytnkgfgkgepadhaa

/-
  The walk of whole (the statement's own).
-/
import Derived.Test.YtnkgfgkgepadhaaEvRd
namespace Go.Proofs.Ytnkgfgkgepadhaa
open Go.RowKit
set_option linter.unusedVariables false
set_option linter.unusedSimpArgs false
set_option maxHeartbeats 4000000
set_option maxRecDepth 100000

/-! ### Plain -/
/-- How many events of each station are among the first t ones. -/
def snAt (n : Nat) (l : List Ev) : Nat → List Int
  | 0 => List.replicate n 0
  | t + 1 => (snAt n l t).set (l.getD t dfEv).station.toNat ((snAt n l t).getD (l.getD t dfEv).station.toNat 0 + 1)
def wnB (n : Nat) (l : List Ev) (cut : List Int) (t : Nat) : Bool := decide ((snAt n l t).getD (l.getD t dfEv).station.toNat 0 < cut.getD (l.getD t dfEv).station.toNat 0)
def wnAt (n : Nat) (l : List Ev) (cut : List Int) : Nat → List Bool
  | 0 => List.replicate l.length false
  | t + 1 => (wnAt n l cut t).set t (wnB n l cut t)
def wlCut (n : Nat) (l : List Ev) (cut : List Int) (s : Nat) : Bool := decide (0 ≤ cut.getD s 0) && decide (cut.getD s 0 ≤ (snAt n l l.length).getD s 0)
def wlBad (n : Nat) (l : List Ev) (cs : List (List Bool)) (cut : List Int) (i k : Nat) : Bool := (wnAt n l cut l.length).getD i false && ((cs.getD i []).getD k false && !(wnAt n l cut l.length).getD k false)
def wlOk (n : Nat) (l : List Ev) (cs : List (List Bool)) (cut : List Int) : Bool :=
  (List.range n).all (wlCut n l cut) && (List.range l.length).all fun i => (List.range i).all fun k => !wlBad n l cs cut i k
theorem snAt_length (n : Nat) (l : List Ev) : ∀ t, (snAt n l t).length = n
  | 0 => by simp [snAt]
  | t + 1 => by unfold snAt; rw [List.length_set]; exact snAt_length n l t
theorem wnAt_length (n : Nat) (l : List Ev) (cut : List Int) : ∀ t, (wnAt n l cut t).length = l.length
  | 0 => by simp [wnAt]
  | t + 1 => by unfold wnAt; rw [List.length_set]; exact wnAt_length n l cut t
theorem snAt_bound (n : Nat) (l : List Ev) (s : Nat) : ∀ t : Nat, 0 ≤ (snAt n l t).getD s 0 ∧ (snAt n l t).getD s 0 ≤ t
  | 0 => by
    by_cases h : s < n
    · simp [snAt, List.getD, h]
    · simp [snAt, List.getD, h]
  | t + 1 => by
    have := snAt_bound n l s t
    have h2 := snAt_bound n l (l.getD t dfEv).station.toNat t
    unfold snAt
    by_cases h : (l.getD t dfEv).station.toNat < (snAt n l t).length
    · rw [getD_set]
      split
      · subst_vars; omega
      · omega
    · rw [List.set_eq_of_length_le (by omega)]; omega
theorem wholeL_any {F : MS} {l : List Ev} {cs : List (List Bool)} {cut : List Int} {n : Nat} {A B K : Option Addr} {c d kk : Nat} {w : World}
    (he : RdS F RT.ev l (.slice A l.length c)) (hc : RdS F (RT.sl RT.bool) cs (.slice B l.length d)) (hk : RdS F RT.int cut (.slice K n kk)) (hH : Has w F)
    (hl : l.length ≤ 1000) (n0 : 0 < n) (n5 : n ≤ 5) (hst : ∀ i, i < l.length → ∃ k : Nat, (l.getD i dfEv).station = k ∧ k < n) (hcr : ∀ r ∈ cs, r.length = l.length) :
    Calls Try.prog 38 #[.int .i64 n, .slice A l.length c, .slice B l.length d, .slice K n kk] w fun e w' => e = .returned (.bool (wlOk n l cs cut)) ∧ (∀ M, Has w M → Has w' M) ∧ Ext w w' := by
  obtain ⟨hcl, _⟩ := hc.cells
  obtain ⟨hkl, _⟩ := hk.cells
  obtain ⟨bl, ol, hA, hcell⟩ := evAt he
  have Hcell := hid hcell
  have HH := hid hH
  have HA := hid hA
  have Hc := hid hc
  have Hk := hid hk
  have Hst := hid hst
  have Hcr := hid hcr
  have Hcl := hid hcl
  have Hkl := hid hkl
  have N0 := hid n0
  have Hrd := hid (show ∀ (W : World) (X : MS), Has W (X + MS.all w) → ∀ (b o : Nat) (u : Value), F.at b o u → W.cell? ⟨b, o, none⟩ = some u from fun W X h b o u hu => hu.c0 (hH.of_all h))
  have lI : (l.length : Int) ≤ 1000 := by omega
  have nI : (n : Int) ≤ 5 := by omega
  clear hcell hH hA hc hk hst hcr he hcl hkl
  obtain ⟨q, hq⟩ : ∃ q, q = wlOk n l cs cut := ⟨_, rfl⟩
  rw [← hq]
  have Hq := hid hq
  clear hq
  go_enter Try.func38, Try.ntmps38
  go_wp2_with (first
    | (at_make; refine wpList_make_sl rfl (.tmp 16) (.tmp 16) 22 rfl 3 _ 1 8 Try.underlying22 info3 .i64 .i64 n rfl rfl (by omega) (by simp only [maxLen]; omega) _ (Has.all w) ?_; intro v' w1 m1 k1 k2 k3 _; have h1' := made_ints k1; obtain ⟨As, ks, rfl, _⟩ := k1.form; obtain ⟨bs, os, rfl⟩ := ints_some h1' (by rw [List.length_replicate]; exact N0.out); have K1 := hid h1'; have K2 := hid k2; have K3 := hid k3; clear k1 k2 k3 h1')
    | (at_make; refine wpList_make_sl rfl (.tmp 19) (.tmp 19) 69 rfl 4 _ 1 1 Try.underlying69 info4 .i64 .i64 l.length rfl rfl (by omega) (by simp only [maxLen]; omega) _ K2.out ?_; intro v' w2 m2 k1 k2 k3 _; have h1' := made_bools k1; obtain ⟨Aw, kw, rfl, _⟩ := k1.form; have K4 := hid h1'; have K5 := hid k2; have K6 := hid (K3.out.trans k3); clear k1 k2 k3 h1'))
  go_loopw [11] (fun v wr => ∃ t : Nat, t ≤ l.length ∧ v = .int .i64 t ∧ ∃ ms mw, Ints (snAt n l t) (.slice (some ⟨bs, os, none⟩) n ks) ms ∧ Bools (wnAt n l cut t) (.slice Aw l.length kw) mw ∧ Has wr (ms + (mw + MS.all w)) ∧ Ext w wr) (fun v _ => l.length - (intOf v).toNat)
  case atStart => exact ⟨0, Nat.zero_le _, rfl, m1, m2, K1.out, K4.out, K5.out.eq (by ac_rfl), K6.out⟩
  case round =>
    obtain ⟨t, ht, rfl, ms, mw, h1, h2, h3, h4⟩ := hrel
    have H1 := hid h1
    have H2 := hid h2
    have H3 := hid h3
    have H4 := hid h4
    clear h1 h2 h3 h4 K1 K2 K3 K4 K5 K6
    by_cases hlt : t < l.length
    · obtain ⟨s, hs1, hs2⟩ := Hst.out t hlt
      obtain ⟨bw, ow, rfl⟩ := bools_some H2.out (by rw [wnAt_length]; omega)
      obtain ⟨curs, rfl, z1, z2, z3⟩ := ints_at H1.out (j := s) (by rw [snAt_length]; exact hs2)
      obtain ⟨curw, rfl, y1, y2, y3⟩ := bools_at H2.out (j := t) (by rw [wnAt_length]; exact hlt)
      obtain ⟨bk, ok, hAk, e1⟩ := Hk.out.getInt (get_getD (l := cut) (j := s) 0 (by rw [← Hkl.out]; exact hs2))
      subst hAk
      have hA1 := HA.out (by omega)
      subst hA1
      have hrd := Hrd.out wr (blk bs curs 3 + blk bw curw 4) (H3.out.eq (by ac_rfl))
      have f0 := hrd _ _ _ (Hcell.out t hlt).c0
      have f1 := hrd _ _ _ e1
      have f2 := H3.out.at_ z2
      rw [hs1] at f0
      have hltI : (t : Int) < l.length := by omega
      have hsI : (s : Int) < n := by omega
      have hs0 : (0 : Int) ≤ (s : Int) := by omega
      obtain ⟨sb1, sb2⟩ := snAt_bound n l s t
      have hw1 : IntKind.i64.wrap ((snAt n l t).getD s 0 + 1) = (snAt n l t).getD s 0 + 1 := by rw [IntKind.wrap_i64]; omega
      have Hn := hid (show snAt n l (t + 1) = (snAt n l t).set s ((snAt n l t).getD s 0 + 1) by show (snAt n l t).set _ _ = _; rw [hs1, Int.toNat_natCast])
      have Hm := hid (show wnAt n l cut (t + 1) = (wnAt n l cut t).set t (decide ((snAt n l t).getD s 0 < cut.getD s 0)) by show (wnAt n l cut t).set _ (wnB n l cut t) = _; unfold wnB; rw [hs1, Int.toNat_natCast])
      have Hz1 := hid z1
      have Hz3 := hid z3
      have Hz2 := hid z2
      have Hy1 := hid y1
      have Hy3 := hid y3
      have Hlt := hid hlt
      clear z1 z2 z3 y1 y2 y3 hrd e1 hlt hs1
      generalize (snAt n l t).getD s 0 = sv at *
      generalize cut.getD s 0 = cv at *
      go_wp2
      have hS : wr.drew.cell? ⟨bs, os + s, none⟩ = some (.int .i64 sv) ∧ wr.drew.cell? ⟨bk, ok + s, none⟩ = some (.int .i64 cv) := ⟨f2, f1⟩
      refine wp_region_txt (fun W => W.cell? ⟨bs, os + s, none⟩ = some (.int .i64 sv) ∧ W.cell? ⟨bk, ok + s, none⟩ = some (.int .i64 cv)) (some 12)
        [(0, true), (1, true), (2, true), (3, true), (4, true), (5, true), (6, true), (7, true), (8, true), (9, true), (10, true), (11, true), (12, false)] (by kernel_rfl) rfl (by kernel_rfl) (by kernel_rfl) (by repeat (first | with_reducible refine PanicOk.thn ?_ | with_reducible refine PanicOk.blk ?_ | exact PanicOk.body _ _ _)) ?_
      repeat
        (refine txt_quiet ?_ hS rfl rfl (fun W hW => ?_) ?_
         rotate_left 1
         · obtain ⟨hW1, hW2⟩ := hW
           go_simp
           exact rfl
         simp only [Act.put, List.setIfInBounds_toArray, List.set_cons_zero, List.set_cons_succ])
      refine txt_op rfl rfl ?_
      refine op_store_blk (.tmp 43) (.tmp 42) 4 rfl size4 bw (ow + t) (.bool (decide (sv < cv))) rfl rfl rfl curw 4 _ (H3.out.drew.eq (b := blk bw curw 4 + (blk bs curs 3 + MS.all w)) (by ac_rfl)) Hy1.out ?_
      intro w8 j7 j8
      refine ⟨fun h => absurd rfl h, ?_⟩
      simp only [Act.put]
      refine txt_done ?_
      have J7 := hid (j7.eq (b := blk bs curs 3 + (blk bw (curw.setIfInBounds (ow + t) (.bool (decide (sv < cv)))) 4 + MS.all w)) (by ac_rfl))
      have J8 := hid (H4.out.trans ((Ext.drew _).trans j8))
      have f3 := J7.out.at_ Hz2.out
      clear hS j7 j8 f0 f1 f2
      go_wp2_with (refine wpList_store_blk rfl (.tmp 49) (.tmp 48) 3 rfl size3 bs (os + s) (.int .i64 (sv + 1)) rfl rfl rfl curs 3 _ J7.out Hz1.out ?_; intro w9 j9 j10; have J9 := hid j9; have J10 := hid (J8.out.trans j10); clear j9 j10)
      go_roundw
      case rel => exact ⟨t + 1, Hlt.out, by go_num, _, _, by rw [Hn.out]; exact Hz3.out _, by rw [Hm.out]; exact Hy3.out _, J9.out, J10.out⟩
      case measure => have := Hlt.out; simp [intOf]; omega
    · have hte : t = l.length := by omega
      subst hte
      obtain ⟨sn, hsn⟩ : ∃ sn, sn = snAt n l l.length := ⟨_, rfl⟩
      obtain ⟨wn, hwn⟩ : ∃ wn, wn = wnAt n l cut l.length := ⟨_, rfl⟩
      rw [← hsn] at H1
      rw [← hwn] at H2
      have Hsnl := hid (show sn.length = n by rw [hsn]; exact snAt_length _ _ _)
      have Hwnl := hid (show wn.length = l.length by rw [hwn]; exact wnAt_length _ _ _ _)
      have Hsn := hid hsn
      have Hwn := hid hwn
      have H0 := hid (show Has wr ((ms + mw) + MS.all w) from H3.out.eq (by ac_rfl))
      have Hr1 := hid (show ∀ W, Has W ((ms + mw) + MS.all w) → ∀ (b o : Nat) (u : Value), (ms + mw).at b o u → W.cell? ⟨b, o, none⟩ = some u from fun W hW b o u hu => (hu.more (MS.all w)).c0 (hW.eq (by ac_rfl)))
      have Hr2 := hid (show ∀ W, Has W ((ms + mw) + MS.all w) → ∀ (b o : Nat) (u : Value), F.at b o u → W.cell? ⟨b, o, none⟩ = some u from fun W hW => Hrd.out W (ms + mw) hW)
      have R1 := hid (show RdS (ms + mw) RT.int sn (.slice (some ⟨bs, os, none⟩) n ks) from by rw [MS.add_comm]; exact (H1.out.rdS).more mw)
      have R2 := hid (show RdS (ms + mw) RT.bool wn (.slice Aw l.length kw) from (H2.out.rdS).more ms)
      clear H1 H2 H3 Hrd
      generalize ms + mw = mm at *
      go_wp2
      go_loopw [13] (fun v wq => ∃ t : Nat, t ≤ n ∧ v = .int .i64 t ∧ (List.range t).all (wlCut n l cut) = true ∧ Has wq (mm + MS.all w) ∧ Ext w wq) (fun v _ => n - (intOf v).toNat)
      case atStart => exact ⟨0, Nat.zero_le _, rfl, rfl, H0.out, H4.out⟩
      case round =>
        obtain ⟨s, hs, rfl, hall, hh, hE⟩ := hrel
        have Hall := hid hall
        have Hh := hid hh
        have HE := hid hE
        clear hall hh hE H0 H4
        by_cases hlt : s < n
        · obtain ⟨b1, o1, hA1, e1⟩ := Hk.out.getInt (get_getD (l := cut) (j := s) 0 (by rw [← Hkl.out]; exact hlt))
          obtain ⟨b2, o2, hA2, e2⟩ := R1.out.getInt (get_getD (l := sn) (j := s) 0 (by rw [Hsnl.out]; exact hlt))
          subst hA1
          simp only [Option.some.injEq, Addr.mk.injEq] at hA2
          obtain ⟨rfl, rfl, _⟩ := hA2
          have f1 := Hr2.out _ Hh.out _ _ _ e1
          have f2 := Hr1.out _ Hh.out _ _ _ e2
          have Hlt := hid hlt
          have hltI : (s : Int) < n := by omega
          have Hn := hid (all_range_succ (wlCut n l cut) s)
          have Hm := hid (all_range_false (p := wlCut n l cut) hlt)
          have Hc0 := hid (show wlCut n l cut s = (decide (0 ≤ cut.getD s 0) && decide (cut.getD s 0 ≤ sn.getD s 0)) by rw [Hsn.out]; rfl)
          clear hlt e1 e2
          generalize cut.getD s 0 = cv at *
          generalize sn.getD s 0 = sv at *
          by_cases h0 : cv < 0
          · have hf := hid (show q = false by rw [Hq.out]; unfold wlOk; rw [Hm.out (by rw [Hc0.out, decide_eq_false (show ¬ 0 ≤ cv by omega)]; rfl)]; rfl)
            go_wp2
            go_quiet (fail)
            go_wp2
            go_ret
            exact ⟨by rw [hf.out]; rfl, fun M hM => (hM.of_all Hh.out).drewN _, HE.out.trans (Ext.drewN _ _)⟩
          · by_cases h1 : sv < cv
            · have hf := hid (show q = false by rw [Hq.out]; unfold wlOk; rw [Hm.out (by rw [Hc0.out, decide_eq_false (show ¬ cv ≤ sv by omega)]; simp)]; rfl)
              go_wp2
              go_quiet (fail)
              go_wp2
              go_ret
              exact ⟨by rw [hf.out]; rfl, fun M hM => (hM.of_all Hh.out).drewN _, HE.out.trans (Ext.drewN _ _)⟩
            · have hcv : wlCut n l cut s = true := by rw [Hc0.out, decide_eq_true (show 0 ≤ cv by omega), decide_eq_true (show cv ≤ sv by omega)]; rfl
              have Hcv := hid hcv
              clear hcv
              go_wp2
              go_quiet (fail)
              go_wp2
              go_roundw
              case rel => exact ⟨s + 1, Hlt.out, by go_num, by rw [Hn.out, Hall.out, Hcv.out]; rfl, Hh.out.drewN _, HE.out.trans (Ext.drewN _ _)⟩
              case measure => have := Hlt.out; simp [intOf]; omega
        · have hse : s = n := by omega
          subst hse
          have Hq2 := hid (show q = (List.range l.length).all fun i => (List.range i).all fun k => !wlBad s l cs cut i k by rw [Hq.out]; unfold wlOk; rw [Hall.out]; rfl)
          clear Hq Hall
          have Hbad := hid (show ∀ i k, wlBad s l cs cut i k = (wn.getD i false && ((cs.getD i []).getD k false && !wn.getD k false)) from fun i k => by rw [Hwn.out]; rfl)
          go_wp2
          go_loopw [14] (fun v wq => ∃ t : Nat, t ≤ l.length ∧ v = .int .i64 t ∧ (List.range t).all (fun i => (List.range i).all fun k => !wlBad s l cs cut i k) = true ∧ Has wq (mm + MS.all w) ∧ Ext w wq) (fun v _ => l.length - (intOf v).toNat)
          case atStart => exact ⟨0, Nat.zero_le _, rfl, rfl, Hh.out, HE.out⟩
          case round =>
            obtain ⟨i, hi, rfl, hall, hh, hE⟩ := hrel
            have Hall := hid hall
            have Hi := hid hh
            have HEi := hid hE
            clear hall hh hE Hh HE
            by_cases hlt : i < l.length
            · have Hlt := hid hlt
              have hltI : (i : Int) < l.length := by omega
              obtain ⟨r, hr⟩ : ∃ r, cs[i]? = some r := ⟨_, List.getElem?_eq_getElem (by rw [← Hcl.out]; exact hlt)⟩
              have hgd : cs.getD i [] = r := by simp [List.getD, hr]
              have hrl := Hcr.out r (List.mem_of_getElem? hr)
              obtain ⟨b1, o1, A1, c1, hA1, e1, kr, _⟩ := Hc.out.getSl hr
              subst hA1
              obtain ⟨b2, o2, hA2, e2⟩ := R2.out.getBool (get_getD (l := wn) (j := i) false (by rw [Hwnl.out]; exact hlt))
              subst hA2
              have Hn := hid (all_range_succ (fun i => (List.range i).all fun k => !wlBad s l cs cut i k) i)
              have Hm := hid (all_range_false (p := fun i => (List.range i).all fun k => !wlBad s l cs cut i k) hlt)
              have Hb2 := hid (show ∀ k, wlBad s l cs cut i k = (wn.getD i false && (r.getD k false && !wn.getD k false)) from fun k => by rw [Hbad.out, hgd])
              have He1 := hid e1
              have He2 := hid e2
              have Hkr := hid kr
              have Hrl := hid hrl
              clear hlt hr hgd hrl e1 e2 kr
              go_wp2
              go_loopw [15] (fun v wq => ∃ t : Nat, t ≤ i ∧ v = .int .i64 t ∧ (List.range t).all (fun k => !wlBad s l cs cut i k) = true ∧ Has wq (mm + MS.all w) ∧ Ext w wq) (fun v _ => i - (intOf v).toNat)
              case atStart => exact ⟨0, Nat.zero_le _, rfl, rfl, Hi.out, HEi.out⟩
              case round =>
                obtain ⟨k, hk, rfl, hal2, hh, hE⟩ := hrel
                have Hal2 := hid hal2
                have Hk2 := hid hh
                have HEk := hid hE
                clear hal2 hh hE Hi HEi
                by_cases hlk : k < i
                · have Hlk := hid hlk
                  have hlkI : (k : Int) < i := by omega
                  have hlkl : (k : Int) < l.length := by omega
                  have hkr : (k : Int) < r.length := by rw [Hrl.out]; exact hlkl
                  have f1 := Hr2.out _ Hk2.out _ _ _ He1.out
                  have f2 := Hr1.out _ Hk2.out _ _ _ He2.out
                  obtain ⟨b3, o3, hA3, e3⟩ := Hkr.out.getBool (get_getD (l := r) (j := k) false (by omega))
                  subst hA3
                  have f3 := Hr2.out _ Hk2.out _ _ _ e3
                  obtain ⟨b4, o4, hA4, e4⟩ := R2.out.getBool (get_getD (l := wn) (j := k) false (by rw [Hwnl.out]; omega))
                  simp only [Option.some.injEq, Addr.mk.injEq] at hA4
                  obtain ⟨rfl, rfl, _⟩ := hA4
                  have f4 := Hr1.out _ Hk2.out _ _ _ e4
                  have Hn2 := hid (all_range_succ (fun k => !wlBad s l cs cut i k) k)
                  have Hm2 := hid (all_range_false (p := fun k => !wlBad s l cs cut i k) hlk)
                  have Hb3 := hid (Hb2.out k)
                  clear hlk e3 e4
                  generalize wn.getD i false = p1 at *
                  generalize r.getD k false = p2 at *
                  generalize wn.getD k false = p3 at *
                  have step : wlBad s l cs cut i k = (p1 && (p2 && !p3)) := Hb3.out
                  cases p1 with
                  | false =>
                    have Hs := hid (show wlBad s l cs cut i k = false by rw [step]; rfl)
                    clear step
                    go_wp2
                    go_roundw
                    case rel => exact ⟨k + 1, Hlk.out, by go_num, by rw [Hn2.out, Hal2.out, Hs.out]; rfl, Hk2.out, HEk.out⟩
                    case measure => have := Hlk.out; simp [intOf]; omega
                  | true =>
                    cases p2 with
                    | false =>
                      have Hs := hid (show wlBad s l cs cut i k = false by rw [step]; rfl)
                      clear step
                      go_wp2
                      go_roundw
                      case rel => exact ⟨k + 1, Hlk.out, by go_num, by rw [Hn2.out, Hal2.out, Hs.out]; rfl, Hk2.out, HEk.out⟩
                      case measure => have := Hlk.out; simp [intOf]; omega
                    | true =>
                      cases p3 with
                      | true =>
                        have Hs := hid (show wlBad s l cs cut i k = false by rw [step]; rfl)
                        clear step
                        go_wp2
                        go_roundw
                        case rel => exact ⟨k + 1, Hlk.out, by go_num, by rw [Hn2.out, Hal2.out, Hs.out]; rfl, Hk2.out, HEk.out⟩
                        case measure => have := Hlk.out; simp [intOf]; omega
                      | false =>
                        have Hs := hid (show wlBad s l cs cut i k = true by rw [step]; rfl)
                        have hf := hid (show q = false by rw [Hq2.out]; exact Hm.out (Hm2.out (by rw [Hs.out]; rfl)))
                        clear step
                        go_wp2
                        go_ret
                        exact ⟨by rw [hf.out]; rfl, fun M hM => hM.of_all Hk2.out, HEk.out⟩
                · have hke : k = i := by omega
                  subst hke
                  go_wp2
                  go_roundw
                  case rel => exact ⟨k + 1, Hlt.out, by go_num, by rw [Hn.out, Hall.out, Hal2.out]; rfl, Hk2.out, HEk.out⟩
                  case measure => have := Hlt.out; simp [intOf]; omega
            · have hie : i = l.length := by omega
              subst hie
              go_wp2
              go_ret
              exact ⟨by rw [Hq2.out, Hall.out]; rfl, fun M hM => hM.of_all Hi.out, HEi.out⟩
end Go.Proofs.Ytnkgfgkgepadhaa

/-
  The looks at the reference's net.
-/
import Derived.Test.YtnkgfgkgepadhaaRefRecv
namespace Go.Proofs.Ytnkgfgkgepadhaa
open Go.RowKit
set_option linter.unusedVariables false
set_option linter.unusedSimpArgs false
set_option maxHeartbeats 2000000
set_option maxRecDepth 100000

theorem rwaiting_no {F : MS} {σ : Net} {b : Nat} {w : World} (hr : RdRef F σ b) (hH : Has w F) (x y : Int) (h1 : pairErr σ.sta.length x y = 2) :
    Calls Try.prog 33 #[.pointer (some ⟨b, 0, none⟩), .int .i64 x, .int .i64 y] w fun e w' => e = .returned (.tuple #[.slice none 0 0, .int .i64 2]) ∧ w = w' := by
  obtain ⟨A0, c0, A2, c2, A3, c3, A4, c4, a0, k0, _⟩ := hr.head
  have f0 := a0.cell0 hH
  have Hends := hid (ends_ref f0 x y)
  rw [h1] at Hends
  clear a0 k0 hr hH h1
  go_enter Try.func33, Try.ntmps33
  go_wp2_with (go_at_call 73; refine Hends.out.mono ?_; rintro e w' ⟨rfl, rfl⟩)
  go_ret2
  exact ⟨rfl, rfl⟩
theorem rwaiting_yes {F : MS} {σ : Net} {b : Nat} {w : World} (hok : NetOk σ) (hr : RdRef F σ b) (hH : Has w F) (i j : Nat) (hi : i < σ.sta.length) (hj : j < σ.sta.length) (h1 : pairErr σ.sta.length i j = 0) :
    Calls Try.prog 33 #[.pointer (some ⟨b, 0, none⟩), .int .i64 i, .int .i64 j] w fun e w' => ∃ A c m, e = .returned (.tuple #[.slice A (σ.lineAt i j).length c, .int .i64 0]) ∧ Ints ((σ.lineAt i j).map Msg.told) (.slice A (σ.lineAt i j).length c) m ∧ Has w' (m + F) ∧ Ext w w' := by
  obtain ⟨A0, c0, A2, c2, A3, c3, A4, c4, a0, k0, _⟩ := hr.head
  obtain ⟨bl, ol, cl, b2, o2, c2, A, c, l1, l2, l3, l4⟩ := hr.line hok hi hj
  have f0 := a0.cell0 hH
  have Hends := hid (ends_ref f0 i j)
  rw [h1] at Hends
  have HH := hid hH
  have Hl := hid (And.intro l1 (And.intro l2 (And.intro l3 l4)))
  have hln := line_len hok hi hj
  have hlnI : ((σ.lineAt i j).length : Int) ≤ 1000 := by omega
  have hiI : (i : Int) < σ.sta.length := by omega
  have hjI : (j : Int) < σ.sta.length := by omega
  generalize hll : σ.lineAt i j = l at *
  have Hml := hid (show (l.map Msg.told).length = l.length by simp)
  clear a0 k0 hr hH h1 l1 l2 l3 l4 hok hll
  go_enter Try.func33, Try.ntmps33
  go_wp2_with (go_at_call 73; refine Hends.out.mono ?_; rintro e w' ⟨rfl, rfl⟩)
  go_loopw [8, 9] (fun vo v wr => BuildInv 3 1 (El IntV) F w (l.map Msg.told) vo v wr) (fun _ v _ => l.length - (intOf v).toNat)
  case atStart => exact BuildInv.start HH.out (Ext.refl w)
  case round =>
    obtain ⟨t, ht, rfl, mo, ho, hHt, hEt⟩ := hrel
    rw [Hml.out] at ht
    obtain ⟨Ao, co, rfl, _⟩ := SlR.form ho
    have hlo : ((l.map Msg.told).take t).length = t := by rw [List.length_take, Hml.out]; omega
    rw [hlo] at ho ⊢
    obtain ⟨l1, l2, l3, l4⟩ := Hl.out
    have f1 := MS.at.cell l1 hHt
    have f2 := MS.at.cell l2 hHt
    have f3 := MS.at.cell l3 hHt
    by_cases hlt : t < l.length
    · obtain ⟨x, hx⟩ : ∃ x, l[t]? = some x := ⟨_, List.getElem?_eq_getElem hlt⟩
      obtain ⟨bm, om, Ac, cc, hA, e1, _, _⟩ := l4.getRmsg hx
      subst hA
      have f4 := MS.at.cell e1 hHt
      have Ho := hid ho
      have HHt := hid hHt
      have HEt := hid hEt
      have Hlt := hid hlt
      have Hlo := hid hlo
      have Hmx := hid (take_more (l := l.map Msg.told) (t := t) (a := x.told) (by rw [List.getElem?_map, hx]; rfl))
      have hltI : (t : Int) < l.length := by omega
      clear ho hHt hEt hlo hx e1 l1 l2 l3 l4 hlt
      go_wp2_with (at_builtin; refine wpList_push rfl (.tmp 30) (.tmp 45) row22 rfl (.slice Ao t co) rfl _ rfl rfl (El IntV) El.one El.len ((l.map Msg.told).take t) x.told mo 0 F Ho.out ⟨_, rfl, ⟨rfl, rfl⟩, rfl⟩ (HHt.out.eq (by rw [MS.zero_add])) t Hlo.out (by omega) (by omega) ?_; intro A8 c8 w8 m8 j4 j5 j6; have J4 := hid j4; have J5 := hid j5; have J6 := hid j6; clear j4 j5 j6)
      go_roundw
      case rel => exact ⟨t + 1, by rw [Hml.out]; exact Hlt.out, by go_num, m8, by rw [Hmx.out]; exact J4.out, J5.out, HEt.out.trans J6.out⟩
      case measure => have := Hlt.out; simp [intOf]; omega
    · obtain rfl : t = l.length := by omega
      have Ho := hid ho
      have HHt := hid hHt
      have HEt := hid hEt
      clear ho hHt hEt l1 l2 l3 l4
      go_wp2
      go_ret2
      exact ⟨Ao, co, mo, rfl, by have := Ho.out; rw [List.take_of_length_le (by rw [Hml.out]; omega)] at this; exact this, HHt.out, HEt.out⟩

theorem rfin_no {F : MS} {σ : Net} {b : Nat} {w : World} (hr : RdRef F σ b) (hH : Has w F) (no : Int) (h : σ.atErr no = 6) :
    Calls Try.prog 74 #[.pointer (some ⟨b, 0, none⟩), .int .i64 no] w fun e w' => e = .returned (.tuple #[.bool false, .int .i64 6]) ∧ w = w' := by
  obtain ⟨A0, c0, A2, c2, A3, c3, A4, c4, a0, k0, a2, k2, a3, k3, a4, k4⟩ := hr.head
  have f4 := a4.cell0 hH
  have hno : no < 1 ∨ (σ.shots.length : Int) < no := by unfold Net.atErr at h; split at h; assumption; cases h
  clear a0 k0 a2 k2 a3 k3 a4 k4 hr hH h
  by_cases h1 : no < 1
  · clear hno
    go_enter Try.func74, Try.ntmps74
    go_wp2
    go_ret2
    exact ⟨rfl, rfl⟩
  · have h2 : (σ.shots.length : Int) < no := hno.resolve_left h1
    clear hno
    go_enter Try.func74, Try.ntmps74
    go_wp2
    go_ret2
    exact ⟨rfl, rfl⟩
/-- A snapshot, as read. -/
theorem RdRef.shot {F : MS} {σ : Net} {b : Nat} (h : RdRef F σ b) (hok : NetOk σ) {k : Nat} (hk : k < σ.shots.length) :
    ∃ A4 c4 b5 o5 S0 s0 S1 s1 S2 s2 S3 s3 S4 s4, A4 = some ⟨b5, o5, none⟩ ∧ F.at b 4 (.slice A4 σ.shots.length c4) ∧ (F.at b5 (o5 + k * 5) (.slice S0 σ.sta.length s0) ∧ F.at b5 (o5 + k * 5 + 1) (.slice S1 σ.sta.length s1) ∧ F.at b5 (o5 + k * 5 + 2) (.slice S2 σ.sta.length s2) ∧ F.at b5 (o5 + k * 5 + 3) (.slice S3 σ.sta.length s3) ∧ F.at b5 (o5 + k * 5 + 4) (.slice S4 σ.sta.length s4)) ∧
      RdS F RT.bool (σ.X k).recorded (.slice S0 σ.sta.length s0) ∧ RdS F RT.int (σ.X k).pieces (.slice S1 σ.sta.length s1) ∧ RdS F RT.int (σ.X k).cut (.slice S2 σ.sta.length s2) ∧ RdS F (RT.sl RT.bool) (σ.X k).closed (.slice S3 σ.sta.length s3) ∧ RdS F (RT.sl (RT.sl RT.int)) (σ.X k).under (.slice S4 σ.sta.length s4) := by
  obtain ⟨A0, c0, A2, c2, A3, c3, A4, c4, a0, k0, a2, k2, a3, k3, a4, k4⟩ := h.head
  obtain ⟨z1, z2, z3, z4, z5, z6, z7⟩ := hok.shot (σ.X k) (List.mem_of_getElem? (Net.X_some hk))
  obtain ⟨b5, o5, S0, s0, S1, s1, S2, s2, S3, s3, S4, s4, hA4, ⟨e0, e1, e2, e3, e4⟩, r0, r1, r2, r3, r4⟩ := k4.getRshot (Net.X_some hk)
  rw [z1] at e0 r0
  rw [z5] at e1 r1
  rw [z4] at e2 r2
  rw [z2] at e3 r3
  rw [z6] at e4 r4
  exact ⟨A4, c4, b5, o5, S0, s0, S1, s1, S2, s2, S3, s3, S4, s4, hA4, a4, ⟨e0, e1, e2, e3, e4⟩, r0, r1, r2, r3, r4⟩

set_option maxHeartbeats 4000000 in
theorem rfin_yes {F : MS} {σ : Net} {b : Nat} {w : World} (hok : NetOk σ) (hr : RdRef F σ b) (hH : Has w F) {k : Nat} (hk : k < σ.shots.length) :
    Calls Try.prog 74 #[.pointer (some ⟨b, 0, none⟩), .int .i64 (k + 1)] w fun e w' => e = .returned (.tuple #[.bool ((σ.X k).fin σ.sta.length), .int .i64 0]) ∧ (∀ M, Has w M → Has w' M) ∧ Ext w w' := by
  obtain ⟨A0, c0, A2, c2, A3, c3, A4, c4, a0, k0, _⟩ := hr.head
  obtain ⟨A4, c4, b5, o5, S0, s0, S1, s1, S2, s2, S3, s3, S4, s4, rfl, a4, ⟨e0, e1, e2, e3, e4⟩, r0, r1, r2, r3, r4⟩ := hr.shot hok hk
  have f4 := a4.cell0 hH
  have i0 := e0.cell0 hH
  have i1 := e1.cell0 hH
  have i2 := e2.cell0 hH
  have i3 := e3.cell0 hH
  have i4 := e4.cell0 hH
  obtain ⟨z1, z2, z3, z4, z5, z6, z7⟩ := hok.shot (σ.X k) (List.mem_of_getElem? (Net.X_some hk))
  generalize hn : σ.sta.length = n at *
  generalize hxx : σ.X k = x at *
  have hn5 : (n : Int) ≤ 5 := by have := hok.n5; omega
  have hn2 : 0 < n := by have := hok.n2; omega
  have hk8 : (k : Int) < 8 := by have := hok.shots; omega
  have hkI : (k : Int) < σ.shots.length := by omega
  have e1' : ¬ ((k : Int) + 1 < 1) := by omega
  have e2' : ¬ ((σ.shots.length : Int) < (k : Int) + 1) := by omega
  have hw2 : IntKind.i64.wrap ((k : Int) + 1 - 1) = (k : Int) := by rw [IntKind.wrap_i64]; omega
  have HA := hH.alloc (.cells #[.slice S0 n s0, .slice S1 n s1, .slice S2 n s2, .slice S3 n s3, .slice S4 n s4] 150)
  have Hrd := hid (And.intro a0 (And.intro r0 r3))
  have hgb := World.block_lt_of_cell? _ _ i0
  simp only at hgb
  have Hz := hid (And.intro z1 (And.intro z2 z3))
  have HE := hid (And.intro (fun M (h : Has w M) => (h.alloc (.cells #[.slice S0 n s0, .slice S1 n s1, .slice S2 n s2, .slice S3 n s3, .slice S4 n s4] 150)).right) (Ext.alloc w (.cells #[.slice S0 n s0, .slice S1 n s1, .slice S2 n s2, .slice S3 n s3, .slice S4 n s4] 150)))
  have HHA := hid HA
  obtain ⟨fin, hfin⟩ : ∃ q, q = x.fin n := ⟨_, rfl⟩
  rw [← hfin]
  have Hfin := hid hfin
  have h00 := HA.at_ (p := w.heap.size) (i := 0) rfl
  have h03 := HA.at_ (p := w.heap.size) (i := 3) rfl
  have f00 : (w.alloc (.cells #[.slice S0 n s0, .slice S1 n s1, .slice S2 n s2, .slice S3 n s3, .slice S4 n s4] 150)).cell? ⟨b, 0, none⟩ = some (.slice A0 n c0) := MS.at.cell a0 HA
  have Hcl := hid (show ∀ t, t < n → ∃ bq oq b2 o2 c2, S0 = some ⟨bq, oq, none⟩ ∧ F.at bq (oq + t) (.bool (x.recorded.getD t false)) ∧ ∃ b3 o3, S3 = some ⟨b3, o3, none⟩ ∧ F.at b3 (o3 + t) (.slice (some ⟨b2, o2, none⟩) n c2) ∧ ∀ u, u < n → F.at b2 (o2 + u) (.bool ((x.closed.getD t []).getD u false)) from fun t ht => by
    obtain ⟨bq, oq, g1, g2⟩ := r0.getBool (i := t) (get_getD false (by omega))
    have hrr := get_getD (l := x.closed) (j := t) [] (by omega)
    have hrl := z3 _ (List.mem_of_getElem? hrr)
    obtain ⟨b3, o3, A, c, g3, g4, g5, _⟩ := r3.getSl hrr
    rw [hrl] at g4 g5
    obtain ⟨b2, o2, g6, _⟩ := g5.getBool (i := 0) (get_getD false (by omega))
    subst g6
    refine ⟨bq, oq, b2, o2, c, g1, g2, b3, o3, g3, g4, fun u hu => ?_⟩
    obtain ⟨b2', o2', g6, g7⟩ := g5.getBool (i := u) (get_getD false (by omega))
    simp only [Option.some.injEq, Addr.mk.injEq] at g6
    obtain ⟨rfl, rfl, _⟩ := g6
    exact g7)
  clear hfin a0 k0 a4 e0 e1 e2 e3 e4 r0 r1 r2 r3 r4 z1 z2 z3 z4 z5 z6 z7 hr hH HA hok
  go_enter Try.func74, Try.ntmps74
  go_wp2
  generalize hg9 : w.heap.size = g at *
  generalize w.alloc _ = wa at *
  clear i0 i1 i2 i3 i4 f4 hgb hg9
  go_loop [7] (fun v => ∃ t : Nat, t ≤ n ∧ v = .int .i64 t ∧ ((List.range t).all fun i => (List.range n).all (cellOk x i)) = true) (fun v => n - (intOf v).toNat)
  case atStart => exact ⟨0, Nat.zero_le _, rfl, rfl⟩
  case round =>
    obtain ⟨t, ht, rfl, hall⟩ := hrel
    have Hall := hid hall
    clear hall
    by_cases hlt : t < n
    · obtain ⟨bq, oq, b2, o2, c2, rfl, k1, b3, o3, rfl, k2, k3⟩ := Hcl.out t hlt
      have Hk := hid k3
      have Hlt := hid hlt
      have hrt := MS.at.cell k1 HHA.out
      have hrow := MS.at.cell k2 HHA.out
      obtain ⟨rc, hrc⟩ : ∃ q, q = x.recorded.getD t false := ⟨_, rfl⟩
      rw [← hrc] at hrt
      have Hrc := hid hrc
      have htn : (t : Int) < n := by omega
      clear k1 k2 k3 hrc
      cases rc with
      | false =>
        have hF := hid (show x.fin n = false from all_range_false Hlt.out (all_range_false Hlt.out (show cellOk x t t = false by unfold cellOk; rw [← Hrc.out]; rfl)))
        go_wp2
        go_ret2
        exact ⟨by rw [Hfin.out, hF.out]; rfl, HE.out.1, HE.out.2⟩
      | true =>
        go_wp2
        go_loop [8] (fun v => ∃ s : Nat, s ≤ n ∧ v = .int .i64 s ∧ ((List.range s).all (cellOk x t)) = true) (fun v => n - (intOf v).toNat)
        case atStart => exact ⟨0, Nat.zero_le _, rfl, rfl⟩
        case round =>
          obtain ⟨s, hs, rfl, hal2⟩ := hrel
          have Hal2 := hid hal2
          clear hal2
          by_cases hls : s < n
          · have k3 := MS.at.cell (Hk.out s hls) HHA.out
            obtain ⟨qc, hqc⟩ : ∃ q, q = (x.closed.getD t []).getD s false := ⟨_, rfl⟩
            rw [← hqc] at k3
            have Hls := hid hls
            have Hqc := hid hqc
            have hsn : (s : Int) < n := by omega
            clear hqc
            cases hcell : cellOk x t s with
            | false =>
              have hF := hid (show x.fin n = false from all_range_false Hlt.out (all_range_false Hls.out hcell))
              have hce := hid hcell
              clear hcell
              have hts : ((s : Int) != (t : Int)) = true := by
                have h1 := hce.out
                unfold cellOk at h1
                rw [← Hrc.out] at h1
                simp only [Bool.true_and, Bool.or_eq_false_iff, beq_eq_false_iff_ne] at h1
                simp; omega
              have hq0 : qc = false := by
                have h1 := hce.out
                unfold cellOk at h1
                rw [← Hrc.out, ← Hqc.out] at h1
                simp only [Bool.true_and, Bool.or_eq_false_iff] at h1
                exact h1.2
              subst hq0
              go_wp2
              go_ret2
              exact ⟨by rw [Hfin.out, hF.out]; rfl, HE.out.1, HE.out.2⟩
            | true =>
              have hS := hid (show ((List.range (s + 1)).all (cellOk x t)) = true by rw [all_range_succ, Hal2.out, hcell]; rfl)
              have hce := hid hcell
              clear hcell
              by_cases hts : s = t
              · have hts' : ((s : Int) != (t : Int)) = false := by simp; omega
                clear hts
                go_wp2
                go_round
                case rel => exact ⟨s + 1, Hls.out, by go_num, hS.out⟩
                case measure => have := Hls.out; simp [intOf]; omega
              · have hts' : ((s : Int) != (t : Int)) = true := by simp; omega
                have hq1 : qc = true := by
                  have h1 := hce.out
                  unfold cellOk at h1
                  rw [← Hrc.out, ← Hqc.out] at h1
                  simp only [Bool.true_and, Bool.or_eq_true, beq_iff_eq] at h1
                  exact h1.resolve_left (fun h => hts h.symm)
                subst hq1
                clear hts
                go_wp2
                go_round
                case rel => exact ⟨s + 1, Hls.out, by go_num, hS.out⟩
                case measure => have := Hls.out; simp [intOf]; omega
          · obtain rfl : s = n := by omega
            have hS := hid (show ((List.range (t + 1)).all fun i => (List.range s).all (cellOk x i)) = true by rw [all_range_succ, Hall.out, Hal2.out]; rfl)
            go_wp2
            go_round
            case rel => exact ⟨t + 1, Hlt.out, by go_num, hS.out⟩
            case measure => have := Hlt.out; simp [intOf]; omega
    · obtain rfl : t = n := by omega
      go_wp2
      go_ret2
      exact ⟨by rw [Hfin.out]; unfold Shot.fin; rw [Hall.out]; rfl, HE.out.1, HE.out.2⟩

theorem rready_any {F : MS} {σ : Net} {b : Nat} {w : World} (hok : NetOk σ) (hr : RdRef F σ b) (hH : Has w F) (no : Int) :
    Calls Try.prog 93 #[.pointer (some ⟨b, 0, none⟩), .int .i64 no] w fun e w' => e = .returned (.int .i64 (σ.snapErr no)) ∧ (∀ M, Has w M → Has w' M) ∧ Ext w w' := by
  rcases atErr_cases σ no with h | ⟨h, k, rfl, hk⟩
  · have Hc := hid (rfin_no hr hH no h)
    have e : σ.snapErr no = 6 := by unfold Net.snapErr; rw [if_neg (by rw [h]; decide)]
    rw [e]
    clear e h hr hH hok
    go_enter Try.func93, Try.ntmps93
    go_wp2_with (go_at_call 74; refine Hc.out.mono ?_; rintro e w' ⟨rfl, rfl⟩)
    go_ret
    exact ⟨rfl, fun _ h => h, Ext.refl w⟩
  · have Hc := hid (rfin_yes hok hr hH hk)
    have e : σ.snapErr (k + 1) = finErr ((σ.X k).fin σ.sta.length) := by
      unfold Net.snapErr
      rw [if_pos h, show ((k : Int) + 1 - 1).toNat = k by omega, Net.X_some hk]
    rw [e]
    clear e h hr hH hok
    cases hf : (σ.X k).fin σ.sta.length with
    | true =>
      rw [hf] at Hc
      clear hf
      go_enter Try.func93, Try.ntmps93
      go_wp2_with (go_at_call 74; refine Hc.out.mono ?_; rintro e w' ⟨rfl, k1, k2⟩; have K1 := hid k1; clear k1)
      go_ret
      exact ⟨rfl, K1.out, k2⟩
    | false =>
      rw [hf] at Hc
      clear hf
      go_enter Try.func93, Try.ntmps93
      go_wp2_with (go_at_call 74; refine Hc.out.mono ?_; rintro e w' ⟨rfl, k1, k2⟩; have K1 := hid k1; clear k1)
      go_ret
      exact ⟨rfl, K1.out, k2⟩
theorem rcut_no {F : MS} {σ : Net} {b : Nat} {w : World} (hok : NetOk σ) (hr : RdRef F σ b) (hH : Has w F) (no : Int) (he : σ.snapErr no ≠ 0) :
    Calls Try.prog 77 #[.pointer (some ⟨b, 0, none⟩), .int .i64 no] w fun e w' => e = .returned (.tuple #[.slice none 0 0, .int .i64 (σ.snapErr no)]) ∧ (∀ M, Has w M → Has w' M) ∧ Ext w w' := by
  have Hc := hid (rready_any hok hr hH no)
  generalize σ.snapErr no = c at *
  have hc : (c != 0) = true := by simpa using he
  clear he hr hH hok
  go_enter Try.func77, Try.ntmps77
  go_wp2_with (go_at_call 93; refine Hc.out.mono ?_; rintro e w' ⟨rfl, k1, k2⟩; have K1 := hid k1; clear k1)
  go_ret2
  exact ⟨rfl, K1.out, k2⟩
theorem rcut_yes {F : MS} {σ : Net} {b : Nat} {w : World} (hok : NetOk σ) (hr : RdRef F σ b) (hH : Has w F) {k : Nat} (hk : k < σ.shots.length) (he : σ.snapErr (k + 1) = 0) :
    Calls Try.prog 77 #[.pointer (some ⟨b, 0, none⟩), .int .i64 (k + 1)] w fun e w' => ∃ A c, e = .returned (.tuple #[.slice A σ.sta.length c, .int .i64 0]) ∧ RdS F RT.int (σ.X k).cut (.slice A σ.sta.length c) ∧ (∀ M, Has w M → Has w' M) ∧ Ext w w' := by
  have Hc := hid (rready_any hok hr hH (k + 1))
  rw [he] at Hc
  obtain ⟨A4, c4, b5, o5, S0, s0, S1, s1, S2, s2, S3, s3, S4, s4, rfl, a4, ⟨e0, e1, e2, e3, e4⟩, r0, r1, r2, r3, r4⟩ := hr.shot hok hk
  have Ha := hid (And.intro a4 (And.intro e2 r2))
  have HH := hid hH
  have hkI : (k : Int) < σ.shots.length := by omega
  have hk8 : (k : Int) < 8 := by have := hok.shots; omega
  have hw2 : IntKind.i64.wrap ((k : Int) + 1 - 1) = (k : Int) := by rw [IntKind.wrap_i64]; omega
  clear he a4 e0 e1 e2 e3 e4 r0 r1 r2 r3 r4 hr hH hok
  go_enter Try.func77, Try.ntmps77
  go_wp2_with (go_at_call 93; refine Hc.out.mono ?_; rintro e w' ⟨rfl, k1, k2⟩; have f1 := Ha.out.1.cell0 (k1 _ HH.out); have f2 := Ha.out.2.1.cell0 (k1 _ HH.out); have K1 := hid k1; clear k1)
  go_ret2
  exact ⟨S2, s2, rfl, Ha.out.2.2, K1.out, k2⟩
end Go.Proofs.Ytnkgfgkgepadhaa

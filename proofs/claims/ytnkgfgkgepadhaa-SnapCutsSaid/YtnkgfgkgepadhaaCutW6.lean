/-
  The walk of the reference's Ideals.
-/
import Derived.Test.YtnkgfgkgepadhaaCutW5
import Derived.Test.YtnkgfgkgepadhaaDigits
namespace Go.Proofs.Ytnkgfgkgepadhaa
open Go.RowKit
set_option linter.unusedVariables false
set_option linter.unusedSimpArgs false
set_option maxHeartbeats 4000000
set_option maxRecDepth 100000

def cntH (n : Nat) (l : List Ev) (t : Nat) : Nat := (List.range t).countP fun u => holdsB n l (cutL n l u)
theorem cntH_succ (n : Nat) (l : List Ev) (t : Nat) : cntH n l (t + 1) = cntH n l t + if holdsB n l (cutL n l t) = true then 1 else 0 := by
  unfold cntH
  rw [List.range_succ, List.countP_append]
  cases h : holdsB n l (cutL n l t) <;> simp [h]
theorem cntH_le (n : Nat) (l : List Ev) (t : Nat) : cntH n l t ≤ t := by
  unfold cntH
  have := List.countP_le_length (p := fun u => holdsB n l (cutL n l u)) (l := List.range t)
  rwa [List.length_range] at this
/-- What the reference's Ideals returns. -/
def ridl (n : Nat) (l : List Ev) : Int × Int := if 100000 < cntH n l (tot (evBs n l)) then (0, 8) else ((cntH n l (tot (evBs n l)) : Int), 0)
def cellN (W : World) (b o j : Nat) : Nat := match W.cell? ⟨b, o + j, none⟩ with | some (.int _ x) => x.toNat | _ => 0
def digsOf (W : World) (b o n : Nat) : List Nat := (List.range n).map (cellN W b o)
theorem digsOf_eq {W : World} {X m : MS} {b o n c : Nat} {cu : List Int} (h : Ints cu (.slice (some ⟨b, o, none⟩) n c) m) (hH : Has W (m + X)) (hl : cu.length = n) : digsOf W b o n = cu.map Int.toNat := by
  apply List.ext_getElem
  · simp [digsOf, hl]
  · intro j h1 h2
    have hj : j < cu.length := by simpa using h2
    obtain ⟨cur, rfl, _, z2, _⟩ := ints_at h (j := j) hj
    have := hH.at_ z2
    simp only [digsOf, List.getElem_map, List.getElem_range, cellN, this]
    simp [List.getD, hj]
theorem cutL_nat (n : Nat) (l : List Ev) (t : Nat) : (cutL n l t).map Int.toNat = dig (evBs n l) t := by
  unfold cutL
  rw [List.map_map]
  conv => rhs; rw [← List.map_id (dig (evBs n l) t)]
  exact List.map_congr_left fun x _ => by simp

theorem rideals_bad {F : MS} {n : Int} {l : List Ev} {A : Option Addr} {k c : Nat} {w : World} (hr : RdS F RT.ev l (.slice A k c)) (hH : Has w F) (he : evErr n l ≠ 0) :
    Calls Try.prog 45 #[.int .i64 n, .slice A k c] w fun e w' => e = .returned (.tuple #[.int .i64 0, .int .i64 (evErr n l)]) ∧ Kp w w' := by
  have Hev := hid (events_err (n := n) hr hH)
  clear hr hH
  generalize evErr n l = er at *
  go_enter Try.func45, Try.ntmps45
  go_wp2_with (go_at_call 42; refine Hev.out.mono ?_; rintro e w1 ⟨rfl, k1⟩; have K1 := hid k1; clear k1)
  go_ret2
  exact ⟨rfl, K1.out⟩
theorem rideals_any {F : MS} {n : Nat} {l : List Ev} {A : Option Addr} {k c : Nat} {w : World} (hr : RdS F RT.ev l (.slice A k c)) (hH : Has w F) (he : evErr n l = 0) :
    Calls Try.prog 45 #[.int .i64 n, .slice A k c] w fun e w' => e = .returned (.tuple #[.int .i64 (ridl n l).1, .int .i64 (ridl n l).2]) ∧ Kp w w' := by
  obtain ⟨rfl, _⟩ := hr.cells
  obtain ⟨n2, n5, h60, hgood⟩ := evErr_ok he
  have Hev := hid (events_err (n := (n : Int)) hr hH)
  rw [he] at Hev
  have Hra := hid (rd_all_evs hr hH)
  have HH := hid hH
  have Hst := hid (ok_st hgood)
  have Hmt := hid (fun i hi hw => (hgood i hi).2 hw)
  have lI : (l.length : Int) ≤ 60 := by omega
  have nI : (n : Int) ≤ 5 := by omega
  have L60 := hid h60
  have N0 := hid (show 0 < n by omega)
  have N5 := hid (show n ≤ 5 by omega)
  obtain ⟨T, hT⟩ : ∃ T, T = tot (evBs n l) := ⟨_, rfl⟩
  have HTb := hid (show T ≤ 844596301 by rw [hT]; exact evBs_tot (by omega) h60)
  have HT0 := hid (show 0 < T by rw [hT]; exact tot_pos _)
  have HT := hid hT
  obtain ⟨res, hres⟩ : ∃ r, r = ridl n l := ⟨_, rfl⟩
  have Hres := hid (show res = if 100000 < cntH n l T then (0, 8) else ((cntH n l T : Int), 0) by rw [hres, hT]; rfl)
  rw [← hres]
  clear hr hH he hgood hT hres h60
  go_enter Try.func45, Try.ntmps45
  go_wp2_with (first
    | (go_at_call 42; refine Hev.out.mono ?_; rintro e w1 ⟨rfl, k1⟩; have K1 := hid k1; clear k1)
    | (at_make; refine wpList_make_sl rfl (.tmp 16) (.tmp 16) 22 rfl 3 _ 1 8 Try.underlying22 info3 .i64 .i64 n rfl rfl (by omega) (by simp only [maxLen]; omega) _ (K1.out.1 _ (Has.all w)) ?_; intro v' w2 m1 k1 k2 k3 _; have h1' := made_ints k1; obtain ⟨As, ks, rfl, _⟩ := k1.form; obtain ⟨bs, os, rfl⟩ := ints_some h1' (by rw [List.length_replicate]; exact N0.out); have K2 := hid h1'; have K3 := hid k2; have E3 := hid (K1.out.2.trans k3); clear k1 k2 k3 h1'))
  go_loopw [8, 9] (fun v8 v9 wr => ∃ t s : Nat, t ≤ T ∧ s ≤ n ∧ (s < n ↔ t < T) ∧ v9 = .int .i64 s ∧ v8 = .int .i64 (cntH n l t) ∧ ∃ cu ms, (t < T → cu = cutL n l t) ∧ cu.length = n ∧ Ints cu (.slice (some ⟨bs, os, none⟩) n ks) ms ∧ Has wr (ms + MS.all w) ∧ Ext w wr) (fun _ v9 W => if intOf v9 < n then T - val (evBs n l) (digsOf W bs os n) else 0)
  case atStart =>
    refine ⟨0, 0, Nat.zero_le _, Nat.zero_le _, ⟨fun _ => HT0.out, fun _ => N0.out⟩, rfl, rfl, List.replicate n 0, m1, fun _ => ?_, by simp, K2.out, K3.out, E3.out⟩
    unfold cutL; rw [dig_zero, evBs_len, List.map_replicate]; rfl
  case round =>
    obtain ⟨t, s, ht, hs, hiff, rfl, rfl, cu, ms, hcu, hcl, hi, hHr, hE⟩ := hrel
    have HEr := hid hE
    have Hi := hid hi
    have HHr := hid hHr
    clear hE K1 K2 K3 E3
    by_cases hlt : t < T
    · have hsn := hiff.2 hlt
      have hsI : (s : Int) < n := by omega
      have hcu' := hcu hlt
      subst hcu'
      have Hold := hid (show (if intOf (Value.int .i64 (s : Int)) < n then T - val (evBs n l) (digsOf wr bs os n) else 0) = T - t by
        rw [if_pos (by simpa [intOf] using hsI), digsOf_eq hi hHr hcl, cutL_nat, val_dig _ _ (by rw [← HT.out]; exact hlt)])
      have Hh := hid (holds_any (n := n) (F := ms + MS.all w) (Hra.out.more ms) (hi.rdS.less _) hHr L60.out N5.out Hst.out Hmt.out)
      have Hc1 := hid (cntH_succ n l t)
      have hcb := cntH_le n l t
      have htb : (t : Int) ≤ 844596301 := by have := HTb.out; omega
      obtain ⟨kn, hkn⟩ : ∃ kn, kn = cntH n l t := ⟨_, rfl⟩
      rw [← hkn] at Hc1 hcb ⊢
      have hw1 : IntKind.i64.wrap ((kn : Int) + 1) = kn + 1 := by rw [IntKind.wrap_i64]; omega
      obtain ⟨kn2, hkn2⟩ : ∃ kn2, kn2 = cntH n l (t + 1) := ⟨_, rfl⟩
      rw [← hkn2] at Hc1
      have Hkn2 := hid hkn2
      have Hlt := hid hlt
      have Hdle := hid (fun r (hr : r < n) => dig_le (evBs n l) t r (by rw [evBs_len]; exact hr))
      clear hcu hcl hi hHr hlt hkn hcb hiff hsn hkn2 hs
      obtain ⟨hb, hhb⟩ : ∃ hb, hb = holdsB n l (cutL n l t) := ⟨_, rfl⟩
      rw [← hhb] at Hh Hc1
      clear hhb
      cases hb with
      | true =>
        have Hc2 := hid (show kn2 = kn + 1 by rw [Hc1.out]; rfl)
        go_wp2_with (go_at_call 81; refine Hh.out.mono ?_; rintro e w3 ⟨rfl, m3, rfl⟩; have Hw3 := hid (HHr.out.drewN m3); have He3 := hid (HEr.out.trans (Ext.drewN wr m3)))
        go_loopw [9] (fun v9 wq => ∃ r : Nat, r ≤ n ∧ v9 = .int .i64 r ∧ (∀ q, q < r → (dig (evBs n l) t).getD q 0 = cntS l l.length q) ∧ ∃ ms, Ints (cutZ n l t r) (.slice (some ⟨bs, os, none⟩) n ks) ms ∧ Has wq (ms + MS.all w) ∧ Ext w wq) (fun v _ => n - (intOf v).toNat)
        case atStart => exact ⟨0, Nat.zero_le _, rfl, fun q hq => by omega, ms, Hi.out, Hw3.out, He3.out⟩
        case round =>
          obtain ⟨r, hr, rfl, hmax, mz, hz, hHz, hEz⟩ := hrel
          have Hmax := hid hmax
          have Hz := hid hz
          have HHz := hid hHz
          have HEz := hid hEz
          clear hmax hz hHz hEz
          by_cases hrn : r < n
          · have hrI : (r : Int) < n := by omega
            have hr0 : (0 : Int) ≤ (r : Int) := by omega
            obtain ⟨cur, rfl, z1, z2, z3⟩ := ints_at Hz.out (j := r) (by rw [cutZ_len l t (by omega)]; exact hrn)
            rw [cutZ_get l t hrn] at z2
            have hdle := Hdle.out r hrn
            rw [evBs_get l hrn] at hdle
            have hBl := cntS_len l l.length r
            have Hnext := hid (cutZ_next (by rw [← HT.out]; exact Hlt.out) hrn Hmax.out)
            have Hover := hid (cutZ_over l t hrn (((dig (evBs n l) t).getD r 0 : Nat) + 1))
            have Hzl := hid (cutZ_len l t (Nat.le_of_lt hrn))
            have Hmore := hid (show (dig (evBs n l) t).getD r 0 = cntS l l.length r → ∀ q, q < r + 1 → (dig (evBs n l) t).getD q 0 = cntS l l.length q from fun h q hq => by
              by_cases hqr : q = r
              · rw [hqr]; exact h
              · exact Hmax.out q (by omega))
            obtain ⟨d, hd⟩ : ∃ d, d = (dig (evBs n l) t).getD r 0 := ⟨_, rfl⟩
            rw [← hd] at z2 hdle Hnext Hover Hmore
            have Hmany := hid (fun (W : World) (hW : Has W (MS.all w)) => many_any (s := r) Hra.out hW (by have := L60.out; omega))
            obtain ⟨B, hB⟩ : ∃ B, B = cntS l l.length r := ⟨_, rfl⟩
            rw [← hB] at hdle hBl Hnext Hmore Hmany
            have hBI : (B : Int) ≤ l.length := by omega
            have hdI : (d : Int) ≤ B := by omega
            have hw2 : IntKind.i64.wrap ((d : Int) + 1) = d + 1 := by rw [IntKind.wrap_i64]; omega
            have f0 := HHz.out.at_ z2
            have Hz1 := hid z1
            have Hz3 := hid (z3 ((d : Int) + 1))
            have Hrn := hid hrn
            clear z1 z2 z3 hd hB hrn
            go_wp2_with (refine wpList_store_blk rfl (.tmp 35) (.tmp 34) 3 rfl size3 bs (os + r) (.int .i64 ((d : Int) + 1)) rfl rfl rfl cur 3 _ HHz.out Hz1.out ?_; intro w6 k1 k2; have J4 := hid k1; have J5 := hid (HEz.out.trans k2); have g0 := k1.at_ (arr_eq Hz1.out); clear k1 k2 f0)
            obtain ⟨cur2, hcur2, y1, y2, y3⟩ := ints_at Hz3.out (j := r) (by rw [List.length_set, Hzl.out]; exact Hrn.out)
            have Hy3 := hid (y3 0)
            rw [Hover.out] at Hy3
            have J6 := hid (show Has w6 (blk bs cur2 3 + MS.all w) by rw [← hcur2]; exact J4.out)
            have Hy1 := hid y1
            have Hz4 := hid (show Ints ((cutZ n l t r).set r ((d : Int) + 1)) (.slice (some ⟨bs, os, none⟩) n ks) (blk bs cur2 3) by rw [← hcur2]; exact Hz3.out)
            clear hcur2 y1 y2 y3
            by_cases hA : (d : Int) + 1 ≤ l.length
            · by_cases hB : (d : Int) + 1 ≤ B
              · obtain ⟨hn1, hn2⟩ := Hnext.out (by omega)
                have Hn1 := hid hn1
                have Hn2 := hid hn2
                rw [hn2] at Hz4
                clear hn1 hn2
                go_wp2
                go_quiet (first | (go_at_call 83; refine Calls.quiet_of (Hmany.out _ (J6.out.right.drewN _))))
                go_wp2
                go_roundw
                case rel => exact ⟨t + 1, r, Hlt.out, Nat.le_of_lt Hrn.out, ⟨fun _ => by rw [HT.out]; exact Hn1.out, fun _ => Hrn.out⟩, by go_num, by rw [← Hkn2.out]; rw [Hc2.out]; go_num, cutL n l (t + 1), _, fun _ => rfl, cutL_len _ _ _, Hz4.out, J6.out.drewN _, J5.out.trans (Ext.drewN _ _)⟩
                case measure =>
                  rw [Hold.out, if_pos (by have := Hrn.out; simp [intOf]; omega), digsOf_eq Hz4.out (J6.out.drewN _) (cutL_len _ _ _), cutL_nat, val_dig _ _ Hn1.out]
                  have := Hlt.out
                  omega
              · have hmo := hid (Hmore.out (by omega))
                go_wp2
                go_quiet (first | (go_at_call 83; refine Calls.quiet_of (Hmany.out _ (J6.out.right.drewN _))))
                go_wp2_with (refine wpList_store_blk rfl (.tmp 55) (.const (.int .i64 0)) 3 rfl size3 bs (os + r) (.int .i64 0) rfl rfl rfl cur2 3 _ (J6.out.drewN _) Hy1.out ?_; intro w7 k1 k2; have J7 := hid k1; have J8 := hid ((J5.out.trans (Ext.drewN _ _)).trans k2); clear k1 k2)
                go_roundw
                case rel => exact ⟨r + 1, Hrn.out, by go_num, hmo.out, _, Hy3.out, J7.out, J8.out⟩
                case measure => have := Hrn.out; simp [intOf]; omega
            · have hmo := hid (Hmore.out (by omega))
              have hA3 : (l.length : Int) < d + 1 := by omega
              have hA5 : decide ((d : Int) + 1 ≤ l.length) = false := decide_eq_false hA
              go_wp2
              go_quiet (fail)
              go_wp2_with (refine wpList_store_blk rfl (.tmp 55) (.const (.int .i64 0)) 3 rfl size3 bs (os + r) (.int .i64 0) rfl rfl rfl cur2 3 _ (J6.out.drewN _) Hy1.out ?_; intro w7 k1 k2; have J7 := hid k1; have J8 := hid ((J5.out.trans (Ext.drewN _ _)).trans k2); clear k1 k2)
              go_roundw
              case rel => exact ⟨r + 1, Hrn.out, by go_num, hmo.out, _, Hy3.out, J7.out, J8.out⟩
              case measure => have := Hrn.out; simp [intOf]; omega
          · have hrn' : r = n := by omega
            subst hrn'
            have Hend := hid (cutZ_end (by rw [← HT.out]; exact Hlt.out) Hmax.out)
            have Hzl := hid (cutZ_len l t (Nat.le_refl r))
            clear hrn
            go_wp2
            go_roundw
            case rel => exact ⟨t + 1, r, Hlt.out, Nat.le_refl _, ⟨fun h => absurd h (Nat.lt_irrefl _), fun h => by rw [← HT.out] at Hend; have := Hend.out; omega⟩, by go_num, by rw [← Hkn2.out]; rw [Hc2.out]; go_num, cutZ r l t r, mz, fun h => by rw [← HT.out] at Hend; have := Hend.out; omega, Hzl.out, Hz.out, HHz.out, HEz.out⟩
            case measure =>
              rw [Hold.out, if_neg (by simp [intOf])]
              have := Hlt.out
              omega
      | false =>
        have Hc2 := hid (show kn2 = kn by rw [Hc1.out]; rfl)
        go_wp2_with (go_at_call 81; refine Hh.out.mono ?_; rintro e w3 ⟨rfl, m3, rfl⟩; have Hw3 := hid (HHr.out.drewN m3); have He3 := hid (HEr.out.trans (Ext.drewN wr m3)))
        go_loopw [9] (fun v9 wq => ∃ r : Nat, r ≤ n ∧ v9 = .int .i64 r ∧ (∀ q, q < r → (dig (evBs n l) t).getD q 0 = cntS l l.length q) ∧ ∃ ms, Ints (cutZ n l t r) (.slice (some ⟨bs, os, none⟩) n ks) ms ∧ Has wq (ms + MS.all w) ∧ Ext w wq) (fun v _ => n - (intOf v).toNat)
        case atStart => exact ⟨0, Nat.zero_le _, rfl, fun q hq => by omega, ms, Hi.out, Hw3.out, He3.out⟩
        case round =>
          obtain ⟨r, hr, rfl, hmax, mz, hz, hHz, hEz⟩ := hrel
          have Hmax := hid hmax
          have Hz := hid hz
          have HHz := hid hHz
          have HEz := hid hEz
          clear hmax hz hHz hEz
          by_cases hrn : r < n
          · have hrI : (r : Int) < n := by omega
            have hr0 : (0 : Int) ≤ (r : Int) := by omega
            obtain ⟨cur, rfl, z1, z2, z3⟩ := ints_at Hz.out (j := r) (by rw [cutZ_len l t (by omega)]; exact hrn)
            rw [cutZ_get l t hrn] at z2
            have hdle := Hdle.out r hrn
            rw [evBs_get l hrn] at hdle
            have hBl := cntS_len l l.length r
            have Hnext := hid (cutZ_next (by rw [← HT.out]; exact Hlt.out) hrn Hmax.out)
            have Hover := hid (cutZ_over l t hrn (((dig (evBs n l) t).getD r 0 : Nat) + 1))
            have Hzl := hid (cutZ_len l t (Nat.le_of_lt hrn))
            have Hmore := hid (show (dig (evBs n l) t).getD r 0 = cntS l l.length r → ∀ q, q < r + 1 → (dig (evBs n l) t).getD q 0 = cntS l l.length q from fun h q hq => by
              by_cases hqr : q = r
              · rw [hqr]; exact h
              · exact Hmax.out q (by omega))
            obtain ⟨d, hd⟩ : ∃ d, d = (dig (evBs n l) t).getD r 0 := ⟨_, rfl⟩
            rw [← hd] at z2 hdle Hnext Hover Hmore
            have Hmany := hid (fun (W : World) (hW : Has W (MS.all w)) => many_any (s := r) Hra.out hW (by have := L60.out; omega))
            obtain ⟨B, hB⟩ : ∃ B, B = cntS l l.length r := ⟨_, rfl⟩
            rw [← hB] at hdle hBl Hnext Hmore Hmany
            have hBI : (B : Int) ≤ l.length := by omega
            have hdI : (d : Int) ≤ B := by omega
            have hw2 : IntKind.i64.wrap ((d : Int) + 1) = d + 1 := by rw [IntKind.wrap_i64]; omega
            have f0 := HHz.out.at_ z2
            have Hz1 := hid z1
            have Hz3 := hid (z3 ((d : Int) + 1))
            have Hrn := hid hrn
            clear z1 z2 z3 hd hB hrn
            go_wp2_with (refine wpList_store_blk rfl (.tmp 35) (.tmp 34) 3 rfl size3 bs (os + r) (.int .i64 ((d : Int) + 1)) rfl rfl rfl cur 3 _ HHz.out Hz1.out ?_; intro w6 k1 k2; have J4 := hid k1; have J5 := hid (HEz.out.trans k2); have g0 := k1.at_ (arr_eq Hz1.out); clear k1 k2 f0)
            obtain ⟨cur2, hcur2, y1, y2, y3⟩ := ints_at Hz3.out (j := r) (by rw [List.length_set, Hzl.out]; exact Hrn.out)
            have Hy3 := hid (y3 0)
            rw [Hover.out] at Hy3
            have J6 := hid (show Has w6 (blk bs cur2 3 + MS.all w) by rw [← hcur2]; exact J4.out)
            have Hy1 := hid y1
            have Hz4 := hid (show Ints ((cutZ n l t r).set r ((d : Int) + 1)) (.slice (some ⟨bs, os, none⟩) n ks) (blk bs cur2 3) by rw [← hcur2]; exact Hz3.out)
            clear hcur2 y1 y2 y3
            by_cases hA : (d : Int) + 1 ≤ l.length
            · by_cases hB : (d : Int) + 1 ≤ B
              · obtain ⟨hn1, hn2⟩ := Hnext.out (by omega)
                have Hn1 := hid hn1
                have Hn2 := hid hn2
                rw [hn2] at Hz4
                clear hn1 hn2
                go_wp2
                go_quiet (first | (go_at_call 83; refine Calls.quiet_of (Hmany.out _ (J6.out.right.drewN _))))
                go_wp2
                go_roundw
                case rel => exact ⟨t + 1, r, Hlt.out, Nat.le_of_lt Hrn.out, ⟨fun _ => by rw [HT.out]; exact Hn1.out, fun _ => Hrn.out⟩, by go_num, by rw [← Hkn2.out]; rw [Hc2.out], cutL n l (t + 1), _, fun _ => rfl, cutL_len _ _ _, Hz4.out, J6.out.drewN _, J5.out.trans (Ext.drewN _ _)⟩
                case measure =>
                  rw [Hold.out, if_pos (by have := Hrn.out; simp [intOf]; omega), digsOf_eq Hz4.out (J6.out.drewN _) (cutL_len _ _ _), cutL_nat, val_dig _ _ Hn1.out]
                  have := Hlt.out
                  omega
              · have hmo := hid (Hmore.out (by omega))
                go_wp2
                go_quiet (first | (go_at_call 83; refine Calls.quiet_of (Hmany.out _ (J6.out.right.drewN _))))
                go_wp2_with (refine wpList_store_blk rfl (.tmp 55) (.const (.int .i64 0)) 3 rfl size3 bs (os + r) (.int .i64 0) rfl rfl rfl cur2 3 _ (J6.out.drewN _) Hy1.out ?_; intro w7 k1 k2; have J7 := hid k1; have J8 := hid ((J5.out.trans (Ext.drewN _ _)).trans k2); clear k1 k2)
                go_roundw
                case rel => exact ⟨r + 1, Hrn.out, by go_num, hmo.out, _, Hy3.out, J7.out, J8.out⟩
                case measure => have := Hrn.out; simp [intOf]; omega
            · have hmo := hid (Hmore.out (by omega))
              have hA3 : (l.length : Int) < d + 1 := by omega
              have hA5 : decide ((d : Int) + 1 ≤ l.length) = false := decide_eq_false hA
              go_wp2
              go_quiet (fail)
              go_wp2_with (refine wpList_store_blk rfl (.tmp 55) (.const (.int .i64 0)) 3 rfl size3 bs (os + r) (.int .i64 0) rfl rfl rfl cur2 3 _ (J6.out.drewN _) Hy1.out ?_; intro w7 k1 k2; have J7 := hid k1; have J8 := hid ((J5.out.trans (Ext.drewN _ _)).trans k2); clear k1 k2)
              go_roundw
              case rel => exact ⟨r + 1, Hrn.out, by go_num, hmo.out, _, Hy3.out, J7.out, J8.out⟩
              case measure => have := Hrn.out; simp [intOf]; omega
          · have hrn' : r = n := by omega
            subst hrn'
            have Hend := hid (cutZ_end (by rw [← HT.out]; exact Hlt.out) Hmax.out)
            have Hzl := hid (cutZ_len l t (Nat.le_refl r))
            clear hrn
            go_wp2
            go_roundw
            case rel => exact ⟨t + 1, r, Hlt.out, Nat.le_refl _, ⟨fun h => absurd h (Nat.lt_irrefl _), fun h => by rw [← HT.out] at Hend; have := Hend.out; omega⟩, by go_num, by rw [← Hkn2.out]; rw [Hc2.out], cutZ r l t r, mz, fun h => by rw [← HT.out] at Hend; have := Hend.out; omega, Hzl.out, Hz.out, HHz.out, HEz.out⟩
            case measure =>
              rw [Hold.out, if_neg (by simp [intOf])]
              have := Hlt.out
              omega
    · have hsn : s = n := by
        by_cases h : s < n
        · exact absurd (hiff.1 h) hlt
        · omega
      have hte : t = T := by omega
      subst hsn
      subst hte
      have HK := hid (show Kp w wr from ⟨fun M hM => hM.of_all HHr.out, HEr.out⟩)
      obtain ⟨kn, hkn⟩ : ∃ kn, kn = cntH s l t := ⟨_, rfl⟩
      rw [← hkn] at Hres ⊢
      clear hlt hiff hcu hcl hi hHr hkn
      by_cases hbig : 100000 < kn
      · have hbI : (100000 : Int) < kn := by omega
        have hq := hid (show res = (0, 8) by rw [Hres.out, if_pos hbig])
        clear hbig
        go_wp2
        go_ret2
        exact ⟨by rw [hq.out]; rfl, HK.out⟩
      · have hbI : ¬ (100000 : Int) < kn := by omega
        have hq := hid (show res = ((kn : Int), 0) by rw [Hres.out, if_neg hbig])
        clear hbig
        go_wp2
        go_ret2
        exact ⟨by rw [hq.out]; rfl, HK.out⟩
end Go.Proofs.Ytnkgfgkgepadhaa

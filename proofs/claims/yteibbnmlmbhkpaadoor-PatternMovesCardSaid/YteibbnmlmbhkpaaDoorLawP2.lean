/-
  The walk of PatternMoves.
-/
import Derived.Test.YteibbnmlmbhkpaaDoorMW6
namespace Go.Proofs.YteibbnmlmbhkpaaDoor
open Go.RowKit
set_option linter.unusedVariables false
set_option linter.unusedSimpArgs false
set_option maxHeartbeats 4000000
set_option maxRecDepth 100000

theorem same_ap {p : List ByteArray} {m : Mv} {l l' : List ByteArray} {er er' : Int} (h1 : apOk p m = true → l = apL p m (apH p m) ∧ er = 0) (h2 : apOk p m = false → l = [] ∧ er = 2) (h1' : apOk p m = true → l' = apL p m (apH p m) ∧ er' = 0) (h2' : apOk p m = false → l' = [] ∧ er' = 2) : l' = l ∧ er' = er := by
  cases h : apOk p m with
  | true => obtain ⟨a, b⟩ := h1 h; obtain ⟨a', b'⟩ := h1' h; exact ⟨by rw [a, a'], by rw [b, b']⟩
  | false => obtain ⟨a, b⟩ := h2 h; obtain ⟨a', b'⟩ := h2' h; exact ⟨by rw [a, a'], by rw [b, b']⟩
theorem len_ap {p : List ByteArray} {m : Mv} {l : List ByteArray} {er : Int} (h1 : apOk p m = true → l = apL p m (apH p m) ∧ er = 0) (h2 : apOk p m = false → l = [] ∧ er = 2) : l.length ≤ 1000000 := by
  cases h : apOk p m with
  | true =>
    obtain ⟨a, b⟩ := h1 h
    unfold apOk at h
    rw [Bool.and_eq_true] at h
    have := (apWH (isPat.ok h.1).1 m).2
    rw [a, apL_len]; omega
  | false => rw [(h2 h).1]; simp
theorem same_sm {p : List ByteArray} {l l' : List ByteArray} {er er' : Int} (h1 : isPat p = true → ∃ x n, IsMin (fun n => shB p n 0) (wd p) x ∧ IsMin (fun n => shB p 0 n) p.length n ∧ l = cutL p x n ∧ er = 0) (h2 : isPat p = false → l = [] ∧ er = 2) (h1' : isPat p = true → ∃ x n, IsMin (fun n => shB p n 0) (wd p) x ∧ IsMin (fun n => shB p 0 n) p.length n ∧ l' = cutL p x n ∧ er' = 0) (h2' : isPat p = false → l' = [] ∧ er' = 2) : l' = l ∧ er' = er := by
  cases h : isPat p with
  | true =>
    obtain ⟨x, n, a, b, c, d⟩ := h1 h
    obtain ⟨x', n', a', b', c', d'⟩ := h1' h
    obtain rfl := a.uniq a'
    obtain rfl := b.uniq b'
    exact ⟨by rw [c, c'], by rw [d, d']⟩
  | false => obtain ⟨a, b⟩ := h2 h; obtain ⟨a', b'⟩ := h2' h; exact ⟨by rw [a, a'], by rw [b, b']⟩
theorem len_sm {p : List ByteArray} {l : List ByteArray} {er : Int} (h1 : isPat p = true → ∃ x n, IsMin (fun n => shB p n 0) (wd p) x ∧ IsMin (fun n => shB p 0 n) p.length n ∧ l = cutL p x n ∧ er = 0) (h2 : isPat p = false → l = [] ∧ er = 2) : l.length ≤ 1000000 := by
  cases h : isPat p with
  | true =>
    obtain ⟨x, n, a, b, c, d⟩ := h1 h
    have := b.nm
    have := (isPat.ok h).1.h6
    rw [c, cutL_len b.nm]; omega
  | false => rw [(h2 h).1]; simp
theorem patMov_any {F : MS} {p : List ByteArray} {A : Option Addr} {c : Nat} {w : World} (hr : RdS F RT.str p (.slice A p.length c)) (hs : ∀ s ∈ p, s.size ≤ maxLen) (hk : KinOk F) (hH : Has w F) {x y : Mv} (hx : x.v = x.v) (hy : y.v = y.v) :
    Calls Tryd.prog 6 #[.slice A p.length c, x.v, y.v] w (LawPost w F) := by
  clear hx hy
  have Hth := hid (fun W => then_any x y W)
  have Hrt := hid (fun W => refThen_any x y W)
  obtain ⟨⟨ta, tb, tc, td, te, tf⟩, ht⟩ : ∃ t, t = thenM x y := ⟨_, rfl⟩
  rw [← ht] at Hth Hrt
  clear ht
  obtain ⟨xa, xb, xc, xd, xe, xf⟩ := x
  obtain ⟨ya, yb, yc, yd, ye, yf⟩ := y
  obtain ⟨b1, hb1⟩ : ∃ b1, b1 = w.heap.size := ⟨_, rfl⟩
  obtain ⟨W2, hW2⟩ : ∃ W2, W2 = (w.alloc (.cells #[.int .i64 xa, .int .i64 xb, .int .i64 xc, .int .i64 xd, .int .i64 xe, .int .i64 xf] 41)).alloc (.cells #[.int .i64 ya, .int .i64 yb, .int .i64 yc, .int .i64 yd, .int .i64 ye, .int .i64 yf] 41) := ⟨_, rfl⟩
  have HA := hid (((Has.all w).alloc (.cells #[.int .i64 xa, .int .i64 xb, .int .i64 xc, .int .i64 xd, .int .i64 xe, .int .i64 xf] 41)).alloc (.cells #[.int .i64 ya, .int .i64 yb, .int .i64 yc, .int .i64 yd, .int .i64 ye, .int .i64 yf] 41))
  have HE := hid ((Ext.alloc w (.cells #[.int .i64 xa, .int .i64 xb, .int .i64 xc, .int .i64 xd, .int .i64 xe, .int .i64 xf] 41)).trans (Ext.alloc _ (.cells #[.int .i64 ya, .int .i64 yb, .int .i64 yc, .int .i64 yd, .int .i64 ye, .int .i64 yf] 41)))
  rw [show (w.alloc (.cells #[.int .i64 xa, .int .i64 xb, .int .i64 xc, .int .i64 xd, .int .i64 xe, .int .i64 xf] 41)).heap.size = b1 + 1 by rw [hb1]; simp, ← hb1] at HA
  rw [← hW2] at HA HE
  have HFW := hid (show Has W2 F from (hH.of_all (HA.out.eq (b := pts (b1 + 1) (.cells #[.int .i64 ya, .int .i64 yb, .int .i64 yc, .int .i64 yd, .int .i64 ye, .int .i64 yf] 41) + pts b1 (.cells #[.int .i64 xa, .int .i64 xb, .int .i64 xc, .int .i64 xd, .int .i64 xe, .int .i64 xf] 41) + MS.all w) (by ac_rfl))))
  have H2 := hid (show Has W2 (blk (b1 + 1) #[.int .i64 ya, .int .i64 yb, .int .i64 yc, .int .i64 yd, .int .i64 ye, .int .i64 yf] 41 + (blk b1 #[.int .i64 xa, .int .i64 xb, .int .i64 xc, .int .i64 xd, .int .i64 xe, .int .i64 xf] 41 + MS.all w)) from HA.out)
  have Keep := hid (show ∀ W, Has W (blk (b1 + 1) #[.int .i64 ya, .int .i64 yb, .int .i64 yc, .int .i64 yd, .int .i64 ye, .int .i64 yf] 41 + (blk b1 #[.int .i64 xa, .int .i64 xb, .int .i64 xc, .int .i64 xd, .int .i64 xe, .int .i64 xf] 41 + MS.all w)) → (W.cell? ⟨b1, 0, none⟩ = some (.int .i64 xa) ∧ W.cell? ⟨b1, 1, none⟩ = some (.int .i64 xb) ∧ W.cell? ⟨b1, 2, none⟩ = some (.int .i64 xc) ∧ W.cell? ⟨b1, 3, none⟩ = some (.int .i64 xd) ∧ W.cell? ⟨b1, 4, none⟩ = some (.int .i64 xe) ∧ W.cell? ⟨b1, 5, none⟩ = some (.int .i64 xf) ∧ W.cell? ⟨b1 + 1, 0, none⟩ = some (.int .i64 ya) ∧ W.cell? ⟨b1 + 1, 1, none⟩ = some (.int .i64 yb) ∧ W.cell? ⟨b1 + 1, 2, none⟩ = some (.int .i64 yc) ∧ W.cell? ⟨b1 + 1, 3, none⟩ = some (.int .i64 yd) ∧ W.cell? ⟨b1 + 1, 4, none⟩ = some (.int .i64 ye) ∧ W.cell? ⟨b1 + 1, 5, none⟩ = some (.int .i64 yf)) from fun W h => by
    have h' : Has W (blk b1 #[.int .i64 xa, .int .i64 xb, .int .i64 xc, .int .i64 xd, .int .i64 xe, .int .i64 xf] 41 + (blk (b1 + 1) #[.int .i64 ya, .int .i64 yb, .int .i64 yc, .int .i64 yd, .int .i64 ye, .int .i64 yf] 41 + MS.all w)) := h.eq (by ac_rfl)
    exact ⟨h'.at_ rfl, h'.at_ rfl, h'.at_ rfl, h'.at_ rfl, h'.at_ rfl, h'.at_ rfl, h.at_ rfl, h.at_ rfl, h.at_ rfl, h.at_ rfl, h.at_ rfl, h.at_ rfl⟩)
  clear HA
  generalize (blk (b1 + 1) #[.int .i64 ya, .int .i64 yb, .int .i64 yc, .int .i64 yd, .int .i64 ye, .int .i64 yf] 41 + (blk b1 #[.int .i64 xa, .int .i64 xb, .int .i64 xc, .int .i64 xd, .int .i64 xe, .int .i64 xf] 41 + MS.all w)) = M2 at *
  have Hfew := hid (few_any hr hs HFW.out)
  have Hal := hid (fun (W : World) (hW : Has W F) => alive_any hk hW)
  have HHF := hid hH
  have hth : ∀ W, Calls Tryd.prog 21 #[.agg #[.int .i64 xa, .int .i64 xb, .int .i64 xc, .int .i64 xd, .int .i64 xe, .int .i64 xf], .agg #[.int .i64 ya, .int .i64 yb, .int .i64 yc, .int .i64 yd, .int .i64 ye, .int .i64 yf]] W fun e w' => e = .returned (.agg #[.int .i64 ta, .int .i64 tb, .int .i64 tc, .int .i64 td, .int .i64 te, .int .i64 tf]) ∧ Kp W w' := Hth.out
  have hrt : ∀ W, Calls Tryd.prog 26 #[.agg #[.int .i64 xa, .int .i64 xb, .int .i64 xc, .int .i64 xd, .int .i64 xe, .int .i64 xf], .agg #[.int .i64 ya, .int .i64 yb, .int .i64 yc, .int .i64 yd, .int .i64 ye, .int .i64 yf]] W fun e w' => e = .returned (.agg #[.int .i64 ta, .int .i64 tb, .int .i64 tc, .int .i64 td, .int .i64 te, .int .i64 tf]) ∧ Kp W w' := Hrt.out
  have HTh := hid hth
  have HRt := hid hrt
  clear hth hrt Hth Hrt
  show Calls Tryd.prog 6 #[.slice A p.length c, .agg #[.int .i64 xa, .int .i64 xb, .int .i64 xc, .int .i64 xd, .int .i64 xe, .int .i64 xf], .agg #[.int .i64 ya, .int .i64 yb, .int .i64 yc, .int .i64 yd, .int .i64 ye, .int .i64 yf]] w (LawPost w F)
  cases hf : fewB p with
  | false =>
    rw [hf] at Hfew
    clear hf hr hs hk hH
    go_enter Tryd.func6, Tryd.ntmps6
    go_wp2_with (first
      | (go_at_call 8; rw [← hW2]; clear hW2; refine Hfew.out.mono ?_; rintro e1 w1 ⟨rfl, hw1⟩; rw [hw1]; clear hw1)
      | (go_at_call 9; refine (Hal.out _ HFW.out).mono ?_; rintro e2 w2 ⟨rfl, k2⟩; have K2 := hid k2; clear k2))
    go_ret
    exact ⟨rfl, K2.out.1 _ HFW.out, HE.out.trans K2.out.2⟩
  | true =>
    rw [hf] at Hfew
    unfold fewB at hf
    rw [decide_eq_true_eq] at hf
    obtain ⟨hl20, hs20⟩ := hf
    have hgiv : Giv F p A c := ⟨hr, by omega, fun s h => by have := hs20 s h; omega⟩
    have Hap := hid (fun (W : World) (hW : Has W F) => show Calls Tryd.prog 24 #[.slice A p.length c, .agg #[.int .i64 xa, .int .i64 xb, .int .i64 xc, .int .i64 xd, .int .i64 xe, .int .i64 xf]] W (ApRes p ⟨xa, xb, xc, xd, xe, xf⟩ W) from apply_any hgiv hk hW _)
    have Hra := hid (fun (W : World) (hW : Has W F) => show Calls Tryd.prog 27 #[.slice A p.length c, .agg #[.int .i64 xa, .int .i64 xb, .int .i64 xc, .int .i64 xd, .int .i64 xe, .int .i64 xf]] W (ApRes p ⟨xa, xb, xc, xd, xe, xf⟩ W) from refApply_any hgiv hW _)
    have Hsm := hid (fun (W : World) (hW : Has W F) => smallest_any hgiv hW)
    have Hrs := hid (fun (W : World) (hW : Has W F) => refSmallest_any hgiv hW)
    clear hr hs hk hH hl20 hs20 hgiv
    go_enter Tryd.func6, Tryd.ntmps6
    go_wp2_with (go_at_call 8; rw [← hW2, ← hb1]; clear hW2 hb1; refine Hfew.out.mono ?_; rintro e1 w1 ⟨rfl, hw1⟩; rw [hw1]; clear hw1)
    have hS := Keep.out W2.drew H2.out.drew
    refine wp_region_txt (fun W => W.cell? ⟨b1, 0, none⟩ = some (.int .i64 xa) ∧ W.cell? ⟨b1, 1, none⟩ = some (.int .i64 xb) ∧ W.cell? ⟨b1, 2, none⟩ = some (.int .i64 xc) ∧ W.cell? ⟨b1, 3, none⟩ = some (.int .i64 xd) ∧ W.cell? ⟨b1, 4, none⟩ = some (.int .i64 xe) ∧ W.cell? ⟨b1, 5, none⟩ = some (.int .i64 xf) ∧ W.cell? ⟨b1 + 1, 0, none⟩ = some (.int .i64 ya) ∧ W.cell? ⟨b1 + 1, 1, none⟩ = some (.int .i64 yb) ∧ W.cell? ⟨b1 + 1, 2, none⟩ = some (.int .i64 yc) ∧ W.cell? ⟨b1 + 1, 3, none⟩ = some (.int .i64 yd) ∧ W.cell? ⟨b1 + 1, 4, none⟩ = some (.int .i64 ye) ∧ W.cell? ⟨b1 + 1, 5, none⟩ = some (.int .i64 yf)) none
      [(0, true), (1, true), (3, true), (4, true), (2, false), (5, false), (6, true)] (by kernel_rfl) rfl (by kernel_rfl) (by kernel_rfl) (by repeat (first | with_reducible refine PanicOk.thn ?_ | with_reducible refine PanicOk.blk ?_ | exact PanicOk.body _ _ _)) ?_
    repeat
      (refine txt_quiet ?_ hS rfl rfl (fun W hW => ?_) ?_
       rotate_left 1
       · obtain ⟨hW1, hW2, hW3, hW4, hW5, hW6, hW7, hW8, hW9, hW10, hW11, hW12⟩ := hW
         go_simp
         exact rfl
       simp only [Act.put, List.setIfInBounds_toArray, List.set_cons_zero, List.set_cons_succ])
    refine txt_op rfl rfl ?_
    refine op_call 21 #[.agg #[.int .i64 xa, .int .i64 xb, .int .i64 xc, .int .i64 xd, .int .i64 xe, .int .i64 xf], .agg #[.int .i64 ya, .int .i64 yb, .int .i64 yc, .int .i64 yd, .int .i64 ye, .int .i64 yf]] W2.drew (by go_simp) _ (HTh.out W2.drew) ?_
    rintro e1 w1 ⟨rfl, k1⟩
    have J1 := hid (k1.1 _ H2.out.drew)
    have L1 := hid ((Kp.refl W2).drew.trans k1)
    refine ⟨_, rfl, fun _ => Keep.out w1 J1.out, ?_⟩
    clear hS k1
    simp only [Act.put, List.setIfInBounds_toArray, List.set_cons_zero, List.set_cons_succ]
    have hS := Keep.out w1 J1.out
    refine txt_op rfl rfl ?_
    refine op_call 26 #[.agg #[.int .i64 xa, .int .i64 xb, .int .i64 xc, .int .i64 xd, .int .i64 xe, .int .i64 xf], .agg #[.int .i64 ya, .int .i64 yb, .int .i64 yc, .int .i64 yd, .int .i64 ye, .int .i64 yf]] w1 (by go_simp) _ (HRt.out w1) ?_
    rintro e2 w2 ⟨rfl, k1⟩
    have J2 := hid (k1.1 _ J1.out)
    have L2 := hid (L1.out.trans k1)
    refine ⟨_, rfl, fun _ => Keep.out w2 J2.out, ?_⟩
    clear hS k1
    simp only [Act.put, List.setIfInBounds_toArray, List.set_cons_zero, List.set_cons_succ]
    have hS := Keep.out w2 J2.out
    repeat
      (refine txt_quiet ?_ hS rfl rfl (fun W hW => ?_) ?_
       rotate_left 1
       · obtain ⟨hW1, hW2, hW3, hW4, hW5, hW6, hW7, hW8, hW9, hW10, hW11, hW12⟩ := hW
         go_simp
         exact rfl
       simp only [Act.put, List.setIfInBounds_toArray, List.set_cons_zero, List.set_cons_succ])
    refine txt_done ?_
    obtain ⟨n0, n1, n2, n3, n4, n5, _, _, _, _, _, _⟩ := hS
    have HFb := hid (show ∀ W, Kp W2 W → Has W F from fun W h => h.1 _ HFW.out)
    go_wp2_with (first
      | (go_at_call 9; refine (Hal.out _ (HFb.out _ K9.out)).mono ?_; rintro e10 w10 ⟨rfl, k10⟩; have K10 := hid (K9.out.trans k10); clear k10)
      | (go_at_call 17; refine (texts_same Hl7.out Hl8.out Hlen7.out (Has.all _)).mono ?_; rintro e9 w9 ⟨rfl, q9, hw9⟩; have K9 := hid (show Kp W2 w9 by rw [hw9]; exact Kp.drewN K8.out _); clear hw9)
      | (go_at_call 29; refine (Hrs.out _ (HFb.out _ K7.out)).mono ?_; rintro e8 w8 ⟨A8, c8, l8, er8, X8, rfl, k8, hX8, hr8, z1, z2⟩; obtain ⟨rfl, rfl⟩ := same_sm Hs1.out Hs2.out z1 z2; have K8 := hid (K7.out.trans k8); have Hl8 := hid (rd_all_str hr8 hX8); have Hl7 := hid (rd_all_str Hr7.out (k8.1 _ HX7.out)); clear k8 z1 z2 hX8 hr8)
      | (go_at_call 28; refine (Hsm.out _ (HFb.out _ K6.out)).mono ?_; rintro e7 w7 ⟨A7, c7, l7, er7, X7, rfl, k7, hX7, hr7, z1, z2⟩; have K7 := hid (K6.out.trans k7); have Hs1 := hid z1; have Hs2 := hid z2; have HX7 := hid hX7; have Hr7 := hid hr7; have Hlen7 := hid (len_sm z1 z2); clear k7 z1 z2 hX7 hr7)
      | (go_at_call 17; refine (texts_same Hl4.out Hl5.out Hlen4.out (Has.all _)).mono ?_; rintro e6 w6 ⟨rfl, q6, hw6⟩; have K6 := hid (show Kp W2 w6 by rw [hw6]; exact Kp.drewN K5.out _); clear hw6)
      | (go_at_call 27; refine (Hra.out _ (HFb.out _ K4.out)).mono ?_; rintro e5 w5 ⟨A5, c5, l5, er5, X5, rfl, k5, hX5, hr5, z1, z2⟩; obtain ⟨rfl, rfl⟩ := same_ap Ha1.out Ha2.out z1 z2; have K5 := hid (K4.out.trans k5); have Hl5 := hid (rd_all_str hr5 hX5); have Hl4 := hid (rd_all_str Hr4.out (k5.1 _ HX4.out)); clear k5 z1 z2 hX5 hr5)
      | (go_at_call 24; refine (Hap.out _ (HFb.out _ L2.out)).mono ?_; rintro e4 w4 ⟨A4, c4, l4, er4, X4, rfl, k4, hX4, hr4, z1, z2⟩; have K4 := hid (L2.out.trans k4); have Ha1 := hid z1; have Ha2 := hid z2; have HX4 := hid hX4; have Hr4 := hid hr4; have Hlen4 := hid (len_ap z1 z2); obtain ⟨p0, p1, p2, p3, p4, p5, _, _, _, _, _, _⟩ := Keep.out w4 (k4.1 _ J2.out); clear k4 z1 z2 hX4 hr4))
    go_ret
    exact ⟨rfl, HFb.out _ K10.out, HE.out.trans K10.out.2⟩
end Go.Proofs.YteibbnmlmbhkpaaDoor

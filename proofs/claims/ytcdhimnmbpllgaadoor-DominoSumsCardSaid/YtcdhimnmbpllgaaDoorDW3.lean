/-
  The walk of right.
-/
import Derived.Test.YtcdhimnmbpllgaaDoorDW2
namespace Go.Proofs.YtcdhimnmbpllgaaDoor
open Go.RowKit
set_option linter.unusedVariables false
set_option linter.unusedSimpArgs false
set_option maxHeartbeats 4000000
set_option maxRecDepth 100000

theorem and2_all : ((List.range 256).all fun c => c &&& 2 == 2 * (c / 2 % 2)) = true := by kernel_rfl
theorem and2_nat (c : Nat) (h : c < 256) : c &&& 2 = 2 * (c / 2 % 2) := beq_iff_eq.1 (List.all_eq_true.1 and2_all c (List.mem_range.2 h))
theorem and2_i64 (a : Nat) (ha : a < 256) : bits .and .i64 (a : Int) 2 = ((2 * (a / 2 % 2) : Nat) : Int) := by
  have := and_i64 a 2 (by omega) (by omega)
  rw [and2_nat a ha] at this
  exact this
theorem right_any {F : MS} {p : List ByteArray} {A : Option Addr} {c g at' cov : Nat} {w : World} (hr : RdS F RT.str p (.slice A p.length c)) (hp : RegOk p) (hH : Has w F) (ha : at' < 64) (hc : cov < 256) :
    Calls Tryd.prog 74 #[ctV p A c g, stV at' cov] w fun e w' => e = .returned (if rightD (wd p) (hsR p) at' cov then stV (at' + 1) (cov / 2 ||| 1) else stV 0 0) ∧ Kp w w' := by
  have Hhas := hid (fun (W : World) (hW : Has W F) => show Calls Tryd.prog 47 #[.agg #[.int .i64 (wd p), .int .i64 p.length, .slice A p.length c], .int .i64 ((at' % wd p : Nat) : Int), .int .i64 ((at' / wd p : Nat) : Int)] W fun e w' => e = .returned (.bool (hsR p (at' % wd p) (at' / wd p))) ∧ Kp W w' from has_any hr hp hW _ _)
  have Hhas2 := hid (fun (W : World) (hW : Has W F) => show Calls Tryd.prog 47 #[.agg #[.int .i64 (wd p), .int .i64 p.length, .slice A p.length c], .int .i64 ((at' % wd p : Nat) + 1 : Int), .int .i64 ((at' / wd p : Nat) : Int)] W fun e w' => e = .returned (.bool (hsR p (at' % wd p + 1) (at' / wd p))) ∧ Kp W w' from has_any hr hp hW _ _)
  obtain ⟨R, hR⟩ : ∃ R, R = (if rightD (wd p) (hsR p) at' cov then stV (at' + 1) (cov / 2 ||| 1) else stV 0 0) := ⟨_, rfl⟩
  rw [← hR]
  have hun : rightD (wd p) (hsR p) at' cov = ((hsR p (at' % wd p) (at' / wd p) && cov % 2 == 0) && (decide (at' % wd p + 1 ≠ wd p) && (hsR p (at' % wd p + 1) (at' / wd p) && cov / 2 % 2 == 0))) := rfl
  rw [hun] at hR
  have HR := hid hR
  clear hR hun
  generalize hsR p (at' % wd p + 1) (at' / wd p) = q2 at *
  generalize hsR p (at' % wd p) (at' / wd p) = q at *
  have td : (at' : Int).tdiv (wd p : Int) = ((at' / wd p : Nat) : Int) := by rw [Int.tdiv_eq_ediv_of_nonneg (Int.natCast_nonneg at')]; rfl
  have tm : (at' : Int).tmod (wd p : Int) = ((at' % wd p : Nat) : Int) := by rw [Int.tmod_eq_emod_of_nonneg (Int.natCast_nonneg at')]; rfl
  have h1 := hp.w1
  have hxl := Nat.div_le_self at' (wd p)
  obtain ⟨WW, hWW⟩ : ∃ WW : Int, WW = (wd p : Int) := ⟨_, rfl⟩
  obtain ⟨X, hX⟩ : ∃ X : Int, X = ((at' % wd p : Nat) : Int) := ⟨_, rfl⟩
  obtain ⟨Y, hY⟩ : ∃ Y : Int, Y = ((at' / wd p : Nat) : Int) := ⟨_, rfl⟩
  have hYr : 0 ≤ Y ∧ Y ≤ 64 := by rw [hY]; exact ⟨Int.natCast_nonneg _, by have := Int.ofNat_le.2 hxl; omega⟩
  have hY1 : IntKind.i64.wrap Y = Y := by rw [IntKind.wrap_i64]; omega
  have hY2 : wrap64 Y = Y := by clear hY1; unfold wrap64; omega
  rw [← hX, ← hY, ← hWW] at Hhas
  rw [← hX, ← hY, ← hWW] at Hhas2
  have hmx := Nat.mod_lt at' (show 0 < wd p by clear hY1 hY2; omega)
  have hw8 := hp.w8
  have hXI : X ≤ 8 := by clear hY1 hY2; omega
  have hX0 : 0 ≤ X := by clear hY1 hY2; omega
  have HXW := hid (show (X + 1 = WW) ↔ at' % wd p + 1 = wd p by clear hY1 hY2; omega)
  rw [← hX, ← hWW] at tm
  rw [← hY, ← hWW] at td
  have hW0 : ¬ (WW = 0) := by clear hY1 hY2; omega
  obtain ⟨b1, hb1⟩ : ∃ b1, b1 = w.heap.size := ⟨_, rfl⟩
  obtain ⟨W3, hW3⟩ : ∃ W3, W3 = ((w.alloc (.cells #[.int .i64 WW, .int .i64 p.length, .slice A p.length c, .map (some g)] 56)).alloc (.cells #[.int .i64 at', .int .i64 cov] 60)).alloc (.cells #[.int .i64 0, .int .i64 0] 60) := ⟨_, rfl⟩
  have HA := hid (((Has.all w).alloc (.cells #[.int .i64 WW, .int .i64 p.length, .slice A p.length c, .map (some g)] 56)).alloc (.cells #[.int .i64 at', .int .i64 cov] 60) |>.alloc (.cells #[.int .i64 0, .int .i64 0] 60))
  have HE := hid (((Ext.alloc w (.cells #[.int .i64 WW, .int .i64 p.length, .slice A p.length c, .map (some g)] 56)).trans (Ext.alloc _ (.cells #[.int .i64 at', .int .i64 cov] 60))).trans (Ext.alloc _ (.cells #[.int .i64 0, .int .i64 0] 60)))
  show Calls Tryd.prog 74 #[.agg #[.int .i64 (wd p), .int .i64 p.length, .slice A p.length c, .map (some g)], .agg #[.int .i64 at', .int .i64 cov]] w _
  rw [← hWW]
  have hatI : (at' : Int) < 64 := by clear hY1 hY2; omega
  have hcI : (cov : Int) < 256 := by clear hY1 hY2; omega
  have HFw := hid hH
  clear hr hp hH hmx hw8 h1 hxl hX hY hYr hWW ha hc
  go_enter Tryd.func74, Tryd.ntmps74
  go_wp2
  go_quiet (fail)
  go_simp
  rw [← hW3, ← hb1]
  rw [show (w.alloc (.cells #[.int .i64 WW, .int .i64 p.length, .slice A p.length c, .map (some g)] 56)).heap.size = b1 + 1 by rw [hb1]; simp, ← hb1, show ((w.alloc (.cells #[.int .i64 WW, .int .i64 p.length, .slice A p.length c, .map (some g)] 56)).alloc (.cells #[.int .i64 at', .int .i64 cov] 60)).heap.size = b1 + 1 + 1 by rw [hb1]; simp, ← hW3] at HA
  rw [← hW3] at HE
  generalize hwd : World.drewN _ _ = wz
  have HWd := hid (show Has wz (blk (b1 + 1 + 1) #[.int .i64 0, .int .i64 0] 60 + (blk (b1 + 1) #[.int .i64 at', .int .i64 cov] 60 + (blk b1 #[.int .i64 WW, .int .i64 p.length, .slice A p.length c, .map (some g)] 56 + MS.all w))) by rw [← hwd]; exact HA.out.drewN _)
  have HEd := hid (show Ext w wz by rw [← hwd]; exact HE.out.trans (Ext.drewN _ _))
  have Keep := hid (show ∀ W cur, Has W (blk (b1 + 1 + 1) cur 60 + (blk (b1 + 1) #[.int .i64 at', .int .i64 cov] 60 + (blk b1 #[.int .i64 WW, .int .i64 p.length, .slice A p.length c, .map (some g)] 56 + MS.all w))) → (W.cell? ⟨b1, 0, none⟩ = some (.int .i64 WW) ∧ W.cell? ⟨b1, 1, none⟩ = some (.int .i64 p.length) ∧ W.cell? ⟨b1, 2, none⟩ = some (.slice A p.length c) ∧ W.cell? ⟨b1 + 1, 0, none⟩ = some (.int .i64 at') ∧ W.cell? ⟨b1 + 1, 1, none⟩ = some (.int .i64 cov)) from fun W cur h => by
    have h1 := h.right
    have h2 := h1.right
    exact ⟨h2.at_ rfl, h2.at_ rfl, h2.at_ rfl, h1.at_ rfl, h1.at_ rfl⟩)
  have HF2 := hid (show ∀ W cur, Has W (blk (b1 + 1 + 1) cur 60 + (blk (b1 + 1) #[.int .i64 at', .int .i64 cov] 60 + (blk b1 #[.int .i64 WW, .int .i64 p.length, .slice A p.length c, .map (some g)] 56 + MS.all w))) → ∀ M, Has w M → Has W M from fun W cur h M hM => hM.of_all h.right.right)
  generalize (blk (b1 + 1) #[.int .i64 at', .int .i64 cov] 60 + (blk b1 #[.int .i64 WW, .int .i64 p.length, .slice A p.length c, .map (some g)] 56 + MS.all w)) = G at *
  clear hwd hW3 hb1 HA HE tm td hW0 hY1 hY2
  have hand := and1_i64 cov (by omega)
  have hand2 := and2_i64 cov (by omega)
  have hor : bits .or .i64 ((cov / 2 : Nat) : Int) 1 = ((cov / 2 ||| 1 : Nat) : Int) := or_i64 (cov / 2) 1 (by omega) (by omega)
  have hshr : ((cov : Int) / 2) = ((cov / 2 : Nat) : Int) := rfl
  obtain ⟨c0, c1, c2, c3, c4⟩ := Keep.out wz _ HWd.out
  obtain ⟨CH, hCH⟩ : ∃ CH : Int, CH = ((cov / 2 : Nat) : Int) := ⟨_, rfl⟩
  obtain ⟨CO, hCO⟩ : ∃ CO : Int, CO = ((cov / 2 ||| 1 : Nat) : Int) := ⟨_, rfl⟩
  have hshr2 : (cov : Int) / 2 = CH := by rw [hCH]; rfl
  rw [← hCO] at hor
  rw [← hCH] at hor
  have HCO := hid hCO
  clear hshr hCH hCO
  cases q with
  | false =>
    have Hp2 := hid (show (false && cov % 2 == 0) = false from rfl)
    go_wp2_with (first
      | (go_at_call 47; refine (Hhas.out wz (HF2.out _ _ HWd.out _ HFw.out)).mono ?_; rintro e5 w5 ⟨rfl, k5⟩; have HW5 := hid (k5.1 _ HWd.out); have HE5 := hid (HEd.out.trans k5.2); obtain ⟨d0, d1, d2, d3, d4⟩ := Keep.out w5 _ HW5.out; clear k5)
      | (refine wpList_store_whole rfl (.tmp 4) (.tmp 54) 60 rfl 2 size60 (b1 + 1 + 1) (.agg #[.int .i64 0, .int .i64 0]) rfl rfl rfl (by simp [Value.cells, Value.oneCell']) #[.int .i64 0, .int .i64 0] 60 G HW5.out rfl ?_; intro w6 j1 j2; have HW6 := hid (show Has w6 (blk (b1 + 1 + 1) #[.int .i64 0, .int .i64 0] 60 + G) from j1); have HE6 := hid (HE5.out.trans j2); have r0 : w6.cell? ⟨b1 + 1 + 1, 0, none⟩ = some (.int .i64 0) := HW6.out.at_ rfl; have r1 : w6.cell? ⟨b1 + 1 + 1, 1, none⟩ = some (.int .i64 0) := HW6.out.at_ rfl; clear j1 j2))
    exact bodyPost_ret (v := .agg #[.int .i64 0, .int .i64 0]) (by simp [results, Tryd.results74, go_sem, r0, r1]) rfl ⟨by rw [HR.out, if_neg (by simp [Hp2.out])]; rfl, fun M hM => HF2.out _ _ HW6.out _ hM, HE6.out⟩
  | true =>
    by_cases hpar : (cov : Int) % 2 = 0
    · have hpc : (cov % 2 == 0) = true := by rw [beq_iff_eq]; omega
      by_cases hxw : X + 1 = WW
      · have Hp2 := hid (show decide (at' % wd p + 1 ≠ wd p) = false by rw [decide_eq_false_iff_not]; exact fun h => h (HXW.out.1 hxw))
        clear hpc
        go_wp2_with (first
          | (go_at_call 47; refine (Hhas.out wz (HF2.out _ _ HWd.out _ HFw.out)).mono ?_; rintro e5 w5 ⟨rfl, k5⟩; have HW5 := hid (k5.1 _ HWd.out); have HE5 := hid (HEd.out.trans k5.2); obtain ⟨d0, d1, d2, d3, d4⟩ := Keep.out w5 _ HW5.out; clear k5)
          | (refine wpList_store_whole rfl (.tmp 4) (.tmp 54) 60 rfl 2 size60 (b1 + 1 + 1) (.agg #[.int .i64 0, .int .i64 0]) rfl rfl rfl (by simp [Value.cells, Value.oneCell']) #[.int .i64 0, .int .i64 0] 60 G HW5.out rfl ?_; intro w6 j1 j2; have HW6 := hid (show Has w6 (blk (b1 + 1 + 1) #[.int .i64 0, .int .i64 0] 60 + G) from j1); have HE6 := hid (HE5.out.trans j2); have r0 : w6.cell? ⟨b1 + 1 + 1, 0, none⟩ = some (.int .i64 0) := HW6.out.at_ rfl; have r1 : w6.cell? ⟨b1 + 1 + 1, 1, none⟩ = some (.int .i64 0) := HW6.out.at_ rfl; clear j1 j2))
        exact bodyPost_ret (v := .agg #[.int .i64 0, .int .i64 0]) (by simp [results, Tryd.results74, go_sem, r0, r1]) rfl ⟨by rw [HR.out, if_neg (by simp [Hp2.out])]; rfl, fun M hM => HF2.out _ _ HW6.out _ hM, HE6.out⟩
      · have hxd : decide (at' % wd p + 1 ≠ wd p) = true := decide_eq_true fun h => hxw (HXW.out.2 h)
        cases q2 with
        | false =>
          have Hp2 := hid (show (false && cov / 2 % 2 == 0) = false from rfl)
          clear hpc hxd
          go_wp2_with (first
            | (go_at_call 47; have kk := HW5; clear kk; refine (Hhas2.out w5 (HF2.out _ _ HW5.out _ HFw.out)).mono ?_; rintro e7 w7 ⟨rfl, k7⟩; have HW7 := hid (k7.1 _ HW5.out); have HE7 := hid (HE5.out.trans k7.2); obtain ⟨g0, g1, g2, g3, g4⟩ := Keep.out w7 _ HW7.out; clear k7)
            | (go_at_call 47; refine (Hhas.out wz (HF2.out _ _ HWd.out _ HFw.out)).mono ?_; rintro e5 w5 ⟨rfl, k5⟩; have HW5 := hid (k5.1 _ HWd.out); have HE5 := hid (HEd.out.trans k5.2); obtain ⟨d0, d1, d2, d3, d4⟩ := Keep.out w5 _ HW5.out; clear k5)
            | (refine wpList_store_whole rfl (.tmp 4) (.tmp 54) 60 rfl 2 size60 (b1 + 1 + 1) (.agg #[.int .i64 0, .int .i64 0]) rfl rfl rfl (by simp [Value.cells, Value.oneCell']) #[.int .i64 0, .int .i64 0] 60 G HW7.out rfl ?_; intro w6 j1 j2; have HW6 := hid (show Has w6 (blk (b1 + 1 + 1) #[.int .i64 0, .int .i64 0] 60 + G) from j1); have HE6 := hid (HE7.out.trans j2); have r0 : w6.cell? ⟨b1 + 1 + 1, 0, none⟩ = some (.int .i64 0) := HW6.out.at_ rfl; have r1 : w6.cell? ⟨b1 + 1 + 1, 1, none⟩ = some (.int .i64 0) := HW6.out.at_ rfl; clear j1 j2))
          exact bodyPost_ret (v := .agg #[.int .i64 0, .int .i64 0]) (by simp [results, Tryd.results74, go_sem, r0, r1]) rfl ⟨by rw [HR.out, if_neg (by simp [Hp2.out])]; rfl, fun M hM => HF2.out _ _ HW6.out _ hM, HE6.out⟩
        | true =>
          by_cases hp4 : (cov : Int) / 2 % 2 = 0
          · have hq4 : (cov / 2 % 2 == 0) = true := by rw [beq_iff_eq]; omega
            have HP := hid (show ((true && cov % 2 == 0) && (decide (at' % wd p + 1 ≠ wd p) && (true && cov / 2 % 2 == 0))) = true by rw [hpc, hxd, hq4]; rfl)
            have ha2 : ((cov / 2 % 2 : Nat) : Int) = 0 := by omega
            have hand3 : bits .and .i64 (cov : Int) 2 = 0 := by rw [hand2]; omega
            clear hpc hxd hq4 ha2 hand2
            rw [hshr2] at hp4
            go_wp2_with (first
              | (go_at_call 47; have kk := HW5; clear kk; refine (Hhas2.out w5 (HF2.out _ _ HW5.out _ HFw.out)).mono ?_; rintro e7 w7 ⟨rfl, k7⟩; have HW7 := hid (k7.1 _ HW5.out); have HE7 := hid (HE5.out.trans k7.2); obtain ⟨g0, g1, g2, g3, g4⟩ := Keep.out w7 _ HW7.out; clear k7)
              | (go_at_call 47; refine (Hhas.out wz (HF2.out _ _ HWd.out _ HFw.out)).mono ?_; rintro e5 w5 ⟨rfl, k5⟩; have HW5 := hid (k5.1 _ HWd.out); have HE5 := hid (HEd.out.trans k5.2); obtain ⟨d0, d1, d2, d3, d4⟩ := Keep.out w5 _ HW5.out; clear k5)
              | (refine wpList_store_whole rfl (.tmp 4) (.tmp 62) 60 rfl 2 size60 (b1 + 1 + 1) (.agg #[.int .i64 ((at' : Int) + 1), .int .i64 CO]) rfl rfl rfl (by simp [Value.cells, Value.oneCell']) #[.int .i64 0, .int .i64 0] 60 G HW7.out rfl ?_; intro w6 j1 j2; have HW6 := hid (show Has w6 (blk (b1 + 1 + 1) #[.int .i64 ((at' : Int) + 1), .int .i64 CO] 60 + G) from j1); have HE6 := hid (HE7.out.trans j2); have r0 : w6.cell? ⟨b1 + 1 + 1, 0, none⟩ = some (.int .i64 ((at' : Int) + 1)) := HW6.out.at_ rfl; have r1 : w6.cell? ⟨b1 + 1 + 1, 1, none⟩ = some (.int .i64 CO) := HW6.out.at_ rfl; clear j1 j2))
            exact bodyPost_ret (v := .agg #[.int .i64 ((at' : Int) + 1), .int .i64 CO]) (by simp [results, Tryd.results74, go_sem, r0, r1]) rfl ⟨by rw [HR.out, if_pos HP.out]; unfold stV; rw [← HCO.out]; rfl, fun M hM => HF2.out _ _ HW6.out _ hM, HE6.out⟩
          · have hq4 : (cov / 2 % 2 == 0) = false := by rw [beq_eq_false_iff_ne]; omega
            have Hp2 := hid hq4
            have hand3 : bits .and .i64 (cov : Int) 2 = 2 := by rw [hand2]; omega
            clear hpc hxd hq4 hand2
            rw [hshr2] at hp4
            go_wp2_with (first
              | (go_at_call 47; have kk := HW5; clear kk; refine (Hhas2.out w5 (HF2.out _ _ HW5.out _ HFw.out)).mono ?_; rintro e7 w7 ⟨rfl, k7⟩; have HW7 := hid (k7.1 _ HW5.out); have HE7 := hid (HE5.out.trans k7.2); obtain ⟨g0, g1, g2, g3, g4⟩ := Keep.out w7 _ HW7.out; clear k7)
              | (go_at_call 47; refine (Hhas.out wz (HF2.out _ _ HWd.out _ HFw.out)).mono ?_; rintro e5 w5 ⟨rfl, k5⟩; have HW5 := hid (k5.1 _ HWd.out); have HE5 := hid (HEd.out.trans k5.2); obtain ⟨d0, d1, d2, d3, d4⟩ := Keep.out w5 _ HW5.out; clear k5)
              | (refine wpList_store_whole rfl (.tmp 4) (.tmp 54) 60 rfl 2 size60 (b1 + 1 + 1) (.agg #[.int .i64 0, .int .i64 0]) rfl rfl rfl (by simp [Value.cells, Value.oneCell']) #[.int .i64 0, .int .i64 0] 60 G HW7.out rfl ?_; intro w6 j1 j2; have HW6 := hid (show Has w6 (blk (b1 + 1 + 1) #[.int .i64 0, .int .i64 0] 60 + G) from j1); have HE6 := hid (HE7.out.trans j2); have r0 : w6.cell? ⟨b1 + 1 + 1, 0, none⟩ = some (.int .i64 0) := HW6.out.at_ rfl; have r1 : w6.cell? ⟨b1 + 1 + 1, 1, none⟩ = some (.int .i64 0) := HW6.out.at_ rfl; clear j1 j2))
            exact bodyPost_ret (v := .agg #[.int .i64 0, .int .i64 0]) (by simp [results, Tryd.results74, go_sem, r0, r1]) rfl ⟨by rw [HR.out, if_neg (by simp [Hp2.out])]; rfl, fun M hM => HF2.out _ _ HW6.out _ hM, HE6.out⟩
    · have hpc : (cov % 2 == 0) = false := by rw [beq_eq_false_iff_ne]; omega
      have Hp2 := hid hpc
      clear hpc
      go_wp2_with (first
        | (go_at_call 47; refine (Hhas.out wz (HF2.out _ _ HWd.out _ HFw.out)).mono ?_; rintro e5 w5 ⟨rfl, k5⟩; have HW5 := hid (k5.1 _ HWd.out); have HE5 := hid (HEd.out.trans k5.2); obtain ⟨d0, d1, d2, d3, d4⟩ := Keep.out w5 _ HW5.out; clear k5)
        | (refine wpList_store_whole rfl (.tmp 4) (.tmp 54) 60 rfl 2 size60 (b1 + 1 + 1) (.agg #[.int .i64 0, .int .i64 0]) rfl rfl rfl (by simp [Value.cells, Value.oneCell']) #[.int .i64 0, .int .i64 0] 60 G HW5.out rfl ?_; intro w6 j1 j2; have HW6 := hid (show Has w6 (blk (b1 + 1 + 1) #[.int .i64 0, .int .i64 0] 60 + G) from j1); have HE6 := hid (HE5.out.trans j2); have r0 : w6.cell? ⟨b1 + 1 + 1, 0, none⟩ = some (.int .i64 0) := HW6.out.at_ rfl; have r1 : w6.cell? ⟨b1 + 1 + 1, 1, none⟩ = some (.int .i64 0) := HW6.out.at_ rfl; clear j1 j2))
      exact bodyPost_ret (v := .agg #[.int .i64 0, .int .i64 0]) (by simp [results, Tryd.results74, go_sem, r0, r1]) rfl ⟨by rw [HR.out, if_neg (by simp [Hp2.out])]; rfl, fun M hM => HF2.out _ _ HW6.out _ hM, HE6.out⟩
end Go.Proofs.YtcdhimnmbpllgaaDoor

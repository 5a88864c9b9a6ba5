/-
  The walks of the steps of a count.
-/
import Derived.Test.YtcdhimnmbpllgaaDoorDW1
import Derived.Laws.Bits64b
import Derived.WalkArith
namespace Go.Proofs.YtcdhimnmbpllgaaDoor
open Go.RowKit
set_option linter.unusedVariables false
set_option linter.unusedSimpArgs false
set_option maxHeartbeats 4000000
set_option maxRecDepth 100000

theorem and_i64 (a b : Nat) (ha : a < 4294967296) (hb : b < 4294967296) : bits .and .i64 (a : Int) (b : Int) = ((a &&& b : Nat) : Int) := by
  have hx : a &&& b < 2 ^ 32 := Nat.and_lt_two_pow _ (by omega)
  have h1 : (BitVec.ofInt 64 (a : Int)).toNat = a := by
    rw [BitVec.ofInt_natCast, BitVec.toNat_ofNat]; exact Nat.mod_eq_of_lt (by omega)
  have h2 : (BitVec.ofInt 64 (b : Int)).toNat = b := by
    rw [BitVec.ofInt_natCast, BitVec.toNat_ofNat]; exact Nat.mod_eq_of_lt (by omega)
  show IntKind.i64.wrap ((BitVec.ofInt 64 (a : Int) &&& BitVec.ofInt 64 (b : Int)).toNat : Int) = _
  rw [BitVec.toNat_and, h1, h2, IntKind.wrap_i64]
  omega
theorem or_i64 (a b : Nat) (ha : a < 4294967296) (hb : b < 4294967296) : bits .or .i64 (a : Int) (b : Int) = ((a ||| b : Nat) : Int) := by
  have hx : a ||| b < 2 ^ 32 := Nat.or_lt_two_pow (by omega) (by omega)
  have h1 : (BitVec.ofInt 64 (a : Int)).toNat = a := by
    rw [BitVec.ofInt_natCast, BitVec.toNat_ofNat]; exact Nat.mod_eq_of_lt (by omega)
  have h2 : (BitVec.ofInt 64 (b : Int)).toNat = b := by
    rw [BitVec.ofInt_natCast, BitVec.toNat_ofNat]; exact Nat.mod_eq_of_lt (by omega)
  show IntKind.i64.wrap ((BitVec.ofInt 64 (a : Int) ||| BitVec.ofInt 64 (b : Int)).toNat : Int) = _
  rw [BitVec.toNat_or, h1, h2, IntKind.wrap_i64]
  omega
theorem and1_i64 (a : Nat) (ha : a < 4294967296) : bits .and .i64 (a : Int) 1 = ((a % 2 : Nat) : Int) := by
  have := and_i64 a 1 ha (by omega)
  rw [Nat.and_one_is_mod] at this
  exact this
theorem size60 : (Tryd.prog.info? 60).map (·.size) = some 2 := by kernel_rfl
def stV (at' cov : Nat) : Value := .agg #[.int .i64 at', .int .i64 cov]
def ctV (p : List ByteArray) (A : Option Addr) (c g : Nat) : Value := .agg #[.int .i64 (wd p), .int .i64 p.length, .slice A p.length c, .map (some g)]
theorem over_any {F : MS} {p : List ByteArray} {A : Option Addr} {c g at' cov : Nat} {w : World} (hr : RdS F RT.str p (.slice A p.length c)) (hp : RegOk p) (hH : Has w F) (ha : at' < 64) (hc : cov < 256) :
    Calls Tryd.prog 76 #[ctV p A c g, stV at' cov] w fun e w' => e = .returned (if freeD (wd p) (hsR p) at' cov then stV 0 0 else stV (at' + 1) (cov / 2)) ∧ Kp w w' := by
  have Hhas := hid (fun (W : World) (hW : Has W F) => show Calls Tryd.prog 47 #[.agg #[.int .i64 (wd p), .int .i64 p.length, .slice A p.length c], .int .i64 ((at' % wd p : Nat) : Int), .int .i64 ((at' / wd p : Nat) : Int)] W fun e w' => e = .returned (.bool (hsR p (at' % wd p) (at' / wd p))) ∧ Kp W w' from has_any hr hp hW _ _)
  have hf : freeD (wd p) (hsR p) at' cov = (hsR p (at' % wd p) (at' / wd p) && cov % 2 == 0) := rfl
  rw [hf]
  obtain ⟨R, hR⟩ : ∃ R, R = (if hsR p (at' % wd p) (at' / wd p) && cov % 2 == 0 then stV 0 0 else stV (at' + 1) (cov / 2)) := ⟨_, rfl⟩
  rw [← hR]
  have HR := hid hR
  clear hR
  generalize hsR p (at' % wd p) (at' / wd p) = q at *
  have td : (at' : Int).tdiv (wd p : Int) = ((at' / wd p : Nat) : Int) := by rw [Int.tdiv_eq_ediv_of_nonneg (Int.natCast_nonneg at')]; rfl
  have tm : (at' : Int).tmod (wd p : Int) = ((at' % wd p : Nat) : Int) := by rw [Int.tmod_eq_emod_of_nonneg (Int.natCast_nonneg at')]; rfl
  have h1 := hp.w1
  have hxl := Nat.div_le_self at' (wd p)
  obtain ⟨WW, hWW⟩ : ∃ WW : Int, WW = (wd p : Int) := ⟨_, rfl⟩
  obtain ⟨X, hX⟩ : ∃ X : Int, X = ((at' % wd p : Nat) : Int) := ⟨_, rfl⟩
  obtain ⟨Y, hY⟩ : ∃ Y : Int, Y = ((at' / wd p : Nat) : Int) := ⟨_, rfl⟩
  have hYr : 0 ≤ Y ∧ Y ≤ 64 := by rw [hY]; exact ⟨Int.natCast_nonneg _, by have := Int.ofNat_le.2 hxl; omega⟩
  have hY1 : IntKind.i64.wrap Y = Y := by rw [IntKind.wrap_i64]; omega
  have hY2 : wrap64 Y = Y := by clear hY1; unfold wrap64; omega
  rw [← hX, ← hY, ← hWW] at Hhas
  rw [← hX, ← hWW] at tm
  rw [← hY, ← hWW] at td
  have hW0 : ¬ (WW = 0) := by clear hY1 hY2; omega
  obtain ⟨b1, hb1⟩ : ∃ b1, b1 = w.heap.size := ⟨_, rfl⟩
  obtain ⟨W3, hW3⟩ : ∃ W3, W3 = ((w.alloc (.cells #[.int .i64 WW, .int .i64 p.length, .slice A p.length c, .map (some g)] 56)).alloc (.cells #[.int .i64 at', .int .i64 cov] 60)).alloc (.cells #[.int .i64 0, .int .i64 0] 60) := ⟨_, rfl⟩
  have HA := hid (((Has.all w).alloc (.cells #[.int .i64 WW, .int .i64 p.length, .slice A p.length c, .map (some g)] 56)).alloc (.cells #[.int .i64 at', .int .i64 cov] 60) |>.alloc (.cells #[.int .i64 0, .int .i64 0] 60))
  have HE := hid (((Ext.alloc w (.cells #[.int .i64 WW, .int .i64 p.length, .slice A p.length c, .map (some g)] 56)).trans (Ext.alloc _ (.cells #[.int .i64 at', .int .i64 cov] 60))).trans (Ext.alloc _ (.cells #[.int .i64 0, .int .i64 0] 60)))
  show Calls Tryd.prog 76 #[.agg #[.int .i64 (wd p), .int .i64 p.length, .slice A p.length c, .map (some g)], .agg #[.int .i64 at', .int .i64 cov]] w _
  rw [← hWW]
  have hatI : (at' : Int) < 64 := by clear hY1 hY2; omega
  have hcI : (cov : Int) < 256 := by clear hY1 hY2; omega
  have HFw := hid hH
  clear hr hp hH hf h1 hxl hX hY hYr hWW ha hc
  go_enter Tryd.func76, Tryd.ntmps76
  go_wp2
  go_quiet (fail)
  go_simp
  rw [← hW3, ← hb1]
  rw [show (w.alloc (.cells #[.int .i64 WW, .int .i64 p.length, .slice A p.length c, .map (some g)] 56)).heap.size = b1 + 1 by rw [hb1]; simp, ← hb1, show ((w.alloc (.cells #[.int .i64 WW, .int .i64 p.length, .slice A p.length c, .map (some g)] 56)).alloc (.cells #[.int .i64 at', .int .i64 cov] 60)).heap.size = b1 + 1 + 1 by rw [hb1]; simp, ← hW3] at HA
  rw [← hW3] at HE
  generalize hwd : World.drewN _ _ = wd
  have HWd := hid (show Has wd (blk (b1 + 1 + 1) #[.int .i64 0, .int .i64 0] 60 + (blk (b1 + 1) #[.int .i64 at', .int .i64 cov] 60 + (blk b1 #[.int .i64 WW, .int .i64 p.length, .slice A p.length c, .map (some g)] 56 + MS.all w))) by rw [← hwd]; exact HA.out.drewN _)
  have HEd := hid (show Ext w wd by rw [← hwd]; exact HE.out.trans (Ext.drewN _ _))
  have Keep := hid (show ∀ W cur, Has W (blk (b1 + 1 + 1) cur 60 + (blk (b1 + 1) #[.int .i64 at', .int .i64 cov] 60 + (blk b1 #[.int .i64 WW, .int .i64 p.length, .slice A p.length c, .map (some g)] 56 + MS.all w))) → (W.cell? ⟨b1, 0, none⟩ = some (.int .i64 WW) ∧ W.cell? ⟨b1, 1, none⟩ = some (.int .i64 p.length) ∧ W.cell? ⟨b1, 2, none⟩ = some (.slice A p.length c) ∧ W.cell? ⟨b1 + 1, 0, none⟩ = some (.int .i64 at') ∧ W.cell? ⟨b1 + 1, 1, none⟩ = some (.int .i64 cov)) from fun W cur h => by
    have h1 := h.right
    have h2 := h1.right
    exact ⟨h2.at_ rfl, h2.at_ rfl, h2.at_ rfl, h1.at_ rfl, h1.at_ rfl⟩)
  have HF2 := hid (show ∀ W cur, Has W (blk (b1 + 1 + 1) cur 60 + (blk (b1 + 1) #[.int .i64 at', .int .i64 cov] 60 + (blk b1 #[.int .i64 WW, .int .i64 p.length, .slice A p.length c, .map (some g)] 56 + MS.all w))) → ∀ M, Has w M → Has W M from fun W cur h M hM => hM.of_all h.right.right)
  generalize (blk (b1 + 1) #[.int .i64 at', .int .i64 cov] 60 + (blk b1 #[.int .i64 WW, .int .i64 p.length, .slice A p.length c, .map (some g)] 56 + MS.all w)) = G at *
  clear hwd hW3 hb1 HA HE tm td hW0 hY1 hY2
  have hand := and1_i64 cov (by omega)
  have hshr : ((cov : Int) / 2) = ((cov / 2 : Nat) : Int) := rfl
  obtain ⟨c0, c1, c2, c3, c4⟩ := Keep.out wd _ HWd.out
  obtain ⟨CH, hCH⟩ : ∃ CH : Int, CH = ((cov / 2 : Nat) : Int) := ⟨_, rfl⟩
  have hshr2 : (cov : Int) / 2 = CH := by rw [hCH]; rfl
  have HCH := hid hCH
  clear hshr hCH
  cases q with
  | true =>
    by_cases hpar : (cov : Int) % 2 = 0
    · have hp2 : (true && cov % 2 == 0) = true := by rw [Bool.true_and, beq_iff_eq]; omega
      have Hp2 := hid hp2
      clear hp2
      go_wp2_with (first
        | (go_at_call 47; refine (Hhas.out wd (HF2.out _ _ HWd.out _ HFw.out)).mono ?_; rintro e5 w5 ⟨rfl, k5⟩; have HW5 := hid (k5.1 _ HWd.out); have HE5 := hid (HEd.out.trans k5.2); obtain ⟨d0, d1, d2, d3, d4⟩ := Keep.out w5 _ HW5.out; clear k5)
        | (refine wpList_store_whole rfl (.tmp 4) (.tmp 30) 60 rfl 2 size60 (b1 + 1 + 1) (.agg #[.int .i64 0, .int .i64 0]) rfl rfl rfl (by simp [Value.cells, Value.oneCell']) #[.int .i64 0, .int .i64 0] 60 G HW5.out rfl ?_; intro w6 j1 j2; have HW6 := hid (show Has w6 (blk (b1 + 1 + 1) #[.int .i64 0, .int .i64 0] 60 + G) from j1); have HE6 := hid (HE5.out.trans j2); have r0 : w6.cell? ⟨b1 + 1 + 1, 0, none⟩ = some (.int .i64 0) := HW6.out.at_ rfl; have r1 : w6.cell? ⟨b1 + 1 + 1, 1, none⟩ = some (.int .i64 0) := HW6.out.at_ rfl; clear j1 j2))
      exact bodyPost_ret (v := .agg #[.int .i64 0, .int .i64 0]) (by simp [results, Tryd.results76, go_sem, r0, r1]) rfl ⟨by rw [HR.out, Hp2.out, if_pos rfl]; rfl, fun M hM => HF2.out _ _ HW6.out _ hM, HE6.out⟩
    · have hp2 : (true && cov % 2 == 0) = false := by rw [Bool.true_and, beq_eq_false_iff_ne]; omega
      have Hp2 := hid hp2
      clear hp2
      go_wp2_with (first
        | (go_at_call 47; refine (Hhas.out wd (HF2.out _ _ HWd.out _ HFw.out)).mono ?_; rintro e5 w5 ⟨rfl, k5⟩; have HW5 := hid (k5.1 _ HWd.out); have HE5 := hid (HEd.out.trans k5.2); obtain ⟨d0, d1, d2, d3, d4⟩ := Keep.out w5 _ HW5.out; clear k5)
        | (refine wpList_store_whole rfl (.tmp 4) (.tmp 37) 60 rfl 2 size60 (b1 + 1 + 1) (.agg #[.int .i64 ((at' : Int) + 1), .int .i64 CH]) rfl rfl rfl (by simp [Value.cells, Value.oneCell']) #[.int .i64 0, .int .i64 0] 60 G HW5.out rfl ?_; intro w6 j1 j2; have HW6 := hid (show Has w6 (blk (b1 + 1 + 1) #[.int .i64 ((at' : Int) + 1), .int .i64 CH] 60 + G) from j1); have HE6 := hid (HE5.out.trans j2); have r0 : w6.cell? ⟨b1 + 1 + 1, 0, none⟩ = some (.int .i64 ((at' : Int) + 1)) := HW6.out.at_ rfl; have r1 : w6.cell? ⟨b1 + 1 + 1, 1, none⟩ = some (.int .i64 CH) := HW6.out.at_ rfl; clear j1 j2))
      exact bodyPost_ret (v := .agg #[.int .i64 ((at' : Int) + 1), .int .i64 CH]) (by simp [results, Tryd.results76, go_sem, r0, r1]) rfl ⟨by rw [HR.out, if_neg (by simp [Hp2.out])]; unfold stV; rw [← HCH.out]; rfl, fun M hM => HF2.out _ _ HW6.out _ hM, HE6.out⟩
  | false =>
    go_wp2_with (first
      | (go_at_call 47; refine (Hhas.out wd (HF2.out _ _ HWd.out _ HFw.out)).mono ?_; rintro e5 w5 ⟨rfl, k5⟩; have HW5 := hid (k5.1 _ HWd.out); have HE5 := hid (HEd.out.trans k5.2); obtain ⟨d0, d1, d2, d3, d4⟩ := Keep.out w5 _ HW5.out; clear k5)
      | (refine wpList_store_whole rfl (.tmp 4) (.tmp 37) 60 rfl 2 size60 (b1 + 1 + 1) (.agg #[.int .i64 ((at' : Int) + 1), .int .i64 CH]) rfl rfl rfl (by simp [Value.cells, Value.oneCell']) #[.int .i64 0, .int .i64 0] 60 G HW5.out rfl ?_; intro w6 j1 j2; have HW6 := hid (show Has w6 (blk (b1 + 1 + 1) #[.int .i64 ((at' : Int) + 1), .int .i64 CH] 60 + G) from j1); have HE6 := hid (HE5.out.trans j2); have r0 : w6.cell? ⟨b1 + 1 + 1, 0, none⟩ = some (.int .i64 ((at' : Int) + 1)) := HW6.out.at_ rfl; have r1 : w6.cell? ⟨b1 + 1 + 1, 1, none⟩ = some (.int .i64 CH) := HW6.out.at_ rfl; clear j1 j2))
    exact bodyPost_ret (v := .agg #[.int .i64 ((at' : Int) + 1), .int .i64 CH]) (by simp [results, Tryd.results76, go_sem, r0, r1]) rfl ⟨by rw [HR.out, if_neg (by simp)]; unfold stV; rw [← HCH.out]; rfl, fun M hM => HF2.out _ _ HW6.out _ hM, HE6.out⟩
end Go.Proofs.YtcdhimnmbpllgaaDoor

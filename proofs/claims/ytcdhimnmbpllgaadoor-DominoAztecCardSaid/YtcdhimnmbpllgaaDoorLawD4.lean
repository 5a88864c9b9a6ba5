/-
  The walk of DominoAztec.
-/
import Derived.Test.YtcdhimnmbpllgaaDoorDAz
import Derived.Test.YtcdhimnmbpllgaaDoorDEntry
import Derived.WalkArith
namespace Go.Proofs.YtcdhimnmbpllgaaDoor
open Go.RowKit
set_option linter.unusedVariables false
set_option linter.unusedSimpArgs false
set_option maxHeartbeats 2000000
set_option maxRecDepth 100000

def StrR (s : ByteArray) (cs : List Value) (m : MS) : Prop := cs = [.string s] ∧ m = 0
theorem StrR.one : ∀ a cs m, StrR a cs m → ∀ u ∈ cs, u.oneCell' = true := fun a cs m h u hu => by
  rw [h.1] at hu
  rw [List.mem_singleton.1 hu]; rfl
theorem StrR.len : ∀ a cs m, StrR a cs m → cs.length = 1 := fun a cs m h => by rw [h.1]; rfl
theorem row22 : RowTy Tryd.prog 22 9 (.string empty) 1 16 := ⟨Tryd.underlying22, by kernel_rfl, rfl⟩
theorem azK_le {n y : Nat} (hn : 1 ≤ n) (hy : y < 2 * n) : 1 ≤ azK n y ∧ azK n y ≤ n := by unfold azK; omega
theorem aztec_any {F : MS} {w : World} (hf : FourOk F) (hH : Has w F) {o : Int} (ho : 0 ≤ o ∧ o ≤ 255) :
    Calls Tryd.prog 4 #[.int .u8 o] w (LawPost w F) := by
  have Hal := hid (fun (W : World) (hW : Has W F) => alive_any hf hW)
  have HF := hid hH
  have htm := Int.tmod_eq_emod_of_nonneg ho.1 (b := 4)
  obtain ⟨m4, hm4⟩ : ∃ m4 : Nat, (m4 : Int) = o.tmod 4 := ⟨(o.tmod 4).toNat, by omega⟩
  have hm3 : m4 ≤ 3 := by omega
  have hq1 := hm4.symm
  have hq2 : IntKind.u8.wrap (m4 : Int) = m4 := by
    have h1 : IntKind.u8.wrap (m4 : Int) = (m4 : Int) % 256 := rfl
    rw [h1]; omega
  have hm3I : (m4 : Int) ≤ 3 := by omega
  have Hf := hid hf
  clear htm hm4 hH hf
  go_enter Tryd.func4, Tryd.ntmps4
  go_wp2
  go_loopw [4, 5] (fun v4 v5 wr => ∃ (y : Nat) (mR : MS), y ≤ 2 * (m4 + 1) ∧ v5 = .int .i64 y ∧ SlR 9 1 StrR ((List.range y).map fun y => azRow (m4 + 1) (azK (m4 + 1) y)) v4 mR ∧ Has wr (mR + MS.all w) ∧ Ext w wr) (fun _ v _ => 2 * (m4 + 1) - (intOf v).toNat)
  case atStart => exact ⟨0, 0, Nat.zero_le _, rfl, ⟨[], 0, 0, Sl.nil 9 1, RowsR.nil, (MS.zero_add _).symm⟩, by rw [MS.zero_add]; exact Has.all w, Ext.refl w⟩
  case round =>
    obtain ⟨y, mR, hy, rfl, hs, hW, hE⟩ := hrel
    obtain ⟨A4, c4, rfl, _⟩ := SlR.form hs
    have hlen : ((List.range y).map fun y => azRow (m4 + 1) (azK (m4 + 1) y)).length = y := by simp
    rw [hlen] at hs ⊢
    have HS := hid hs
    have HW := hid hW
    have HE := hid hE
    have Hlen := hid hlen
    clear hs hW hE hlen
    by_cases hlt : y < 2 * (m4 + 1)
    · have hltI : (y : Int) < 2 * ((m4 : Int) + 1) := by omega
      have hltI2 : (y : Int) < 2 * (1 + (m4 : Int)) := by omega
      obtain ⟨hk1, hk2⟩ := azK_le (n := m4 + 1) (by omega) hlt
      obtain ⟨K, hK⟩ : ∃ K, K = azK (m4 + 1) y := ⟨_, rfl⟩
      rw [← hK] at hk1 hk2
      have HK := hid hK
      have hmin : min ((y : Int) + 1) (2 * (1 + (m4 : Int)) - y) = K := by
        rw [hK]; unfold azK; omega
      have Hlt := hid hlt
      clear hlt hy
      have hk1I : (1 : Int) ≤ K := by omega
      have hk2I : (K : Int) ≤ 1 + m4 := by omega
      clear hK
      go_wp2
      obtain ⟨D, hD⟩ : ∃ D : Nat, D = m4 + 1 - K := ⟨_, rfl⟩
      have hDw : IntKind.i64.wrap (1 + (m4 : Int) - (K : Int)) = (D : Int) := by rw [IntKind.wrap_i64]; omega
      have hD3 : (D : Int) ≤ 3 := by omega
      have h2w : IntKind.i64.wrap (2 * (K : Int)) = 2 * (K : Int) := by rw [IntKind.wrap_i64]; omega
      have hK4 : (K : Int) ≤ 4 := by omega
      have hD8 : (D : Int) ≤ 8 := by omega
      have h2K8 : 2 * (K : Int) ≤ 8 := by omega
      have h2K0 : 0 ≤ 2 * (K : Int) := by omega
      have h2Kn : (2 * (K : Int)).toNat = 2 * K := by omega
      have hcat1 : ¬ (9223372036854775807 < min D 8 + min (2 * K) 8) := Nat.not_lt.2 (Nat.le_trans (show min D 8 + min (2 * K) 8 ≤ 16 by omega) (by decide))
      have hcat2 : ¬ (9223372036854775807 < min D 8 + min (2 * K) 8 + min D 8) := Nat.not_lt.2 (Nat.le_trans (show min D 8 + min (2 * K) 8 + min D 8 ≤ 24 by omega) (by decide))
      have HD := hid hD
      clear hD
      have hS : True := trivial
      refine wp_region_txt (fun W => True) none
        [(0, true), (1, true), (2, true), (3, true), (4, true), (5, true), (6, true), (7, true), (8, true), (9, true), (10, true), (11, true), (12, true), (13, true)] (by kernel_rfl) rfl (by kernel_rfl) (by kernel_rfl) (by repeat (first | with_reducible refine PanicOk.thn ?_ | with_reducible refine PanicOk.blk ?_ | exact PanicOk.body _ _ _)) ?_
      repeat
        (refine txt_quiet ?_ hS rfl rfl (fun W hW => ?_) ?_
         rotate_left 1
         · obtain hW1 := hW
           go_simp
           exact rfl
         simp only [Act.put, List.setIfInBounds_toArray, List.set_cons_zero, List.set_cons_succ])
      refine txt_done ?_
      clear hcat1 hcat2 hS hDw h2w hD8 h2K8 h2K0 h2Kn hD3 hmin
      have Hrow := hid (show ((List.range (y + 1)).map fun y => azRow (m4 + 1) (azK (m4 + 1) y)) = ((List.range y).map fun y => azRow (m4 + 1) (azK (m4 + 1) y)) ++ [dots.extract 0 D ++ hashes.extract 0 (2 * K) ++ dots.extract 0 D] by
        rw [List.range_succ, List.map_append, List.map_singleton, ← HK.out]
        unfold azRow
        rw [HD.out])
      have hy8 : y ≤ 8 := by have := Hlt.out; omega
      go_wp2_with (at_builtin; refine wpList_push rfl (.tmp 42) (.tmp 44) row22 rfl (.slice A4 y c4) rfl _ rfl (by simp) StrR StrR.one StrR.len _ (dots.extract 0 D ++ hashes.extract 0 (2 * K) ++ dots.extract 0 D) mR 0 (MS.all w) HS.out ⟨rfl, rfl⟩ (HW.out.drew.eq (by rw [MS.zero_add])) y Hlen.out (by omega) (by omega) ?_; intro A9 c9 w9 m9 j4 j5 j6; have J4 := hid j4; have J5 := hid j5; have J6 := hid ((HE.out.trans (Ext.drew _)).trans j6); clear j4 j5 j6)
      go_roundw
      case rel => exact ⟨y + 1, m9, Hlt.out, by go_num, by rw [Hrow.out]; exact J4.out, J5.out, J6.out⟩
      case measure => have := Hlt.out; simp [intOf]; omega
    · have hye : y = 2 * (m4 + 1) := by omega
      subst hye
      clear hlt hy
      have hrd : RdS mR RT.str (az (m4 + 1)) (.slice A4 (2 * (m4 + 1)) c4) := SlR.rd (R := StrR) (T := RT.str) (fun a cs m h => h.1) HS.out
      have hlen : (az (m4 + 1)).length = 2 * (m4 + 1) := Hlen.out
      have hmr : m4 ∈ List.range 4 := List.mem_range.2 (by omega)
      have hreg : isReg (az (m4 + 1)) = true := List.all_eq_true.1 azReg m4 hmr
      have hcn : cntV (az (m4 + 1)) = 2 ^ ((m4 + 1) * (m4 + 2) / 2) := by simpa using List.all_eq_true.1 azCnt m4 hmr
      have hka : (kasV (az (m4 + 1))).natAbs = 2 ^ ((m4 + 1) * (m4 + 2) / 2) := by simpa using List.all_eq_true.1 azKas m4 hmr
      have hce : cntE (az (m4 + 1)) = 0 := by unfold cntE; rw [hreg]; rfl
      have hl : (az (m4 + 1)).length ≤ 1000 := by rw [hlen]; omega
      have hs : ∀ s ∈ az (m4 + 1), s.size ≤ 1000000 := fun s h => by
        have h1 := (isReg.ok hreg).1.rows s h
        have h2 := (isReg.ok hreg).1.w8
        omega
      have Hcnt := hid (fun (W : World) (hW : Has W mR) => show Calls Tryd.prog 13 #[.slice A4 (2 * (m4 + 1)) c4] W fun e w' => e = .returned (.tuple #[.int .i64 (cntV (az (m4 + 1))), .int .i64 0]) ∧ Kp W w' from by
        rw [← hlen] at hrd ⊢
        rw [← hce]
        exact count_any hrd hl hs hW)
      have Hkas := hid (fun (W : World) (hW : Has W (mR + F)) => show Calls Tryd.prog 15 #[.slice A4 (2 * (m4 + 1)) c4] W fun e w' => e = .returned (.tuple #[.int .i64 (kasV (az (m4 + 1))), .int .i64 0]) ∧ Kp W w' from by
        rw [← hlen] at hrd ⊢
        rw [← hce]
        exact kas_yes (hrd.less F) hl hs (Hf.out.more mR) hW hreg)
      have HWF := hid (show Has wr (mR + F) from Has.with_all HF.out HW.out)
      have hmc : m4 = 0 ∨ m4 = 1 ∨ m4 = 2 ∨ m4 = 3 := by omega
      have hex : ∃ T : Nat, T = 2 ^ ((m4 + 1) * (m4 + 2) / 2) := ⟨_, rfl⟩
      obtain ⟨T, hT⟩ := hex
      rw [← hT] at hcn hka
      have hk2 : kasV (az (m4 + 1)) = (T : Int) ∨ kasV (az (m4 + 1)) = -(T : Int) := by omega
      rw [hcn] at Hcnt
      clear hrd hlen hmr hreg hce hl hs hcn hka HS Hlen hq1 hq2
      rcases hk2 with hk2 | hk2
      · rw [hk2] at Hkas
        clear hk2
        rcases hmc with rfl | rfl | rfl | rfl
        · obtain rfl : T = 2 := hT
          try clear hT
          go_wp2_with (first
            | (go_at_call 12; refine (Hal.out _ (K2.out.has HWF.out).right).mono ?_; rintro e3 w3 ⟨rfl, k3⟩; have K3 := hid (K2.out.trans k3); clear k3)
            | (go_at_call 15; refine (Hkas.out _ (K1.out.has HWF.out)).mono ?_; rintro e2 w2 ⟨rfl, k2⟩; have K2 := hid (K1.out.trans k2); clear k2)
            | (go_at_call 13; refine (Hcnt.out _ HWF.out.left).mono ?_; rintro e1 w1 ⟨rfl, k1⟩; have K1 := hid k1; clear k1))
          go_ret
          exact ⟨rfl, (K3.out.has HWF.out).right, HE.out.trans K3.out.2⟩
        · obtain rfl : T = 8 := hT
          try clear hT
          go_wp2_with (first
            | (go_at_call 12; refine (Hal.out _ (K2.out.has HWF.out).right).mono ?_; rintro e3 w3 ⟨rfl, k3⟩; have K3 := hid (K2.out.trans k3); clear k3)
            | (go_at_call 15; refine (Hkas.out _ (K1.out.has HWF.out)).mono ?_; rintro e2 w2 ⟨rfl, k2⟩; have K2 := hid (K1.out.trans k2); clear k2)
            | (go_at_call 13; refine (Hcnt.out _ HWF.out.left).mono ?_; rintro e1 w1 ⟨rfl, k1⟩; have K1 := hid k1; clear k1))
          go_ret
          exact ⟨rfl, (K3.out.has HWF.out).right, HE.out.trans K3.out.2⟩
        · obtain rfl : T = 64 := hT
          try clear hT
          go_wp2_with (first
            | (go_at_call 12; refine (Hal.out _ (K2.out.has HWF.out).right).mono ?_; rintro e3 w3 ⟨rfl, k3⟩; have K3 := hid (K2.out.trans k3); clear k3)
            | (go_at_call 15; refine (Hkas.out _ (K1.out.has HWF.out)).mono ?_; rintro e2 w2 ⟨rfl, k2⟩; have K2 := hid (K1.out.trans k2); clear k2)
            | (go_at_call 13; refine (Hcnt.out _ HWF.out.left).mono ?_; rintro e1 w1 ⟨rfl, k1⟩; have K1 := hid k1; clear k1))
          go_ret
          exact ⟨rfl, (K3.out.has HWF.out).right, HE.out.trans K3.out.2⟩
        · obtain rfl : T = 1024 := hT
          try clear hT
          go_wp2_with (first
            | (go_at_call 12; refine (Hal.out _ (K2.out.has HWF.out).right).mono ?_; rintro e3 w3 ⟨rfl, k3⟩; have K3 := hid (K2.out.trans k3); clear k3)
            | (go_at_call 15; refine (Hkas.out _ (K1.out.has HWF.out)).mono ?_; rintro e2 w2 ⟨rfl, k2⟩; have K2 := hid (K1.out.trans k2); clear k2)
            | (go_at_call 13; refine (Hcnt.out _ HWF.out.left).mono ?_; rintro e1 w1 ⟨rfl, k1⟩; have K1 := hid k1; clear k1))
          go_ret
          exact ⟨rfl, (K3.out.has HWF.out).right, HE.out.trans K3.out.2⟩
      · rw [hk2] at Hkas
        clear hk2
        rcases hmc with rfl | rfl | rfl | rfl
        · obtain rfl : T = 2 := hT
          try clear hT
          go_wp2_with (first
            | (go_at_call 12; refine (Hal.out _ (K2.out.has HWF.out).right).mono ?_; rintro e3 w3 ⟨rfl, k3⟩; have K3 := hid (K2.out.trans k3); clear k3)
            | (go_at_call 15; refine (Hkas.out _ (K1.out.has HWF.out)).mono ?_; rintro e2 w2 ⟨rfl, k2⟩; have K2 := hid (K1.out.trans k2); clear k2)
            | (go_at_call 13; refine (Hcnt.out _ HWF.out.left).mono ?_; rintro e1 w1 ⟨rfl, k1⟩; have K1 := hid k1; clear k1))
          go_ret
          exact ⟨rfl, (K3.out.has HWF.out).right, HE.out.trans K3.out.2⟩
        · obtain rfl : T = 8 := hT
          try clear hT
          go_wp2_with (first
            | (go_at_call 12; refine (Hal.out _ (K2.out.has HWF.out).right).mono ?_; rintro e3 w3 ⟨rfl, k3⟩; have K3 := hid (K2.out.trans k3); clear k3)
            | (go_at_call 15; refine (Hkas.out _ (K1.out.has HWF.out)).mono ?_; rintro e2 w2 ⟨rfl, k2⟩; have K2 := hid (K1.out.trans k2); clear k2)
            | (go_at_call 13; refine (Hcnt.out _ HWF.out.left).mono ?_; rintro e1 w1 ⟨rfl, k1⟩; have K1 := hid k1; clear k1))
          go_ret
          exact ⟨rfl, (K3.out.has HWF.out).right, HE.out.trans K3.out.2⟩
        · obtain rfl : T = 64 := hT
          try clear hT
          go_wp2_with (first
            | (go_at_call 12; refine (Hal.out _ (K2.out.has HWF.out).right).mono ?_; rintro e3 w3 ⟨rfl, k3⟩; have K3 := hid (K2.out.trans k3); clear k3)
            | (go_at_call 15; refine (Hkas.out _ (K1.out.has HWF.out)).mono ?_; rintro e2 w2 ⟨rfl, k2⟩; have K2 := hid (K1.out.trans k2); clear k2)
            | (go_at_call 13; refine (Hcnt.out _ HWF.out.left).mono ?_; rintro e1 w1 ⟨rfl, k1⟩; have K1 := hid k1; clear k1))
          go_ret
          exact ⟨rfl, (K3.out.has HWF.out).right, HE.out.trans K3.out.2⟩
        · obtain rfl : T = 1024 := hT
          try clear hT
          go_wp2_with (first
            | (go_at_call 12; refine (Hal.out _ (K2.out.has HWF.out).right).mono ?_; rintro e3 w3 ⟨rfl, k3⟩; have K3 := hid (K2.out.trans k3); clear k3)
            | (go_at_call 15; refine (Hkas.out _ (K1.out.has HWF.out)).mono ?_; rintro e2 w2 ⟨rfl, k2⟩; have K2 := hid (K1.out.trans k2); clear k2)
            | (go_at_call 13; refine (Hcnt.out _ HWF.out.left).mono ?_; rintro e1 w1 ⟨rfl, k1⟩; have K1 := hid k1; clear k1))
          go_ret
          exact ⟨rfl, (K3.out.has HWF.out).right, HE.out.trans K3.out.2⟩
end Go.Proofs.YtcdhimnmbpllgaaDoor

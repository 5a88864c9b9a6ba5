/-
  The walk of SnapLimit.
-/
import Derived.Test.YtnkgfgkgepadhaaLimit
import Derived.Test.YtnkgfgkgepadhaaLawEnds
namespace Go.Proofs.Ytnkgfgkgepadhaa
open Go.RowKit
set_option linter.unusedVariables false
set_option linter.unusedSimpArgs false

set_option maxHeartbeats 4000000 in
set_option maxRecDepth 100000 in
theorem limit_all {F : MS} {w : World} (hH : Has w F) (u : Int) (hu0 : 0 ≤ u) (hu1 : u < 256) :
    Calls Try.prog 5 #[.int .u8 u] w (LawPost w F) := by
  obtain ⟨s1, s2, s3⟩ := lim_start
  have HH := hid hH
  have H0 := hid (fun o => hH.alloc o)
  have hnew := hid (fun (W : World) (b : Nat) (h : Has W (pts b (.cells #[.int .i64 3, .int .i64 0] 3) + F)) => new_net (rdS_two F b 3 0) h s1)
  have Hs := hid (And.intro s2 s3)
  clear s1 s2 s3 hH
  go_enter Try.func5, Try.ntmps5
  go_wp2_with (go_at_call 24; refine (hnew.out _ _ (H0.out _)).mono ?_; rintro e w1 ⟨b, rfl, k1, k2⟩; have K0 := hid k1; have E0 := hid k2; clear k1 k2)
  refine (send_net K0.out 0 1 1).mono ?_
  rintro e w2 ⟨rfl, k1, k2⟩
  rw [Hs.out.1]
  have K1 := hid k1.beside; have E1 := hid k2; clear k1 k2
  have HL := hid Hs.out.2
  clear Hs
  generalize ((Net.new [3, 0]).send 0 1 1).2 = σ0 at *
  go_wp2
  go_loopw [5] (fun v wr => ∃ (i : Nat) (σ : Net), 1 ≤ i ∧ i ≤ 400 ∧ v = .int .i64 i ∧ Lim σ i 0 (3 + ((i : Int) - 1) * (1 + u)) ∧ NetAt F σ b wr ∧ Ext w wr) (fun v _ => 400 - (intOf v).toNat)
  case atStart => exact ⟨1, σ0, by omega, by omega, rfl, by simpa using HL.out, K1.out, (((Ext.alloc _ _).trans E0.out).trans E1.out)⟩
  case round =>
    obtain ⟨i, σ, hi1, hi2, rfl, hL, hA, hE⟩ := hrel
    have HLi := hid hL
    have HA := hid hA
    have HE := hid hE
    clear hL hA hE
    by_cases hlt : i < 400
    · have Hlt := hid hlt
      obtain ⟨g1, g2⟩ := HLi.out.work (i % 2) (Nat.mod_lt _ (by omega)) (1 + u) (by omega) hlt
      have hcast : ((i % 2 : Nat) : Int) = (i : Int) % 2 := by simp
      rw [hcast] at g1 g2
      have hw := work_net HA.out ((i : Int) % 2) (1 + u)
      rw [g1] at hw
      have Hw := hid hw
      have HL2 := hid g2
      clear g1 g2 hcast hw
      generalize (σ.work ((i : Int) % 2) (1 + u)).2 = σ1 at *
      go_wp2_with (go_at_call 26; refine Hw.out.mono ?_; rintro e w3 ⟨rfl, k1, k2⟩; have K3 := hid k1; have E3 := hid k2; clear k1 k2)
      go_roundw
      case rel => exact ⟨i + 1, σ1, by omega, Hlt.out, by go_num, by
        have := HL2.out
        have e : 3 + ((i : Int) - 1) * (1 + u) + (1 + u) = 3 + (((i + 1 : Nat) : Int) - 1) * (1 + u) := by
          rw [show (((i + 1 : Nat) : Int) - 1) = ((i : Int) - 1) + 1 by omega, Int.add_mul]; omega
        rw [e] at this; exact this, K3.out, HE.out.trans E3.out⟩
      case measure => have := Hlt.out; simp [intOf]; omega
    · obtain rfl : i = 400 := by omega
      obtain ⟨a1, a2, a3, a4, a5, a6⟩ := HLi.out.full
      have h1 := work_net HA.out 0 1
      rw [a1, a2] at h1
      have H1 := hid (fun (W : World) (hW : NetAt F σ b W) => by
        have h := work_net hW 0 1
        rw [a1, a2] at h; exact h)
      have H2 := hid (fun (W : World) (hW : NetAt F σ b W) => by
        have h := send_net hW 0 1 1
        rw [a3, a4] at h; exact h)
      have H3 := hid (fun (W : World) (hW : NetAt F σ b W) => by
        have h := recv_net hW 0 1
        rw [a5, a6] at h; exact h)
      have H4 := hid (fun (W : World) (hW : NetAt F σ b W) => by
        have h := events_net hW HLi.out.cl
        rw [HLi.out.ev] at h; exact h)
      clear a1 a2 a3 a4 a5 a6 h1
      go_wp2_with (first
        | (go_at_call 26; refine (H1.out _ HA.out).mono ?_; rintro e w3 ⟨rfl, k1, k2⟩; have K3 := hid k1; have E3 := hid k2; clear k1 k2)
        | (go_at_call 25; refine (H2.out _ K3.out).mono ?_; rintro e w4 ⟨rfl, k1, k2⟩; have K4 := hid k1; have E4 := hid k2; clear k1 k2)
        | (go_at_call 16; refine (H3.out _ K4.out).mono ?_; rintro e w5 ⟨rfl, k1, k2⟩; have K5 := hid k1; have E5 := hid k2; clear k1 k2)
        | (go_at_call 18; refine (H4.out _ K5.out).mono ?_; rintro e w6 ⟨A6, c6, m6, rfl, _, _, k1, k2⟩; have K6 := hid k1.beside; have E6 := hid k2; clear k1 k2))
      go_loopw [6] (fun v wr => ∃ (t : Nat) (σ : Net), t ≤ 8 ∧ v = .int .i64 (t + 1) ∧ Lim σ 400 t (3 + 399 * (1 + u)) ∧ NetAt F σ b wr ∧ Ext w wr) (fun v _ => 9 - (intOf v).toNat)
      case atStart => exact ⟨0, σ, by omega, rfl, by have := HLi.out; simpa using this, K6.out, ((((HE.out.trans E3.out).trans E4.out).trans E5.out).trans E6.out)⟩
      case round =>
        obtain ⟨t, σ', ht, rfl, hL, hA, hE⟩ := hrel
        have HLt := hid hL
        have HAt := hid hA
        have HEt := hid hE
        clear hL hA hE
        by_cases htl : t < 8
        · have Htl := hid htl
          obtain ⟨g1, g2, g3, g4⟩ := HLt.out.shot htl
          have h1 := start_net HAt.out 1
          rw [g1, g2] at h1
          have H1 := hid h1
          have H2 := hid (fun (W : World) (hW : NetAt F (σ'.start 1).2.2 b W) => by
            have h := recv_net hW 1 0
            rw [g3] at h; exact h)
          have HL2 := hid g4
          have hbne : (((t : Int) + 1) != ((t : Int) + 1)) = false := by simp
          clear g1 g2 g3 g4 h1
          generalize (σ'.start 1).2.2 = σ1 at *
          go_wp2_with (first
            | (go_at_call 27; refine H1.out.mono ?_; rintro e w7 ⟨rfl, k1, k2⟩; have K7 := hid k1; have E7 := hid k2; clear k1 k2)
            | (go_at_call 16; refine (H2.out _ K7.out).mono ?_; rintro e w8 ⟨rfl, k1, k2⟩; have K8 := hid k1; have E8 := hid k2; clear k1 k2))
          go_roundw
          case rel => exact ⟨t + 1, _, Htl.out, by go_num, HL2.out, K8.out, (HEt.out.trans E7.out).trans E8.out⟩
          case measure => have := Htl.out; simp [intOf]; omega
        · obtain rfl : t = 8 := by omega
          have h1 := start_net HAt.out 0
          rw [HLt.out.last] at h1
          have H1 := hid h1
          have hlen : (σ'.lineAt 0 1).length = 9 := by have := congrArg List.length HLt.out.l01; simpa using this
          have H2 := hid (fun (W : World) (hW : NetAt F σ' b W) => by
            have h := waiting_net hW (i := 0) (j := 1) (by rw [HLt.out.n]; omega) (by rw [HLt.out.n]; omega) (by decide)
            rw [hlen, HLt.out.l01] at h; exact h)
          have htot : σ'.total = 3 + 399 * (1 + u) := by rw [total_held HLt.out.ok]; exact HLt.out.tot
          have H3 := hid (fun (G : MS) (W : World) (hW : NetAt G σ' b W) => by
            have h := total_net hW
            rw [htot] at h; exact h)
          clear h1 hlen htot
          go_wp2_with (first
            | (go_at_call 27; refine H1.out.mono ?_; rintro e w7 ⟨rfl, k1, k2⟩; have K7 := hid k1; have E7 := hid k2; clear k1 k2)
            | (go_at_call 28; refine (H2.out _ K7.out).mono ?_; rintro e w8 ⟨A8, c8, m8, rfl, k1, k2, k3⟩; obtain ⟨b8, o8, q1, q2⟩ := k1.rdS.getInt (i := 0) (a := 1) rfl; obtain ⟨b9, o9, q3, q4⟩ := k1.rdS.getInt (i := 1) (a := -1) rfl; subst q1; injection q3 with q3; injection q3 with q5 q6; subst q5; subst q6; have K8 := hid k2; have E8 := hid k3; have f0 : w8.cell? ⟨b8, o8, none⟩ = some (.int .i64 1) := MS.at.cell (X := 0) (q2.less F) (by rw [MS.zero_add]; exact k2.has); have f1 : w8.cell? ⟨b8, o8 + 1, none⟩ = some (.int .i64 (-1)) := MS.at.cell (X := 0) (q4.less F) (by rw [MS.zero_add]; exact k2.has); clear k1 k2 k3 q2 q4)
            | (go_at_call 19; refine (H3.out _ _ K8.out).mono ?_; rintro e w9 ⟨rfl, k1, k2⟩; have K9 := hid k1; have E9 := hid k2; clear k1 k2)
            | (go_at_call 14; refine (alive_any _).mono ?_; rintro e w10 ⟨rfl, k1, k2⟩))
          go_ret
          exact ⟨rfl, k1 _ K9.out.beside.has, (((HEt.out.trans E7.out).trans E8.out).trans E9.out).trans k2⟩
end Go.Proofs.Ytnkgfgkgepadhaa

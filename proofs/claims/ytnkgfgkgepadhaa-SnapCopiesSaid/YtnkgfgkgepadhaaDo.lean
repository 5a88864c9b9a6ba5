/-
  The walk of do: one call on both.
-/
import Derived.Test.YtnkgfgkgepadhaaRefKeep
namespace Go.Proofs.Ytnkgfgkgepadhaa
open Go.RowKit
set_option linter.unusedVariables false
set_option linter.unusedSimpArgs false
variable {Q : MS}
set_option maxHeartbeats 2000000
set_option maxRecDepth 100000

/-- Both sides at one net. -/
structure PairAt (Q F G : MS) (σ : Net) (b b2 : Nat) (w : World) : Prop where
  net : NetAt Q (F + G) σ b w
  ref : RdRef F σ b2
  both : Both σ
def DoPost (Q F G : MS) (σ' : Net) (b : Nat) (w : World) (e : Ending) (w' : World) : Prop :=
  ∃ b' X, e = .returned (.tuple #[.pointer (some ⟨b', 0, none⟩), .bool true]) ∧ PairAt Q (X + F) G σ' b b' w' ∧ Ext w w'
theorem NetAt.same {F F' : MS} {σ : Net} {b : Nat} {w : World} (h : NetAt Q F σ b w) (e : F = F') : NetAt Q F' σ b w := e ▸ h
theorem do_any {F G : MS} {σ : Net} {b b2 : Nat} {w : World} (h : PairAt Q F G σ b b2 w) (k x y n : Int) (h1 : 0 ≤ k) (h2 : k < 256) :
    Calls Try.prog 31 #[.pointer (some ⟨b, 0, none⟩), .pointer (some ⟨b2, 0, none⟩), .agg #[.int .u8 k, .int .i64 x, .int .i64 y, .int .i64 n]] w (DoPost Q F G (σ.act ⟨k, x, y, n⟩) b w) := by
  obtain ⟨hN, hR, hB⟩ := h
  have Hb := hid (show ∀ o, NetAt Q (F + (pts w.heap.size o + G)) σ b (w.alloc o) from fun o => (hN.alloc o).same (by ac_rfl))
  have hcell : ∀ (X : MS) (τ : Net) (W : World), NetAt Q (X + (F + (pts w.heap.size (.cells #[.int .u8 k, .int .i64 x, .int .i64 y, .int .i64 n] 60) + G))) τ b W → W.cell? ⟨w.heap.size, 1, none⟩ = some (.int .i64 x) ∧ W.cell? ⟨w.heap.size, 2, none⟩ = some (.int .i64 y) ∧ W.cell? ⟨w.heap.size, 3, none⟩ = some (.int .i64 n) := fun X τ W h => by
    have h := h.has.eq (b := blk w.heap.size #[.int .u8 k, .int .i64 x, .int .i64 y, .int .i64 n] 60 + (X + (F + G))) (by show X + (F + (blk _ _ _ + G)) = _; ac_rfl)
    exact ⟨h.at_ rfl, h.at_ rfl, h.at_ rfl⟩
  have Hcell := hid hcell
  have HR := hid hR
  have HB := hid hB
  have Hact := hid (hB.act ⟨k, x, y, n⟩)
  clear hcell hN hR hB
  by_cases c0 : k % 8 = 0
  · have hσ := hid (show σ.act ⟨k, x, y, n⟩ = (σ.work x n).2 by simp [Net.act, c0])
    have t0 : (k % 8 == 0) = true := by simp [c0]
    clear c0
    rw [hσ.out] at Hact ⊢
    generalize hr : σ.work x n = r at *
    have Hr := hid hr
    clear hr hσ
    have t9 : (r.1 == r.1) = true := by simp
    go_enter Try.func31, Try.ntmps31
    go_wp2_with (first
      | (go_at_call 67; refine (rwork_net (Hb.out _) HR.out HB.out.ok _ _).mono ?_; rintro e w1 ⟨b', X, rfl, k1, k2, k3⟩; rw [Hr.out] at k1 ⊢; obtain ⟨f1, f2, f3⟩ := Hcell.out X _ _ k2; have K1 := hid k1; have K2 := hid k2; have K3 := hid k3; clear k1 k2 k3)
      | (go_at_call 26; refine (work_net K2.out _ _).mono ?_; rintro e w2 ⟨rfl, k1, k2⟩; rw [Hr.out] at k1 ⊢; have K4 := hid k1; have K5 := hid k2; clear k1 k2))
    go_ret2
    exact ⟨b', X, rfl, ⟨(K4.out.same (by ac_rfl)).beside (X := pts w.heap.size (.cells #[.int .u8 k, .int .i64 x, .int .i64 y, .int .i64 n] 60)), K1.out, Hact.out⟩, ((Ext.alloc _ _).trans K3.out).trans K5.out⟩
  · have t0 : (k % 8 == 0) = false := by simp [c0]
    by_cases c1 : k % 8 = 1
    · have t1 : (k % 8 == 1) = true := by simp [c1]
      have hσ := hid (show σ.act ⟨k, x, y, n⟩ = (σ.send x y n).2 by simp [Net.act, c1])
      have tt := t0
      clear c0 c1 tt
      rw [hσ.out] at Hact ⊢
      generalize hr : σ.send x y n = r at *
      have Hr := hid hr
      clear hr hσ
      have t9 : (r.1 == r.1) = true := by simp
      go_enter Try.func31, Try.ntmps31
      go_wp2_with (first
        | (go_at_call 68; refine (rsend_net (Hb.out _) HR.out HB.out.ok _ _ _).mono ?_; rintro e w1 ⟨b', X, rfl, k1, k2, k3⟩; rw [Hr.out] at k1 ⊢; obtain ⟨f1, f2, f3⟩ := Hcell.out X _ _ k2; have K1 := hid k1; have K2 := hid k2; have K3 := hid k3; clear k1 k2 k3)
        | (go_at_call 25; refine (send_net K2.out _ _ _).mono ?_; rintro e w2 ⟨rfl, k1, k2⟩; rw [Hr.out] at k1 ⊢; have K4 := hid k1; have K5 := hid k2; clear k1 k2))
      go_ret2
      exact ⟨b', X, rfl, ⟨(K4.out.same (by ac_rfl)).beside (X := pts w.heap.size (.cells #[.int .u8 k, .int .i64 x, .int .i64 y, .int .i64 n] 60)), K1.out, Hact.out⟩, ((Ext.alloc _ _).trans K3.out).trans K5.out⟩
    · have t1 : (k % 8 == 1) = false := by simp [c1]
      by_cases c2 : k % 8 = 2
      · have t2 : (k % 8 == 2) = true := by simp [c2]
        have hσ := hid (show σ.act ⟨k, x, y, n⟩ = (σ.send x y n).2 by simp [Net.act, c2])
        have tt := t0
        clear c0 c1 c2 tt
        rw [hσ.out] at Hact ⊢
        generalize hr : σ.send x y n = r at *
        have Hr := hid hr
        clear hr hσ
        have t9 : (r.1 == r.1) = true := by simp
        go_enter Try.func31, Try.ntmps31
        go_wp2_with (first
          | (go_at_call 68; refine (rsend_net (Hb.out _) HR.out HB.out.ok _ _ _).mono ?_; rintro e w1 ⟨b', X, rfl, k1, k2, k3⟩; rw [Hr.out] at k1 ⊢; obtain ⟨f1, f2, f3⟩ := Hcell.out X _ _ k2; have K1 := hid k1; have K2 := hid k2; have K3 := hid k3; clear k1 k2 k3)
          | (go_at_call 25; refine (send_net K2.out _ _ _).mono ?_; rintro e w2 ⟨rfl, k1, k2⟩; rw [Hr.out] at k1 ⊢; have K4 := hid k1; have K5 := hid k2; clear k1 k2))
        go_ret2
        exact ⟨b', X, rfl, ⟨(K4.out.same (by ac_rfl)).beside (X := pts w.heap.size (.cells #[.int .u8 k, .int .i64 x, .int .i64 y, .int .i64 n] 60)), K1.out, Hact.out⟩, ((Ext.alloc _ _).trans K3.out).trans K5.out⟩
      · have t2 : (k % 8 == 2) = false := by simp [c2]
        by_cases c7 : k % 8 = 7
        · have t7 : (k % 8 == 7) = true := by simp [c7]
          have hσ := hid (show σ.act ⟨k, x, y, n⟩ = (σ.start x).2.2 by simp [Net.act, c7])
          have tt := t0
          clear c0 c1 c2 c7 tt
          rw [hσ.out] at Hact ⊢
          generalize hr : σ.start x = r at *
          have Hr := hid hr
          clear hr hσ
          have t9 : (r.2.1 == r.2.1) = true := by simp
          have t8 : (r.1 == r.1) = true := by simp
          go_enter Try.func31, Try.ntmps31
          go_wp2_with (first
            | (go_at_call 69; refine (rstart_net (Hb.out _) HR.out HB.out.ok HB.out.ck _).mono ?_; rintro e w1 ⟨b', X, rfl, k1, k2, k3⟩; rw [Hr.out] at k1 ⊢; obtain ⟨f1, f2, f3⟩ := Hcell.out X _ _ k2; have K1 := hid k1; have K2 := hid k2; have K3 := hid k3; clear k1 k2 k3)
            | (go_at_call 27; refine (start_net K2.out _).mono ?_; rintro e w2 ⟨rfl, k1, k2⟩; rw [Hr.out] at k1 ⊢; have K4 := hid k1; have K5 := hid k2; clear k1 k2))
          go_ret2
          exact ⟨b', X, rfl, ⟨(K4.out.same (by ac_rfl)).beside (X := pts w.heap.size (.cells #[.int .u8 k, .int .i64 x, .int .i64 y, .int .i64 n] 60)), K1.out, Hact.out⟩, ((Ext.alloc _ _).trans K3.out).trans K5.out⟩
        · have t7 : (k % 8 == 7) = false := by simp [c7]
          have hσ := hid (show σ.act ⟨k, x, y, n⟩ = (σ.recv x y).2 by simp [Net.act, c0, c1, c2, c7])
          have tt := t0
          clear c0 c1 c2 c7 tt
          rw [hσ.out] at Hact ⊢
          generalize hr : σ.recv x y = r at *
          have Hr := hid hr
          clear hr hσ
          have t9 : (r.1 == r.1) = true := by simp
          go_enter Try.func31, Try.ntmps31
          go_wp2_with (first
            | (go_at_call 70; refine (rrecv_net (Hb.out _) HR.out HB.out.ok HB.out.ck _ _).mono ?_; rintro e w1 ⟨b', X, rfl, k1, k2, k3⟩; rw [Hr.out] at k1 ⊢; obtain ⟨f1, f2, f3⟩ := Hcell.out X _ _ k2; have K1 := hid k1; have K2 := hid k2; have K3 := hid k3; clear k1 k2 k3)
            | (go_at_call 16; refine (recv_net K2.out _ _).mono ?_; rintro e w2 ⟨rfl, k1, k2⟩; rw [Hr.out] at k1 ⊢; have K4 := hid k1; have K5 := hid k2; clear k1 k2))
          go_ret2
          exact ⟨b', X, rfl, ⟨(K4.out.same (by ac_rfl)).beside (X := pts w.heap.size (.cells #[.int .u8 k, .int .i64 x, .int .i64 y, .int .i64 n] 60)), K1.out, Hact.out⟩, ((Ext.alloc _ _).trans K3.out).trans K5.out⟩
end Go.Proofs.Ytnkgfgkgepadhaa

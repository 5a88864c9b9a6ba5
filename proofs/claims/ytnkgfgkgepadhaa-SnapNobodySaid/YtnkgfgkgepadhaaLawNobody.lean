/-
  The walk of SnapNobody.
-/
import Derived.Test.YtnkgfgkgepadhaaNobody
import Derived.Test.YtnkgfgkgepadhaaLawEnds
namespace Go.Proofs.Ytnkgfgkgepadhaa
open Go.RowKit
set_option linter.unusedVariables false
set_option linter.unusedSimpArgs false

/-- A nil net, or a zero one that the claim knows. -/
def NoN (F : MS) (v : Value) : Prop := v = .pointer none ∨ ∃ b, v = .pointer (some ⟨b, 0, none⟩) ∧ F.at b 0 (.slice none 0 0)
section
variable {F : MS} {v : Value} {w : World} (h : NoN F v) (hH : Has w F)
include h hH
theorem start_nn (x : Int) : Calls Try.prog 27 #[v, .int .i64 x] w fun e w' => e = .returned (.tuple #[.int .i64 0, .int .i64 1]) ∧ w = w' := by
  rcases h with rfl | ⟨b, rfl, hb⟩
  · exact start_nil0 w x
  · exact start_zero0 b w x (hb.cell (X := 0) (by rw [MS.zero_add]; exact hH))
theorem waiting_nn (x y : Int) : Calls Try.prog 28 #[v, .int .i64 x, .int .i64 y] w fun e w' => e = .returned (.tuple #[.slice none 0 0, .int .i64 1]) ∧ w = w' := by
  rcases h with rfl | ⟨b, rfl, hb⟩
  · exact waiting_nil0 w x y
  · exact waiting_zero0 b w x y (hb.cell (X := 0) (by rw [MS.zero_add]; exact hH))
theorem done_nn (x : Int) : Calls Try.prog 17 #[v, .int .i64 x] w fun e w' => e = .returned (.tuple #[.bool false, .int .i64 1]) ∧ w = w' := by
  rcases h with rfl | ⟨b, rfl, hb⟩
  · exact done_nil0 w x
  · exact done_zero0 b w x (hb.cell (X := 0) (by rw [MS.zero_add]; exact hH))
theorem cut_nn (x : Int) : Calls Try.prog 22 #[v, .int .i64 x] w fun e w' => e = .returned (.tuple #[.slice none 0 0, .int .i64 1]) ∧ w = w' := by
  rcases h with rfl | ⟨b, rfl, hb⟩
  · exact cut_nil0 w x
  · exact cut_zero0 b w x (hb.cell (X := 0) (by rw [MS.zero_add]; exact hH))
theorem snapshot_nn (x : Int) : Calls Try.prog 21 #[v, .int .i64 x] w fun e w' => e = .returned (.tuple #[.agg #[.slice none 0 0, .slice none 0 0], .int .i64 1]) ∧ (∀ M, Has w M → Has w' M) ∧ Ext w w' := by
  rcases h with rfl | ⟨b, rfl, hb⟩
  · exact snapshot_nil0 w x
  · exact snapshot_zero0 b w x (hb.cell (X := 0) (by rw [MS.zero_add]; exact hH))
theorem work_nn (x y : Int) : Calls Try.prog 26 #[v, .int .i64 x, .int .i64 y] w fun e w' => e = .returned (.int .i64 1) ∧ w = w' := by
  rcases h with rfl | ⟨b, rfl, hb⟩
  · exact work_nil0 w x y
  · exact work_zero0 b w x y (hb.cell (X := 0) (by rw [MS.zero_add]; exact hH))
theorem send_nn (x y z : Int) : Calls Try.prog 25 #[v, .int .i64 x, .int .i64 y, .int .i64 z] w fun e w' => e = .returned (.int .i64 1) ∧ w = w' := by
  rcases h with rfl | ⟨b, rfl, hb⟩
  · exact send_nil0 w x y z
  · exact send_zero0 b w x y z (hb.cell (X := 0) (by rw [MS.zero_add]; exact hH))
theorem recv_nn (x y : Int) : Calls Try.prog 16 #[v, .int .i64 x, .int .i64 y] w fun e w' => e = .returned (.int .i64 1) ∧ w = w' := by
  rcases h with rfl | ⟨b, rfl, hb⟩
  · exact recv_nil0 w x y
  · exact recv_zero0 b w x y (hb.cell (X := 0) (by rw [MS.zero_add]; exact hH))
theorem pieces_nn : Calls Try.prog 47 #[v] w fun e w' => e = .returned (.slice none 0 0) ∧ w = w' := by
  rcases h with rfl | ⟨b, rfl, hb⟩
  · exact pieces_nil0 w
  · exact pieces_zero0 b w (hb.cell (X := 0) (by rw [MS.zero_add]; exact hH))
theorem events_nn : Calls Try.prog 18 #[v] w fun e w' => e = .returned (.slice none 0 0) ∧ w = w' := by
  rcases h with rfl | ⟨b, rfl, hb⟩
  · exact events_nil0 w
  · exact events_zero0 b w (hb.cell (X := 0) (by rw [MS.zero_add]; exact hH))
theorem total_nn : Calls Try.prog 19 #[v] w fun e w' => e = .returned (.int .i64 0) ∧ w = w' := by
  rcases h with rfl | ⟨b, rfl, hb⟩
  · exact total_nil0 w
  · exact total_zero0 b w (hb.cell (X := 0) (by rw [MS.zero_add]; exact hH))
theorem copy_nn : Calls Try.prog 46 #[v] w fun e w' => e = .returned (.pointer none) ∧ w = w' := by
  rcases h with rfl | ⟨b, rfl, hb⟩
  · exact copy_nil0 w
  · exact copy_zero0 b w (hb.cell (X := 0) (by rw [MS.zero_add]; exact hH))
end

theorem nn_more {F : MS} {v : Value} (h : NoN F v) (X : MS) : NoN (X + F) v := by
  rcases h with rfl | ⟨b, rfl, hb⟩
  · exact .inl rfl
  · exact .inr ⟨b, rfl, hb.more X⟩
set_option maxHeartbeats 2000000 in
set_option maxRecDepth 100000 in
theorem nobody_all {F : MS} {w : World} (hH : Has w F) (k a b n : Int) (plain : Bool) :
    Calls Try.prog 11 #[.agg #[.int .u8 k, .int .i64 a, .int .i64 b, .int .i64 n], .bool plain] w (LawPost w F) := by
  have HH := hid hH
  clear hH
  cases plain with
  | false =>
    have HW := hid (HH.out.alloc (.cells #[.int .u8 k, .int .i64 a, .int .i64 b, .int .i64 n] 60))
    have HN := hid (show NoN (pts w.heap.size (.cells #[.int .u8 k, .int .i64 a, .int .i64 b, .int .i64 n] 60) + F) (.pointer none) from .inl rfl)
    go_enter Try.func11, Try.ntmps11
    go_wp2_with (first
      | (go_at_call 27; refine (start_nn HN.out HW.out _).mono ?_; rintro e w' ⟨rfl, rfl⟩)
      | (go_at_call 28; refine (waiting_nn HN.out HW.out _ _).mono ?_; rintro e w' ⟨rfl, rfl⟩)
      | (go_at_call 17; refine (done_nn HN.out HW.out _).mono ?_; rintro e w' ⟨rfl, rfl⟩)
      | (go_at_call 21; refine (snapshot_nn HN.out HW.out _).mono ?_; rintro e w2 ⟨rfl, k1, k2⟩; have K1 := hid (k1 _ HW.out); have K2 := hid k2; clear k1 k2; have f0 : w2.cell? ⟨w.heap.size, 1, none⟩ = some (.int .i64 a) := Has.at_ (K1.out.eq (b := blk w.heap.size #[.int .u8 k, .int .i64 a, .int .i64 b, .int .i64 n] 60 + F) rfl) rfl; have f1 : w2.cell? ⟨w.heap.size, 2, none⟩ = some (.int .i64 b) := Has.at_ (K1.out.eq (b := blk w.heap.size #[.int .u8 k, .int .i64 a, .int .i64 b, .int .i64 n] 60 + F) rfl) rfl; have f2 : w2.cell? ⟨w.heap.size, 3, none⟩ = some (.int .i64 n) := Has.at_ (K1.out.eq (b := blk w.heap.size #[.int .u8 k, .int .i64 a, .int .i64 b, .int .i64 n] 60 + F) rfl) rfl; have f3 := World.block_lt_of_cell? _ _ f0; simp only at f3)
      | (go_at_call 22; refine (cut_nn (nn_more HN.out _) (K1.out.alloc (.cells #[.slice none 0 0, .slice none 0 0] 38)) _).mono ?_; rintro e w' ⟨rfl, rfl⟩)
      | (go_at_call 26; refine (work_nn (nn_more HN.out _) (K1.out.alloc (.cells #[.slice none 0 0, .slice none 0 0] 38)) _ _).mono ?_; rintro e w' ⟨rfl, rfl⟩)
      | (go_at_call 25; refine (send_nn (nn_more HN.out _) (K1.out.alloc (.cells #[.slice none 0 0, .slice none 0 0] 38)) _ _ _).mono ?_; rintro e w' ⟨rfl, rfl⟩)
      | (go_at_call 16; refine (recv_nn (nn_more HN.out _) (K1.out.alloc (.cells #[.slice none 0 0, .slice none 0 0] 38)) _ _).mono ?_; rintro e w' ⟨rfl, rfl⟩)
      | (go_at_call 47; refine (pieces_nn (nn_more HN.out _) (K1.out.alloc (.cells #[.slice none 0 0, .slice none 0 0] 38))).mono ?_; rintro e w' ⟨rfl, rfl⟩)
      | (go_at_call 18; refine (events_nn (nn_more HN.out _) (K1.out.alloc (.cells #[.slice none 0 0, .slice none 0 0] 38))).mono ?_; rintro e w' ⟨rfl, rfl⟩)
      | (go_at_call 19; refine (total_nn (nn_more HN.out _) (K1.out.alloc (.cells #[.slice none 0 0, .slice none 0 0] 38))).mono ?_; rintro e w' ⟨rfl, rfl⟩)
      | (go_at_call 46; refine (copy_nn (nn_more HN.out _) (K1.out.alloc (.cells #[.slice none 0 0, .slice none 0 0] 38))).mono ?_; rintro e w' ⟨rfl, rfl⟩)
      | (go_at_call 14; refine (alive_any _).mono ?_; rintro e w3 ⟨rfl, k1, k2⟩))
    go_ret
    exact ⟨rfl, k1 _ ((K1.out.alloc (.cells #[.slice none 0 0, .slice none 0 0] 38)).right.right), ((Ext.alloc _ _).trans K2.out).trans ((Ext.alloc _ _).trans k2)⟩
  | true =>
    have HW0 := (HH.out.alloc (.cells #[.int .u8 k, .int .i64 a, .int .i64 b, .int .i64 n] 60)).alloc (.cells #[.slice none 0 0, .slice none 0 0, .slice none 0 0, .slice none 0 0] 84)
    rw [show (w.alloc (.cells #[.int .u8 k, .int .i64 a, .int .i64 b, .int .i64 n] 60)).heap.size = w.heap.size + 1 by simp] at HW0
    have HW := hid HW0
    clear HW0
    have HN := hid (show NoN (pts (w.heap.size + 1) (.cells #[.slice none 0 0, .slice none 0 0, .slice none 0 0, .slice none 0 0] 84) + (pts w.heap.size (.cells #[.int .u8 k, .int .i64 a, .int .i64 b, .int .i64 n] 60) + F)) (.pointer (some ⟨w.heap.size + 1, 0, none⟩)) from .inr ⟨_, rfl, MS.at.less (blk_at (b := w.heap.size + 1) (cs := #[.slice none 0 0, .slice none 0 0, .slice none 0 0, .slice none 0 0]) (e := 84) rfl) _⟩)
    go_enter Try.func11, Try.ntmps11
    go_wp2_with (first
      | (go_at_call 27; refine (start_nn HN.out HW.out _).mono ?_; rintro e w' ⟨rfl, rfl⟩)
      | (go_at_call 28; refine (waiting_nn HN.out HW.out _ _).mono ?_; rintro e w' ⟨rfl, rfl⟩)
      | (go_at_call 17; refine (done_nn HN.out HW.out _).mono ?_; rintro e w' ⟨rfl, rfl⟩)
      | (go_at_call 21; refine (snapshot_nn HN.out HW.out _).mono ?_; rintro e w2 ⟨rfl, k1, k2⟩; have K1 := hid (k1 _ HW.out); have K2 := hid k2; clear k1 k2; have f0 : w2.cell? ⟨w.heap.size, 1, none⟩ = some (.int .i64 a) := Has.at_ (K1.out.eq (b := blk w.heap.size #[.int .u8 k, .int .i64 a, .int .i64 b, .int .i64 n] 60 + (pts (w.heap.size + 1) (.cells #[.slice none 0 0, .slice none 0 0, .slice none 0 0, .slice none 0 0] 84) + F)) (by show pts _ _ + (pts _ _ + F) = pts _ _ + (pts _ _ + F); ac_rfl)) rfl; have f1 : w2.cell? ⟨w.heap.size, 2, none⟩ = some (.int .i64 b) := Has.at_ (K1.out.eq (b := blk w.heap.size #[.int .u8 k, .int .i64 a, .int .i64 b, .int .i64 n] 60 + (pts (w.heap.size + 1) (.cells #[.slice none 0 0, .slice none 0 0, .slice none 0 0, .slice none 0 0] 84) + F)) (by show pts _ _ + (pts _ _ + F) = pts _ _ + (pts _ _ + F); ac_rfl)) rfl; have f2 : w2.cell? ⟨w.heap.size, 3, none⟩ = some (.int .i64 n) := Has.at_ (K1.out.eq (b := blk w.heap.size #[.int .u8 k, .int .i64 a, .int .i64 b, .int .i64 n] 60 + (pts (w.heap.size + 1) (.cells #[.slice none 0 0, .slice none 0 0, .slice none 0 0, .slice none 0 0] 84) + F)) (by show pts _ _ + (pts _ _ + F) = pts _ _ + (pts _ _ + F); ac_rfl)) rfl; have f3 := World.block_lt_of_cell? _ _ f0; simp only at f3)
      | (go_at_call 22; refine (cut_nn (nn_more HN.out _) (K1.out.alloc (.cells #[.slice none 0 0, .slice none 0 0] 38)) _).mono ?_; rintro e w' ⟨rfl, rfl⟩)
      | (go_at_call 26; refine (work_nn (nn_more HN.out _) (K1.out.alloc (.cells #[.slice none 0 0, .slice none 0 0] 38)) _ _).mono ?_; rintro e w' ⟨rfl, rfl⟩)
      | (go_at_call 25; refine (send_nn (nn_more HN.out _) (K1.out.alloc (.cells #[.slice none 0 0, .slice none 0 0] 38)) _ _ _).mono ?_; rintro e w' ⟨rfl, rfl⟩)
      | (go_at_call 16; refine (recv_nn (nn_more HN.out _) (K1.out.alloc (.cells #[.slice none 0 0, .slice none 0 0] 38)) _ _).mono ?_; rintro e w' ⟨rfl, rfl⟩)
      | (go_at_call 47; refine (pieces_nn (nn_more HN.out _) (K1.out.alloc (.cells #[.slice none 0 0, .slice none 0 0] 38))).mono ?_; rintro e w' ⟨rfl, rfl⟩)
      | (go_at_call 18; refine (events_nn (nn_more HN.out _) (K1.out.alloc (.cells #[.slice none 0 0, .slice none 0 0] 38))).mono ?_; rintro e w' ⟨rfl, rfl⟩)
      | (go_at_call 19; refine (total_nn (nn_more HN.out _) (K1.out.alloc (.cells #[.slice none 0 0, .slice none 0 0] 38))).mono ?_; rintro e w' ⟨rfl, rfl⟩)
      | (go_at_call 46; refine (copy_nn (nn_more HN.out _) (K1.out.alloc (.cells #[.slice none 0 0, .slice none 0 0] 38))).mono ?_; rintro e w' ⟨rfl, rfl⟩)
      | (go_at_call 14; refine (alive_any _).mono ?_; rintro e w3 ⟨rfl, k1, k2⟩))
    go_ret
    exact ⟨rfl, k1 _ ((K1.out.alloc (.cells #[.slice none 0 0, .slice none 0 0] 38)).right.right.right), (((Ext.alloc _ _).trans (Ext.alloc _ _)).trans K2.out).trans ((Ext.alloc _ _).trans k2)⟩
end Go.Proofs.Ytnkgfgkgepadhaa

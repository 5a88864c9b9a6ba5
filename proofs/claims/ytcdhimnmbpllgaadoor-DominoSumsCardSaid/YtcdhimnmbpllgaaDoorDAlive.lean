/-
  The walk of alive.
-/
import Derived.Test.YtcdhimnmbpllgaaDoorDK6
import Derived.Test.YtcdhimnmbpllgaaDoorDR4
namespace Go.Proofs.YtcdhimnmbpllgaaDoor
open Go.RowKit
set_option linter.unusedVariables false
set_option linter.unusedSimpArgs false
set_option maxHeartbeats 2000000
set_option maxRecDepth 100000

theorem Kp.has {w w' : World} {M : MS} (h : Kp w w') (hM : Has w M) : Has w' M := h.1 M hM
theorem rowsQ_strs (F : MS) : ∀ (l : List ByteArray), RowsQ (RT.str.rel F) l (l.map Value.string)
  | [] => rfl
  | s :: l => ⟨[.string s], _, rfl, rowsQ_strs F l, rfl⟩
theorem rds_strs (l : List ByteArray) (b : Nat) (hl : l.length ≤ 1000) : RdS (blk b (l.map Value.string).toArray 9) RT.str l (.slice (some ⟨b, 0, none⟩) l.length l.length) :=
  ⟨_, _, l.map Value.string, rfl, Nat.le_refl _, by simp only [maxLen]; omega, fun _ => ⟨b, 0, rfl, fun j u hu => blk_at (by rw [Nat.zero_add]; simpa using hu)⟩, rowsQ_strs _ l⟩
def PA1 : List ByteArray := [⟨#[35, 35, 35]⟩, ⟨#[35, 35, 35]⟩, ⟨#[35, 35, 46]⟩]
def PA2 : List ByteArray := [⟨#[35, 35]⟩, ⟨#[35, 35]⟩]
def PA3 : List ByteArray := [⟨#[35, 46]⟩, ⟨#[46, 35]⟩]
theorem alive1 : cntV PA1 = 4 ∧ cntE PA1 = 0 := ⟨by kernel_rfl, by kernel_rfl⟩
theorem alive2 : kasV PA2 = 2 ∧ cntE PA2 = 0 := ⟨by kernel_rfl, by kernel_rfl⟩
theorem alive3 : isReg PA3 = true := by kernel_rfl
theorem alive3c : (decide (0 < (cellsL PA3).length) && (cellsL PA3).all fun q => (nbrsL PA3 q).isEmpty) = true := by kernel_rfl
theorem alive3n : 0 < (cellsL PA3).length ∧ ∀ q ∈ cellsL PA3, nbrsL PA3 q = [] := by
  have h := alive3c
  rw [Bool.and_eq_true, decide_eq_true_eq, List.all_eq_true] at h
  exact ⟨h.1, fun q hq => List.isEmpty_iff.1 (h.2 q hq)⟩
theorem alive_any {F : MS} {w : World} (hk : FourOk F) (hH : Has w F) :
    Calls Tryd.prog 12 #[] w fun e w' => e = .returned (.bool true) ∧ Kp w w' := by
  have HG1 := hid (fun (W : World) => show Calls Tryd.prog 13 #[.slice (some ⟨W.heap.size, 0, none⟩) 3 3] (W.alloc (.cells #[.string ⟨#[35, 35, 35]⟩, .string ⟨#[35, 35, 35]⟩, .string ⟨#[35, 35, 46]⟩] 9)) fun e w' => e = .returned (.tuple #[.int .i64 4, .int .i64 0]) ∧ Kp W w' from by
    have h := count_any (F := blk W.heap.size (PA1.map Value.string).toArray 9 + MS.all W) ((rds_strs PA1 W.heap.size (by decide)).less _) (by decide) (by decide +kernel) ((Has.all W).alloc _)
    rw [alive1.1, alive1.2] at h
    refine h.mono ?_
    rintro e w' ⟨rfl, k⟩
    exact ⟨rfl, Kp.trans ⟨fun M hM => hM.of_all ((Has.all W).alloc _), Ext.alloc _ _⟩ k⟩)
  have HG2 := hid (fun (W : World) (hW : Has W F) => show Calls Tryd.prog 15 #[.slice (some ⟨W.heap.size, 0, none⟩) 2 2] (W.alloc (.cells #[.string ⟨#[35, 35]⟩, .string ⟨#[35, 35]⟩] 9)) fun e w' => e = .returned (.tuple #[.int .i64 2, .int .i64 0]) ∧ Kp W w' from by
    have h := kas_yes (F := blk W.heap.size (PA2.map Value.string).toArray 9 + F) ((rds_strs PA2 W.heap.size (by decide)).less _) (by decide) (by decide +kernel) (hk.more _) (hW.alloc _) (by kernel_rfl)
    rw [alive2.1, alive2.2] at h
    refine h.mono ?_
    rintro e w' ⟨rfl, k⟩
    exact ⟨rfl, Kp.trans ⟨fun M hM => hM.of_all ((Has.all W).alloc _), Ext.alloc _ _⟩ k⟩)
  have HG3 := hid (fun (W : World) (hW : Has W F) => show Calls Tryd.prog 19 #[.slice (some ⟨W.heap.size, 0, none⟩) 2 2] (W.alloc (.cells #[.string ⟨#[35, 46]⟩, .string ⟨#[46, 35]⟩] 9)) fun e w' => ∃ A' c', e = .returned (.tuple #[.slice A' 1 c', .int .i64 0]) ∧ Kp W w' from by
    have h := refute_none (F := blk W.heap.size (PA3.map Value.string).toArray 9 + F) ((rds_strs PA3 W.heap.size (by decide)).less _) (by decide) (by decide +kernel) (hk.more _) (hW.alloc _) alive3 alive3n.1 alive3n.2
    refine h.mono ?_
    rintro e w' ⟨A', c', rfl, k⟩
    exact ⟨A', c', rfl, Kp.trans ⟨fun M hM => hM.of_all ((Has.all W).alloc _), Ext.alloc _ _⟩ k⟩)
  have HH := hid hH
  clear hk hH
  go_enter Tryd.func12, Tryd.ntmps12
  go_wp2_with (first
    | (go_at_call 19; refine (HG3.out _ (K2.out.has HH.out)).mono ?_; rintro e3 w3 ⟨A', c', rfl, k3⟩; have K3 := hid (K2.out.trans k3); clear k3)
    | (go_at_call 15; refine (HG2.out _ (K1.out.has HH.out)).mono ?_; rintro e2 w2 ⟨rfl, k2⟩; have K2 := hid (K1.out.trans k2); clear k2)
    | (go_at_call 13; refine (HG1.out _).mono ?_; rintro e1 w1 ⟨rfl, k1⟩; have K1 := hid k1; clear k1))
  go_ret
  exact ⟨rfl, K3.out⟩
end Go.Proofs.YtcdhimnmbpllgaaDoor

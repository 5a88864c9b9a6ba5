/-
  The walk of Refute at a region whose cells have no neighbours.
-/
import Derived.Test.YtcdhimnmbpllgaaDoorDR2
import Derived.Test.YtcdhimnmbpllgaaDoorDW9
namespace Go.Proofs.YtcdhimnmbpllgaaDoor
open Go.RowKit Go.MapKept Go.ChangeMaps
set_option linter.unusedVariables false
set_option linter.unusedSimpArgs false
set_option maxHeartbeats 4000000
set_option maxRecDepth 100000

theorem free_any {F : MS} {b6 g : Nat} {w : World} (h6 : F.at b6 0 (.map (some g))) (hH : Has w (pts g (.map #[] 0) + F)) {q : Int × Int} (hq : small q) :
    Calls Tryd.prog 54 #[clV q, .pointer (some ⟨b6, 0, none⟩)] w fun e w' => e = .returned (.bool true) ∧ Kp w w' := by
  obtain ⟨qx, qy⟩ := q
  have HA := hid (show Has (w.alloc (.cells #[.int .i64 qx, .int .i64 qy] 66)) (blk w.heap.size #[.int .i64 qx, .int .i64 qy] 66 + MS.all w) from (Has.all w).alloc _)
  have HE := hid (Ext.alloc w (.cells #[.int .i64 qx, .int .i64 qy] 66))
  have hin := hH.of_all HA.out
  have f0 := h6.c0 hin.right
  have hlk := EntsAre.none.look2 pair66 und88 (zero66 (w.alloc (.cells #[.int .i64 qx, .int .i64 qy] 66))) hin.get hq
  have Hl := hid (show (Instr.lookup 88 (.map (some g)) (.agg #[.int .i64 qx, .int .i64 qy]) true).run Tryd.prog (w.alloc (.cells #[.int .i64 qx, .int .i64 qy] 66)) = .ok (.tuple #[.agg #[.int .i64 0, .int .i64 0], .bool false]) (w.alloc (.cells #[.int .i64 qx, .int .i64 qy] 66)) from hlk)
  have HB := hid (show Has ((w.alloc (.cells #[.int .i64 qx, .int .i64 qy] 66)).alloc (.cells #[.int .i64 0, .int .i64 0] 66)) (blk (w.heap.size + 1) #[.int .i64 0, .int .i64 0] 66 + (blk w.heap.size #[.int .i64 qx, .int .i64 qy] 66 + MS.all w)) by
    have h := HA.out.alloc (.cells #[.int .i64 0, .int .i64 0] 66)
    rw [show (w.alloc (.cells #[.int .i64 qx, .int .i64 qy] 66)).heap.size = w.heap.size + 1 by simp] at h
    exact h)
  show Calls Tryd.prog 54 #[.agg #[.int .i64 qx, .int .i64 qy], .pointer (some ⟨b6, 0, none⟩)] w _
  clear h6 hH hq hin hlk
  go_enter Tryd.func54, Tryd.ntmps54
  go_wp2_with (first
    | (refine wpList_run rfl _ _ (ex_look rfl Hl.out) ?_)
    | (refine wpList_store_whole rfl (.tmp 4) (.tmp 10) 66 rfl 2 size66 (w.heap.size + 1) (.agg #[.int .i64 0, .int .i64 0]) rfl rfl rfl (by simp [Value.cells, Value.oneCell']) #[.int .i64 0, .int .i64 0] 66 _ HB.out rfl ?_; intro w5 j1 j2; have H5 := hid j1; have E5 := hid ((HE.out.trans (Ext.alloc _ _)).trans j2); clear j1 j2))
  go_ret
  exact ⟨rfl, fun M hM => hM.of_all (H5.out.right), E5.out⟩
theorem first_any {F : MS} {b6 g : Nat} {l : List (Int × Int)} {A : Option Addr} {c : Nat} {w : World} (hr : RdS F RT.cl l (.slice A l.length c)) (h0 : 0 < l.length) (hl : l.length ≤ 1000) (h6 : F.at b6 0 (.map (some g))) (hH : Has w (pts g (.map #[] 0) + F)) (hs : ∀ q ∈ l, small q) :
    Calls Tryd.prog 53 #[.slice A l.length c, .func (.func 54) #[] #[.pointer (some ⟨b6, 0, none⟩)]] w fun e w' => e = .returned (.int .i64 0) ∧ Kp w w' := by
  obtain ⟨q, hq⟩ : ∃ q, l[0]? = some q := ⟨_, List.getElem?_eq_getElem h0⟩
  have Hc := hid (free_any h6 hH (hs q (List.mem_of_getElem? hq)))
  obtain ⟨qx, qy⟩ := q
  obtain ⟨bq, oq, hA, e0, e1⟩ := hr.getCl hq
  subst hA
  have f0 := e0.c0 hH.right
  have f1 := e1.c0 hH.right
  simp only [Nat.zero_mul, Nat.add_zero] at f0 f1
  have hnc := hr.cells.2.1
  have h0I : (0 : Int) < l.length := by omega
  have hlI : (l.length : Int) ≤ 1000 := by omega
  have Hc2 := hid (show Calls Tryd.prog 54 #[.agg #[.int .i64 qx, .int .i64 qy], .pointer (some ⟨b6, 0, none⟩)] w fun e w' => e = .returned (.bool true) ∧ Kp w w' from Hc.out)
  clear hr h6 hH hs hq e0 e1 hl Hc
  go_enter Tryd.func53, Tryd.ntmps53
  go_wp2
  go_loopw [8] (fun v wr => v = .int .i64 0 ∧ wr = w) (fun _ _ => 0)
  case atStart => exact ⟨rfl, rfl⟩
  case round =>
    obtain ⟨rfl, rfl⟩ := hrel
    go_wp2_with (go_at_call 54; refine Hc2.out.mono ?_; rintro e5 w5 ⟨rfl, k5⟩; have K5 := hid k5; clear k5)
    go_ret
    exact ⟨rfl, K5.out⟩
end Go.Proofs.YtcdhimnmbpllgaaDoor

/-
  The walk of Refute at a region whose cells have no neighbours: the sort of one cell, the closures.
-/
import Derived.Test.YtcdhimnmbpllgaaDoorDK5
import Derived.Test.YtcdhimnmbpllgaaDoorDMemo
namespace Go.Proofs.YtcdhimnmbpllgaaDoor
open Go.RowKit Go.MapKept Go.ChangeMaps
set_option linter.unusedVariables false
set_option linter.unusedSimpArgs false
set_option maxHeartbeats 1000000
set_option maxRecDepth 100000

theorem row66 : (66 : TypeId) < Tryd.prog.types.size := of_decide_eq_true (by kernel_rfl)
theorem law66 : Go.WideMaps.KeyLaw Tryd.prog 66 := deep_law_laid laidOut (m := 2) (by omega) row66 (by kernel_rfl) (by rw [Tryd.underlying66])
theorem cells66 : Tryd.prog.cellsOf 66 = 2 := by kernel_rfl
theorem types_size66 : ∃ n, Tryd.prog.types.size + 1 = n + 2 := ⟨Tryd.prog.types.size - 1, by have h : 66 < Tryd.prog.types.size := row66; omega⟩
theorem keyT66 : Tryd.prog.keyType 66 = true := by kernel_rfl
theorem key66 {q : Int × Int} (h : small q) : ∃ l, keyOf Tryd.prog 66 (pairV q) = some l := by
  obtain ⟨n, hn⟩ := types_size66
  have w1 : (Lit.int .i64 q.1).wf = true := wf_sm h.1.1 h.1.2
  have w2 : (Lit.int .i64 q.2).wf = true := wf_sm h.2.1 h.2.2
  have hf : (pairV q).formed Tryd.prog 66 = true := by simp [pairV, Value.formed, Tryd.underlying66, cells66]
  have hl : Tryd.prog.keyLits (Tryd.prog.types.size + 1) 66 (pairV q).cells.toList = some [.int .i64 q.1, .int .i64 q.2] := by
    rw [hn]
    simp [Program.keyLits, Tryd.underlying66, cells66, pairV, Value.cells, Tryd.underlying3, cells3, w1, w2, List.range_succ]
  unfold keyOf
  rw [Tryd.underlying66]
  simp only [keyT66, hf, Bool.and_self, if_true, hl, Option.map_some]
  exact ⟨_, rfl⟩
theorem pair66 : KeyPair Tryd.prog 66 := ⟨law66, fun _ h => key66 h⟩
theorem und88 : Tryd.prog.underlying 88 = some (.map 66 66) := by kernel_rfl
theorem und83 : Tryd.prog.underlying 83 = some (.map 66 4) := by kernel_rfl
theorem zero66 (w : World) : (zeroValue 66).run Tryd.prog w = .ok (.agg #[.int .i64 0, .int .i64 0]) w := by kernel_rfl
theorem zero4 (w : World) : (zeroValue 4).run Tryd.prog w = .ok (.bool false) w := by kernel_rfl
theorem size88 : (Tryd.prog.info? 88).map (·.size) = some 1 := by kernel_rfl
theorem size83 : (Tryd.prog.info? 83).map (·.size) = some 1 := by kernel_rfl
theorem size67 : (Tryd.prog.info? 67).map (·.size) = some 1 := by kernel_rfl

theorem len64_one (w : World) : Calls Tryd.prog 118 #[.int .u64 1] w fun e w' => e = .returned (.int .i64 1) ∧ w' = w := by
  go_enter Tryd.func118, Tryd.ntmps118
  go_wp2
  go_ret
  exact ⟨by kernel_rfl, rfl⟩
theorem len_one (w : World) : Calls Tryd.prog 91 #[.int .u64 1] w fun e w' => e = .returned (.int .i64 1) ∧ w' = w := by
  have H := hid (fun w => len64_one w)
  go_enter Tryd.func91, Tryd.ntmps91
  go_wp2_with (go_at_call 118; refine (H.out _).mono ?_; rintro e1 w1 ⟨rfl, h1⟩; rw [h1]; clear h1)
  go_ret
  exact ⟨rfl, rfl⟩
theorem isort_one (v f : Value) (w : World) : Calls Tryd.prog 109 #[v, .int .i64 0, .int .i64 1, f] w fun e w' => e = .returned (.tuple #[]) ∧ w' = w := by
  go_enter Tryd.func109, Tryd.ntmps109
  go_wp2
  go_loopw [8] (fun v wr => v = .int .i64 1 ∧ wr = w) (fun _ _ => 0)
  case atStart => exact ⟨rfl, rfl⟩
  case round =>
    obtain ⟨rfl, hw⟩ := hrel
    go_wp2
    go_end0
    exact ⟨rfl, rfl⟩
theorem pdq_one (v f : Value) (w : World) : Calls Tryd.prog 90 #[v, .int .i64 0, .int .i64 1, .int .i64 1, f] w fun e w' => e = .returned (.tuple #[]) ∧ w' = w := by
  have H := hid (fun w => isort_one v f w)
  go_enter Tryd.func90, Tryd.ntmps90
  go_wp2
  go_loopw [1, 2] (fun v1 v2 wr => v1 = .int .i64 0 ∧ v2 = .int .i64 1 ∧ wr = w) (fun _ _ _ => 0)
  case atStart => exact ⟨rfl, rfl, rfl⟩
  case round =>
    obtain ⟨rfl, rfl, hw⟩ := hrel
    go_wp2_with (go_at_call 109; refine (H.out _).mono ?_; rintro e1 w1 ⟨rfl, h1⟩; rw [h1]; clear h1)
    (try simp only [Exit.inBlock, Exit.then])
    refine bodyPost_ret (results_none rfl _ _ _) rfl ?_
    exact ⟨rfl, rfl⟩
theorem sort_one {A : Option Addr} {c : Nat} (f : Value) (w : World) : Calls Tryd.prog 56 #[.slice A 1 c, f] w fun e w' => e = .returned (.tuple #[]) ∧ w' = w := by
  have H := hid (fun w => pdq_one (.slice A 1 c) f w)
  have H2 := hid (fun w => len_one w)
  go_enter Tryd.func56, Tryd.ntmps56
  go_wp2_with (first
    | (go_at_call 90; refine (H.out _).mono ?_; rintro e1 w1 ⟨rfl, h1⟩; rw [h1]; clear h1)
    | (go_at_call 91; refine (H2.out _).mono ?_; rintro e1 w1 ⟨rfl, h1⟩; rw [h1]; clear h1))
  go_end0
  exact ⟨rfl, rfl⟩
/-- A search from a cell that has no neighbours. -/
theorem try_none {F : MS} {p : List ByteArray} {A : Option Addr} {c b1 : Nat} {v2 v3 v4 : Value} {w : World} (hr : RdS F RT.str p (.slice A p.length c)) (hp : RegOk p) (hf : FourOk F) (hg : F.at b1 0 (.int .i64 (wd p)) ∧ F.at b1 1 (.int .i64 p.length) ∧ F.at b1 2 (.slice A p.length c)) (hH : Has w F) {q : Int × Int} (h1 : -1000 ≤ q.1 ∧ q.1 ≤ 1000) (h2 : -1000 ≤ q.2 ∧ q.2 ≤ 1000) (hn : nbrsL p q = []) :
    Calls Tryd.prog 89 #[clV q, .pointer (some ⟨b1, 0, none⟩), v2, v3, v4] w fun e w' => e = .returned (.bool false) ∧ Kp w w' := by
  obtain ⟨qx, qy⟩ := q
  simp only at h1 h2
  have HA := hid (show Has (w.alloc (.cells #[.int .i64 qx, .int .i64 qy] 66)) (blk w.heap.size #[.int .i64 qx, .int .i64 qy] 66 + MS.all w) from (Has.all w).alloc _)
  have HE := hid (Ext.alloc w (.cells #[.int .i64 qx, .int .i64 qy] 66))
  have Hnb := hid (fun (W : World) (hW : Has W (MS.all w)) => show Calls Tryd.prog 39 #[.agg #[.int .i64 (wd p), .int .i64 p.length, .slice A p.length c], .agg #[.int .i64 qx, .int .i64 qy]] W fun e w' => ∃ v m, e = .returned v ∧ Cls (nbrsL p (qx, qy)) v m ∧ (∀ M, Has W M → Has w' (m + M)) ∧ Ext W w' from nbrs_any (rd_all_str hr hH) hp (hf.all hH) hW (qx, qy) h1 h2)
  rw [hn] at Hnb
  have hin := hH.of_all HA.out
  have g0 := hg.1.c0 hin
  have g1 := hg.2.1.c0 hin
  have g2 := hg.2.2.c0 hin
  show Calls Tryd.prog 89 #[.agg #[.int .i64 qx, .int .i64 qy], .pointer (some ⟨b1, 0, none⟩), v2, v3, v4] w _
  clear hr hp hf hg hH hn hin
  go_enter Tryd.func89, Tryd.ntmps89
  go_wp2_with (go_at_call 39; refine (Hnb.out _ HA.out.right).mono ?_; rintro e1 w1 ⟨v, m, rfl, hc, k1, l1⟩; obtain ⟨AN, cN, rfl, _⟩ := SlR.form hc; have H1 := hid (k1 _ HA.out); have E1 := hid (HE.out.trans l1); clear hc k1 l1)
  go_loopw [15] (fun v wr => v = .int .i64 0 ∧ Has wr (MS.all w) ∧ Ext w wr) (fun _ _ => 0)
  case atStart => exact ⟨rfl, H1.out.right.right, E1.out⟩
  case round =>
    obtain ⟨rfl, hW, hE⟩ := hrel
    have HW := hid hW
    have HE2 := hid hE
    clear hW hE g0 g1 g2
    go_wp2
    go_ret
    exact ⟨rfl, fun M hM => hM.of_all (X := 0) (by rw [MS.zero_add]; exact HW.out), HE2.out⟩
end Go.Proofs.YtcdhimnmbpllgaaDoor

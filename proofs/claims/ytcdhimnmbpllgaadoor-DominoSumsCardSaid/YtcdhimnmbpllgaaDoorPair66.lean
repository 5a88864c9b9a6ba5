/-
  Cells as keys of a map; a value put in.
-/
import Derived.Test.YtcdhimnmbpllgaaDoorTW1
namespace Go.Proofs.YtcdhimnmbpllgaaDoor
open Go.RowKit Go.MapKept Go.ChangeMaps
set_option linter.unusedVariables false
set_option linter.unusedSimpArgs false
set_option maxHeartbeats 4000000
set_option maxRecDepth 100000

theorem row66 : (66 : TypeId) < Tryd.prog.types.size := of_decide_eq_true (by kernel_rfl)
theorem law66 : Go.WideMaps.KeyLaw Tryd.prog 66 := deep_law_laid laidOut (m := 2) (by omega) row66 (by kernel_rfl) (by rw [Tryd.underlying66])
theorem cells66 : Tryd.prog.cellsOf 66 = 2 := by kernel_rfl
theorem keyT66 : Tryd.prog.keyType 66 = true := by kernel_rfl
theorem key66 {q : Int × Int} (h : small q) : ∃ l, keyOf Tryd.prog 66 (pairV q) = some l := by
  obtain ⟨n, hn⟩ := types_size
  have w1 : (Lit.int .i64 q.1).wf = true := wf_sm h.1.1 h.1.2
  have w2 : (Lit.int .i64 q.2).wf = true := wf_sm h.2.1 h.2.2
  have hf : (pairV q).formed Tryd.prog 66 = true := by simp [pairV, Value.formed, Tryd.underlying66, cells66]
  have hl : Tryd.prog.keyLits (Tryd.prog.types.size + 1) 66 (pairV q).cells.toList = some [.int .i64 q.1, .int .i64 q.2] := by
    rw [hn]
    simp [Program.keyLits, Tryd.underlying66, cells66, pairV, Value.cells, Tryd.underlying3, cells3, w1, w2, List.range_succ]
  unfold keyOf
  rw [Tryd.underlying66]
  simp only [keyT66, hf, Bool.and_self, if_true, hl, Option.map_some]
  exact ⟨_, rfl⟩
theorem pair66 : KeyPair Tryd.prog 66 := ⟨law66, fun _ h => key66 h⟩
theorem und83 : Tryd.prog.underlying 83 = some (.map 66 4) := by kernel_rfl
theorem zero4 (w : World) : (zeroValue 4).run Tryd.prog w = .ok (.bool false) w := by kernel_rfl
theorem op_putM {P : Program} {w : World} {o : Oper} {a : Act} {k' : Act → World → Prop} {Q : Exit → Act → World → Prop} {t k e : TypeId} {S : Ents} {es : Array MapEntry} {clock : Nat} (K : KeyPair P k) (ht : P.underlying t = some (.map k e)) (x kk y : Operand) (ho : o.op = .mapUpdate t x kk y) (g : Nat) (hx : a.eval x = .map (some g)) (q : Int × Int) (hk : a.eval kk = pairV q) (v : Value) (hy : a.eval y = v)
    (hS : EntsAre S es clock) (hq : small q) (F : MS) (hH : Has w (pts g (.map es clock) + F))
    (h : ∀ es' clock' w', EntsAre (ptM S q v) es' clock' → Has w' (pts g (.map es' clock') + F) → Ext w w' → k' (a.put o.dst undef) w') : opWp P o a w k' Q := by
  obtain ⟨es', clock', h1, h2⟩ := hS.put K ht hH.get hq v
  refine op_of ?_
  unfold Oper.wp
  rw [ex_update ho (by rw [hx, hk, hy]; exact h1)]
  exact h es' clock' _ h2 hH.setMap (Ext.setMap _ _ _)
end Go.Proofs.YtcdhimnmbpllgaaDoor

/-
  What a counter knows: a map of states, every entry right.
-/
import Derived.Test.YtcdhimnmbpllgaaDoorDMap
import Derived.Test.YtcdhimnmbpllgaaDoorDRel
import Derived.Test.YtcdhimnmbpllgaaDoorDW2
namespace Go.Proofs.YtcdhimnmbpllgaaDoor
open Go.RowKit Go.MapKept Go.ChangeMaps
set_option linter.unusedVariables false
set_option linter.unusedSimpArgs false
set_option maxRecDepth 100000

theorem laidOut : laidOutB Tryd.prog = true := by kernel_rfl
theorem row60 : (60 : TypeId) < Tryd.prog.types.size := of_decide_eq_true (by kernel_rfl)
theorem law60 : Go.WideMaps.KeyLaw Tryd.prog 60 := deep_law_laid laidOut (m := 2) (by omega) row60 (by kernel_rfl) (by rw [Tryd.underlying60])
theorem cells60 : Tryd.prog.cellsOf 60 = 2 := by kernel_rfl
theorem cells3 : Tryd.prog.cellsOf 3 = 1 := by kernel_rfl
theorem types_size : ∃ n, Tryd.prog.types.size + 1 = n + 2 := ⟨Tryd.prog.types.size - 1, by have h : 60 < Tryd.prog.types.size := row60; omega⟩
theorem keyT60 : Tryd.prog.keyType 60 = true := by kernel_rfl
theorem key60 {q : Int × Int} (h : small q) : ∃ l, keyOf Tryd.prog 60 (pairV q) = some l := by
  obtain ⟨n, hn⟩ := types_size
  have w1 : (Lit.int .i64 q.1).wf = true := wf_sm h.1.1 h.1.2
  have w2 : (Lit.int .i64 q.2).wf = true := wf_sm h.2.1 h.2.2
  have hf : (pairV q).formed Tryd.prog 60 = true := by simp [pairV, Value.formed, Tryd.underlying60, cells60]
  have hl : Tryd.prog.keyLits (Tryd.prog.types.size + 1) 60 (pairV q).cells.toList = some [.int .i64 q.1, .int .i64 q.2] := by
    rw [hn]
    simp [Program.keyLits, Tryd.underlying60, cells60, pairV, Value.cells, Tryd.underlying3, cells3, w1, w2, List.range_succ]
  unfold keyOf
  rw [Tryd.underlying60]
  simp only [keyT60, hf, Bool.and_self, if_true, hl, Option.map_some]
  exact ⟨_, rfl⟩
theorem pair60 : KeyPair Tryd.prog 60 := ⟨law60, fun _ h => key60 h⟩
theorem und54 : Tryd.prog.underlying 54 = some (.map 60 3) := by kernel_rfl
theorem zero3 (w : World) : (zeroValue 3).run Tryd.prog w = .ok (.int .i64 0) w := by kernel_rfl
/-- How many ways there are from a state on. -/
def waysV (p : List ByteArray) (at' cov : Nat) : Nat := cntF (wd p) (hsR p) (wd p * p.length - at') at' cov
/-- Every entry is right. -/
def MemoOk (p : List ByteArray) (S : Ents) : Prop := ∀ x ∈ S, ∃ at' cov : Nat, x.1 = ((at' : Int), (cov : Int)) ∧ at' ≤ wd p * p.length ∧ cov < 2 ^ wd p ∧ x.2 = .int .i64 (waysV p at' cov)
theorem MemoOk.nil (p : List ByteArray) : MemoOk p [] := by intro x hx; cases hx
theorem MemoOk.get {p : List ByteArray} {S : Ents} (h : MemoOk p S) {at' cov : Nat} {v : Value} (hl : lkM S ((at' : Int), (cov : Int)) = some v) : v = .int .i64 (waysV p at' cov) := by
  obtain ⟨a, c, h1, _, _, h2⟩ := h _ (lkM_mem hl)
  simp only [Prod.mk.injEq] at h1
  have e1 : at' = a := by omega
  have e2 : cov = c := by omega
  rw [e1, e2]
  exact h2
theorem MemoOk.put {p : List ByteArray} {S : Ents} (h : MemoOk p S) {at' cov : Nat} (ha : at' ≤ wd p * p.length) (hc : cov < 2 ^ wd p) : MemoOk p (ptM S ((at' : Int), (cov : Int)) (.int .i64 (waysV p at' cov))) := by
  have key : ∀ (S : Ents), MemoOk p S → MemoOk p (ptM S ((at' : Int), (cov : Int)) (.int .i64 (waysV p at' cov))) := by
    intro S
    induction S with
    | nil => intro _ x hx; rw [List.mem_singleton.1 hx]; exact ⟨at', cov, rfl, ha, hc, rfl⟩
    | cons y S ih =>
      obtain ⟨a, u⟩ := y
      intro hs x hx
      unfold ptM at hx
      split at hx
      · rename_i he
        rcases List.mem_cons.1 hx with rfl | hx
        · exact ⟨at', cov, he, ha, hc, rfl⟩
        · exact hs x (by simp [hx])
      · rcases List.mem_cons.1 hx with rfl | hx
        · exact hs (a, u) (by simp)
        · exact ih (fun z hz => hs z (by simp [hz])) x hx
  exact key S h
end Go.Proofs.YtcdhimnmbpllgaaDoor

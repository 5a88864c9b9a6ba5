/-
  A set of ints in memory: a map whose values are true.
-/
import Derived.Test.YteibbnmlmbhkpaaDoorPBase
import Derived.Test.YteibbnmlmbhkpaaDoorRows
import Derived.Maps.Keyed
import Derived.Maps.RangeRun
namespace Go.Proofs.YteibbnmlmbhkpaaDoor
open Go.RowKit Go.MapKept Go.ChangeMaps Go.Maps
set_option linter.unusedVariables false
set_option linter.unusedSimpArgs false
set_option maxRecDepth 100000

theorem law3 : Keyed Tryd.prog 3 := int_keyed Tryd.underlying3
theorem und110 : Tryd.prog.underlying 110 = some (.map 3 4) := by kernel_rfl
theorem zero4 (w : World) : (zeroValue 4).run Tryd.prog w = .ok (.bool false) w := by kernel_rfl
def zOk (a : Int) : Prop := -1000 ≤ a ∧ a ≤ 1000
theorem wf_z {n : Int} (h : zOk n) : (Lit.int .i64 n).wf = true := by
  have a : (IntKind.i64.min) = -9223372036854775808 := by decide
  have b : (IntKind.i64.max) = 9223372036854775807 := by decide
  unfold zOk at h
  simp only [Lit.wf, a, b, Bool.and_eq_true, decide_eq_true_eq]
  omega
theorem key_z {a : Int} (h : zOk a) : keyOf Tryd.prog 3 (.int .i64 a) = some (.int .i64 a) := keyOf_int_mk Tryd.underlying3 (wf_z h)
/-- The set at a map's block. -/
def SetZ (S : List Int) (es : Array MapEntry) (clock : Nat) : Prop := Stamped es clock ∧ es.toList.map (·.key) = S.map (Value.int .i64) ∧ (∀ x ∈ es.toList, x.val = .bool true) ∧ ∀ q ∈ S, zOk q
theorem SetZ.keys {S : List Int} {es : Array MapEntry} {clock : Nat} (h : SetZ S es clock) : ∀ x ∈ es.toList, ∃ l, keyOf Tryd.prog 3 x.key = some l := fun x hx => by
  have h1 : x.key ∈ S.map (Value.int .i64) := by rw [← h.2.1]; exact List.mem_map_of_mem hx
  obtain ⟨q, hq, he⟩ := List.mem_map.1 h1
  rw [← he]
  exact ⟨_, key_z (h.2.2.2 q hq)⟩
theorem SetZ.size {S : List Int} {es : Array MapEntry} {clock : Nat} (h : SetZ S es clock) : es.size = S.length := by
  have := congrArg List.length h.2.1
  simpa using this
theorem SetZ.none : SetZ [] #[] 0 := ⟨⟨by simp, by simp, by simp⟩, rfl, by simp, by simp⟩
theorem SetZ.look {S : List Int} {es : Array MapEntry} {clock g : Nat} {w : World} (h : SetZ S es clock) (hb : w.heap[g]? = some (.map es clock)) {q : Int} (hq : zOk q) :
    (Instr.lookup 110 (.map (some g)) (.int .i64 q) false).run Tryd.prog w = .ok (.bool (decide (q ∈ S))) w := by
  rcases law3.find w (key_z hq) es.toList h.keys with ⟨h1, h2⟩ | ⟨j, e0, h1, h2, h3⟩
  · have : ¬ q ∈ S := fun hm => by
      have h3 : Value.int .i64 q ∈ es.toList.map (·.key) := by rw [h.2.1]; exact List.mem_map_of_mem hm
      obtain ⟨x, hx, he⟩ := List.mem_map.1 h3
      exact h2 x hx he
    rw [decide_eq_false this]
    simp [Instr.lookup, run_underlying und110, MapKept.run_getObj_map hb, law3.check w _ (key_z hq), h1, zero4, Result.andThen]
  · have hm := List.mem_of_getElem? h2
    have h4 : Value.int .i64 q ∈ S.map (Value.int .i64) := by rw [← h.2.1, ← h3]; exact List.mem_map_of_mem hm
    obtain ⟨p, hp, he⟩ := List.mem_map.1 h4
    injection he with _ he
    subst he
    rw [decide_eq_true hp]
    have hv := h.2.2.1 e0 hm
    simp [Instr.lookup, run_underlying und110, MapKept.run_getObj_map hb, law3.check w _ (key_z hq), h1, hv, Result.andThen]
theorem SetZ.put {S : List Int} {es : Array MapEntry} {clock g : Nat} {w : World} (h : SetZ S es clock) (hb : w.heap[g]? = some (.map es clock)) {q : Int} (hq : zOk q) :
    ∃ S' es' clock', (Instr.mapUpdate 110 (.map (some g)) (.int .i64 q) (.bool true)).run Tryd.prog w = .ok () (setBlock w g (.map es' clock')) ∧ SetZ S' es' clock' ∧ (∀ a, a ∈ S' ↔ a ∈ S ∨ a = q) ∧ S'.length ≤ S.length + 1 := by
  rcases law3.find w (key_z hq) es.toList h.keys with ⟨h1, h2⟩ | ⟨j, e0, h1, h2, h3⟩
  · refine ⟨S ++ [q], es.push ⟨.int .i64 q, .bool true, clock⟩, clock + 1, ?_, ?_, fun a => by simp, by simp⟩
    · simp [Instr.mapUpdate, run_underlying und110, MapKept.run_getObj_map hb, law3.check w false (key_z hq), h1, MapKept.run_setObj_map _ hb, Result.andThen, setBlock]
    · obtain ⟨⟨s1, s2, s3⟩, g2, g3, g4⟩ := h
      refine ⟨⟨?_, ?_, ?_⟩, ?_, ?_, ?_⟩
      · intro x hx
        simp only [Array.toList_push, List.mem_append, List.mem_singleton] at hx
        rcases hx with hx | rfl
        · have := s1 x hx; omega
        · simp
      · simp only [Array.toList_push, List.map_append, List.map_cons, List.map_nil]
        refine List.nodup_append.2 ⟨s2, by simp, fun a ha c hc e1 => ?_⟩
        simp only [List.mem_singleton] at hc
        obtain ⟨x, hx, rfl⟩ := List.mem_map.1 ha
        have := s1 x hx
        omega
      · simp only [Array.toList_push, List.map_append, List.map_cons, List.map_nil]
        refine List.nodup_append.2 ⟨s3, by simp, fun a ha c hc e1 => ?_⟩
        simp only [List.mem_singleton] at hc
        obtain ⟨x, hx, rfl⟩ := List.mem_map.1 ha
        exact h2 x hx (by rw [e1, hc])
      · simp [g2]
      · intro x hx
        simp only [Array.toList_push, List.mem_append, List.mem_singleton] at hx
        rcases hx with hx | rfl
        · exact g3 x hx
        · rfl
      · intro p hp
        rcases List.mem_append.1 hp with hp | hp
        · exact g4 p hp
        · rw [List.mem_singleton.1 hp]; exact hq
  · have hm := List.mem_of_getElem? h2
    have hv := h.2.2.1 e0 hm
    have h4 : Value.int .i64 q ∈ S.map (Value.int .i64) := by rw [← h.2.1, ← h3]; exact List.mem_map_of_mem hm
    obtain ⟨p, hp, he⟩ := List.mem_map.1 h4
    injection he with _ he
    subst he
    refine ⟨S, es, clock, ?_, h, fun a => ⟨fun h => .inl h, fun h => h.elim id fun h => h ▸ hp⟩, by omega⟩
    have hj : es[j]? = some e0 := by simpa using h2
    have hsame : es.modify j (fun e => { e with key := .int .i64 p, val := .bool true }) = es := by
      apply Array.ext'
      rw [Array.toList_modify, modify_eq_set _ _ _ _ h2]
      have : ({ e0 with key := .int .i64 p, val := .bool true } : MapEntry) = e0 := by rw [← h3, ← hv]
      rw [this]
      obtain ⟨hl, rfl⟩ := List.getElem?_eq_some_iff.1 h2
      exact List.set_getElem_self hl
    simp [Instr.mapUpdate, run_underlying und110, MapKept.run_getObj_map hb, law3.check w false (key_z hq), h1, hj, h3, law3.stays w (key_z hq), MapKept.run_setObj_map _ hb, Result.andThen, setBlock]
    rw [hsame]
/-- A map's block turned. -/
theorem Has.setMap {w : World} {g : Nat} {o o' : Obj} {F : MS} (h : Has w (pts g o + F)) : Has (setBlock w g o') (pts g o' + F) :=
  h.upd (fun i hi => by simp [setBlock, Ne.symm hi]) (by have := h.lt; simp [setBlock, this]) (by simp [setBlock])
theorem Ext.setMap (w : World) (g : Nat) (o : Obj) : Ext w (setBlock w g o) := ⟨rfl, rfl, rfl, by simp [setBlock]⟩
section
variable {P : Program} {w : World} {o : Oper} {ops : Array Oper} {rest : List Oper} {a : Act} {Q : Exit → Act → World → Prop}
theorem wpList_skip (hgd : o.guard = none) (w' : World) (hrun : (execOp a.eval o).run P w = .ok .skip w') (h : wpList P ops Q rest (a.put o.dst undef) w') : wpList P ops Q (o :: rest) a w :=
  wpList_plain hgd fun _ hK => by
    unfold Oper.wp
    rw [hrun]
    exact hK _ _ h
end
theorem ex_update {a : Act} {o : Oper} {x k y : Operand} {W W' : World} (ho : o.op = .mapUpdate 110 x k y) (h : (Instr.mapUpdate 110 (a.eval x) (a.eval k) (a.eval y)).run Tryd.prog W = .ok () W') : (execOp a.eval o).run Tryd.prog W = .ok .skip W' := by
  simp only [execOp, ho, Sem.run_bind, h, Result.andThen, Sem.run_pure]
theorem ex_makeMap {P : Program} {a : Act} {o : Oper} {t : TypeId} {W : World} (ho : o.op = .makeMap t none) : (execOp a.eval o).run P W = .ok (.value (.map (some W.heap.size))) (W.alloc (.map #[] 0)) := by
  simp [execOp, ho, Instr.makeMap, Result.andThen]
/-- A number that is put into the set. -/
theorem wpList_putZ {w : World} {o : Oper} {ops : Array Oper} {rest : List Oper} {a : Act} {Q : Exit → Act → World → Prop} (hgd : o.guard = none) (x k y : Operand) (ho : o.op = .mapUpdate 110 x k y) (g : Nat) (hx : a.eval x = .map (some g)) (q : Int) (hk : a.eval k = .int .i64 q) (hy : a.eval y = .bool true)
    {S : List Int} {es : Array MapEntry} {clock : Nat} (hS : SetZ S es clock) (hq : zOk q) (F : MS) (hH : Has w (pts g (.map es clock) + F))
    (h : ∀ S' es' clock' w', SetZ S' es' clock' → (∀ b, b ∈ S' ↔ b ∈ S ∨ b = q) → S'.length ≤ S.length + 1 → Has w' (pts g (.map es' clock') + F) → Ext w w' → wpList Tryd.prog ops Q rest (a.put o.dst undef) w') : wpList Tryd.prog ops Q (o :: rest) a w := by
  obtain ⟨S', es', clock', h1, h2, h3, h4⟩ := hS.put hH.get hq
  exact wpList_skip hgd _ (ex_update ho (by rw [hx, hk, hy]; exact h1)) (h S' es' clock' _ h2 h3 h4 hH.setMap (Ext.setMap _ _ _))
theorem len_mapZ {W : World} {g : Nat} {es : Array MapEntry} {clock : Nat} (h : W.heap[g]? = some (.map es clock)) (hs : es.size ≤ 1000000) : Sem.run Tryd.prog (Builtin.len_ #[110] 3 #[.map (some g)]) W = .ok (.int .i64 es.size) W := by
  have h1 : (es.size : Int) ≤ 9223372036854775807 := by omega
  simp [Builtin.len_, MapKept.run_getObj_map h, run_underlying und110, Result.andThen, h1, goInt]
end Go.Proofs.YteibbnmlmbhkpaaDoor

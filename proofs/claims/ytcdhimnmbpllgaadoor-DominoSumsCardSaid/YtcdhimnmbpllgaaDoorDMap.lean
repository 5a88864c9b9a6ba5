/-
  A map in memory whose keys are pairs of small numbers: looked up, an entry put. Plain over any program.
-/
import Derived.Test.YtcdhimnmbpllgaaDoorRows1
import Derived.DeepKeys4
import Derived.WideKeyEntry
import Derived.Maps.Keyed
namespace Go.Proofs.YtcdhimnmbpllgaaDoor
open Go.RowKit Go.MapKept Go.ChangeMaps
open Go.WideMaps (KeyLaw)
set_option linter.unusedVariables false
set_option linter.unusedSimpArgs false

def pairV (q : Int × Int) : Value := .agg #[.int .i64 q.1, .int .i64 q.2]
theorem pairV_inj {a b : Int × Int} (h : pairV a = pairV b) : a = b := by
  simp only [pairV, Value.agg.injEq, Array.mk.injEq, List.cons.injEq, Value.int.injEq, true_and, and_true] at h
  exact Prod.ext h.1 h.2
def small (q : Int × Int) : Prop := (-1000 ≤ q.1 ∧ q.1 ≤ 1000) ∧ -1000 ≤ q.2 ∧ q.2 ≤ 1000
theorem wf_sm {n : Int} (h0 : -1000 ≤ n) (h1 : n ≤ 1000) : (Lit.int .i64 n).wf = true := by
  have a : (IntKind.i64.min) = -9223372036854775808 := by decide
  have b : (IntKind.i64.max) = 9223372036854775807 := by decide
  simp only [Lit.wf, a, b, Bool.and_eq_true, decide_eq_true_eq]
  omega
/-- What is known of a type of keys. -/
structure KeyPair (P : Program) (k : TypeId) : Prop where
  law : KeyLaw P k
  key : ∀ q, small q → ∃ l, keyOf P k (pairV q) = some l
/-- What a map holds: its entries in the order in which they came. -/
abbrev Ents := List ((Int × Int) × Value)
def lkM : Ents → Int × Int → Option Value
  | [], _ => none
  | (q', v) :: s, q => if q' = q then some v else lkM s q
def ptM : Ents → Int × Int → Value → Ents
  | [], q, v => [(q, v)]
  | (q', v') :: s, q, v => if q' = q then (q', v) :: s else (q', v') :: ptM s q v
theorem lkM_ptM (S : Ents) (q q' : Int × Int) (v : Value) : lkM (ptM S q v) q' = if q = q' then some v else lkM S q' := by
  induction S with
  | nil => unfold ptM lkM; rfl
  | cons x S ih =>
    obtain ⟨a, u⟩ := x
    unfold ptM
    by_cases h : a = q
    · rw [if_pos h]
      unfold lkM
      subst h
      by_cases h2 : a = q'
      · rw [if_pos h2, if_pos h2]
      · rw [if_neg h2, if_neg h2, if_neg h2]
    · rw [if_neg h]
      unfold lkM
      rw [ih]
      by_cases h2 : a = q'
      · rw [if_pos h2, if_pos h2, if_neg (fun e => h (h2.trans e.symm))]
      · rw [if_neg h2, if_neg h2]
theorem ptM_new {S : Ents} {q : Int × Int} (h : lkM S q = none) (v : Value) : ptM S q v = S ++ [(q, v)] := by
  induction S with
  | nil => rfl
  | cons x S ih =>
    obtain ⟨a, u⟩ := x
    unfold lkM at h
    unfold ptM
    split at h
    · cases h
    · rename_i hne
      rw [if_neg hne, ih h]
      rfl
theorem lkM_mem {S : Ents} {q : Int × Int} {v : Value} (h : lkM S q = some v) : (q, v) ∈ S := by
  induction S with
  | nil => cases h
  | cons x S ih =>
    obtain ⟨a, u⟩ := x
    unfold lkM at h
    split at h
    · rename_i he
      injection h with h
      rw [he, h]
      exact List.mem_cons_self ..
    · exact List.mem_cons_of_mem _ (ih h)
/-- The entries as they lie. -/
def EntsAre (S : Ents) (es : Array MapEntry) (clock : Nat) : Prop := Stamped es clock ∧ es.toList.map (fun e => (e.key, e.val)) = S.map (fun x => (pairV x.1, x.2)) ∧ ∀ x ∈ S, small x.1
theorem EntsAre.none : EntsAre [] #[] 0 := ⟨⟨by simp, by simp, by simp⟩, rfl, by simp⟩
theorem EntsAre.size {S : Ents} {es : Array MapEntry} {clock : Nat} (h : EntsAre S es clock) : es.size = S.length := by
  have := congrArg List.length h.2.1
  simpa using this
section
variable {P : Program} {w : World} {t k e : TypeId} {g : Nat} {es : Array MapEntry} {clock : Nat} {S : Ents}
theorem EntsAre.keys (K : KeyPair P k) (h : EntsAre S es clock) : ∀ x ∈ es.toList, ∃ l, keyOf P k x.key = some l := fun x hx => by
  have h1 : (x.key, x.val) ∈ es.toList.map (fun e => (e.key, e.val)) := List.mem_map.2 ⟨x, hx, rfl⟩
  rw [h.2.1] at h1
  obtain ⟨y, hy, he⟩ := List.mem_map.1 h1
  injection he with he1 he2
  rw [← he1]
  exact K.key _ (h.2.2 y hy)
/-- No entry has the key. -/
theorem lk_none : ∀ {S : Ents} {l : List MapEntry} {q : Int × Int}, l.map (fun e => (e.key, e.val)) = S.map (fun x => (pairV x.1, x.2)) → (∀ x ∈ l, x.key ≠ pairV q) → lkM S q = none
  | [], _, _, _, _ => rfl
  | (a, u) :: S, [], _, h, _ => by simp at h
  | (a, u) :: S, x :: l, q, h, hno => by
    simp only [List.map_cons, List.cons.injEq, Prod.mk.injEq] at h
    unfold lkM
    rw [if_neg (fun e => hno x (by simp) (by rw [h.1.1, e])), lk_none h.2 (fun y hy => hno y (by simp [hy]))]
theorem lk_some : ∀ {S : Ents} {l : List MapEntry} {q : Int × Int} {j : Nat} {x : MapEntry}, l.map (fun e => (e.key, e.val)) = S.map (fun x => (pairV x.1, x.2)) → (l.map (·.key)).Nodup → l[j]? = some x → x.key = pairV q →
    lkM S q = some x.val ∧ ∀ v b, (l.set j ⟨pairV q, v, b⟩).map (fun e => (e.key, e.val)) = (ptM S q v).map (fun x => (pairV x.1, x.2))
  | [], l, _, j, x, h, _, hj, _ => by
    simp only [List.map_nil, List.map_eq_nil_iff] at h
    subst h
    simp at hj
  | (a, u) :: S, [], _, _, _, h, _, _, _ => by simp at h
  | (a, u) :: S, y :: l, q, 0, x, h, hnd, hj, hk => by
    simp only [List.getElem?_cons_zero, Option.some.injEq] at hj
    subst hj
    simp only [List.map_cons, List.cons.injEq, Prod.mk.injEq] at h
    have haq : a = q := pairV_inj (by rw [← h.1.1, hk])
    unfold lkM ptM
    simp only [if_pos haq]
    refine ⟨by rw [h.1.2], fun v b => ?_⟩
    simp only [List.set_cons_zero, List.map_cons, h.2, haq]
  | (a, u) :: S, y :: l, q, j + 1, x, h, hnd, hj, hk => by
    simp only [List.getElem?_cons_succ] at hj
    simp only [List.map_cons, List.nodup_cons] at hnd
    simp only [List.map_cons, List.cons.injEq, Prod.mk.injEq] at h
    have hne : ¬ a = q := fun e => hnd.1 (List.mem_map.2 ⟨x, List.mem_of_getElem? hj, by rw [hk, h.1.1, e]⟩)
    obtain ⟨h1, h2⟩ := lk_some h.2 hnd.2 hj hk
    unfold lkM ptM
    simp only [if_neg hne]
    refine ⟨h1, fun v b => ?_⟩
    simp only [List.set_cons_succ, List.map_cons, h2 v b, h.1.1, h.1.2]
/-- Looked up, with the answer whether it is there. -/
theorem EntsAre.look2 (K : KeyPair P k) (ht : P.underlying t = some (.map k e)) {z : Value} (hz : (zeroValue e).run P w = .ok z w) (h : EntsAre S es clock) (hb : w.heap[g]? = some (.map es clock)) {q : Int × Int} (hq : small q) :
    (Instr.lookup t (.map (some g)) (pairV q) true).run P w = .ok (.tuple #[(lkM S q).getD z, .bool (lkM S q).isSome]) w := by
  obtain ⟨l, hl⟩ := K.key q hq
  rcases K.law.find w hl es.toList (h.keys K) with ⟨h1, h2⟩ | ⟨j, e0, h1, h2, h3⟩
  · rw [lk_none h.2.1 h2]
    simp [Instr.lookup, run_underlying ht, MapKept.run_getObj_map hb, K.law.check w _ hl, h1, hz, Result.andThen]
  · rw [(lk_some h.2.1 h.1.2.2 h2 h3).1]
    simp [Instr.lookup, run_underlying ht, MapKept.run_getObj_map hb, K.law.check w _ hl, h1, Result.andThen]
theorem EntsAre.look1 (K : KeyPair P k) (ht : P.underlying t = some (.map k e)) {z : Value} (hz : (zeroValue e).run P w = .ok z w) (h : EntsAre S es clock) (hb : w.heap[g]? = some (.map es clock)) {q : Int × Int} (hq : small q) :
    (Instr.lookup t (.map (some g)) (pairV q) false).run P w = .ok ((lkM S q).getD z) w := by
  obtain ⟨l, hl⟩ := K.key q hq
  rcases K.law.find w hl es.toList (h.keys K) with ⟨h1, h2⟩ | ⟨j, e0, h1, h2, h3⟩
  · rw [lk_none h.2.1 h2]
    simp [Instr.lookup, run_underlying ht, MapKept.run_getObj_map hb, K.law.check w _ hl, h1, hz, Result.andThen]
  · rw [(lk_some h.2.1 h.1.2.2 h2 h3).1]
    simp [Instr.lookup, run_underlying ht, MapKept.run_getObj_map hb, K.law.check w _ hl, h1, Result.andThen]
/-- An entry put. -/
theorem EntsAre.put (K : KeyPair P k) (ht : P.underlying t = some (.map k e)) (h : EntsAre S es clock) (hb : w.heap[g]? = some (.map es clock)) {q : Int × Int} (hq : small q) (v : Value) :
    ∃ es' clock', (Instr.mapUpdate t (.map (some g)) (pairV q) v).run P w = .ok () (setBlock w g (.map es' clock')) ∧ EntsAre (ptM S q v) es' clock' := by
  obtain ⟨l, hl⟩ := K.key q hq
  rcases K.law.find w hl es.toList (h.keys K) with ⟨h1, h2⟩ | ⟨j, e0, h1, h2, h3⟩
  · refine ⟨es.push ⟨pairV q, v, clock⟩, clock + 1, ?_, ?_⟩
    · simp [Instr.mapUpdate, run_underlying ht, MapKept.run_getObj_map hb, K.law.check w false hl, h1, MapKept.run_setObj_map _ hb, Result.andThen, setBlock]
    · have hn := lk_none h.2.1 h2
      obtain ⟨⟨s1, s2, s3⟩, g2, g3⟩ := h
      refine ⟨⟨?_, ?_, ?_⟩, ?_, ?_⟩
      · intro x hx
        simp only [Array.toList_push, List.mem_append, List.mem_singleton] at hx
        rcases hx with hx | rfl
        · have := s1 x hx; omega
        · simp
      · simp only [Array.toList_push, List.map_append, List.map_cons, List.map_nil]
        refine List.nodup_append.2 ⟨s2, by simp, fun a ha c hc e1 => ?_⟩
        simp only [List.mem_singleton] at hc
        obtain ⟨x, hx, rfl⟩ := List.mem_map.1 ha
        have := s1 x hx
        omega
      · simp only [Array.toList_push, List.map_append, List.map_cons, List.map_nil]
        refine List.nodup_append.2 ⟨s3, by simp, fun a ha c hc e1 => ?_⟩
        simp only [List.mem_singleton] at hc
        obtain ⟨x, hx, rfl⟩ := List.mem_map.1 ha
        exact h2 x hx (by rw [e1, hc])
      · rw [ptM_new hn]
        simp [g2]
      · rw [ptM_new hn]
        intro x hx
        rcases List.mem_append.1 hx with hx | hx
        · exact g3 x hx
        · rw [List.mem_singleton.1 hx]; exact hq
  · have hj : es[j]? = some e0 := by simpa using h2
    have hm : (es.modify j (fun e => { e with key := pairV q, val := v })).toList = es.toList.set j ⟨pairV q, v, e0.born⟩ := by
      rw [Array.toList_modify, modify_eq_set _ _ _ _ h2]
    have hjl := (List.getElem?_eq_some_iff.1 h2)
    refine ⟨es.modify j (fun e => { e with key := pairV q, val := v }), clock, ?_, ?_⟩
    · simp [Instr.mapUpdate, run_underlying ht, MapKept.run_getObj_map hb, K.law.check w false hl, h1, hj, h3, K.law.stays w hl, MapKept.run_setObj_map _ hb, Result.andThen, setBlock]
    · obtain ⟨⟨s1, s2, s3⟩, g2, g3⟩ := h
      have hb1 : (es.toList.set j ⟨pairV q, v, e0.born⟩).map (·.born) = es.toList.map (·.born) := by
        rw [List.map_set]
        have : (es.toList.map (·.born))[j]? = some e0.born := by rw [List.getElem?_map, h2]; rfl
        obtain ⟨hl, hh⟩ := List.getElem?_eq_some_iff.1 this
        simp only
        rw [← hh]
        exact List.set_getElem_self hl
      have hb2 : (es.toList.set j ⟨pairV q, v, e0.born⟩).map (·.key) = es.toList.map (·.key) := by
        rw [List.map_set]
        have : (es.toList.map (·.key))[j]? = some (pairV q) := by rw [List.getElem?_map, h2]; simp [h3]
        obtain ⟨hl, hh⟩ := List.getElem?_eq_some_iff.1 this
        simp only
        rw [← hh]
        exact List.set_getElem_self hl
      refine ⟨⟨?_, by rw [hm, hb1]; exact s2, by rw [hm, hb2]; exact s3⟩, by rw [hm]; exact (lk_some g2 s3 h2 h3).2 v e0.born, ?_⟩
      · rw [hm]
        intro x hx
        rcases List.mem_or_eq_of_mem_set hx with hx | rfl
        · exact s1 x hx
        · exact s1 e0 (List.mem_of_getElem? h2)
      · have : ∀ (S : Ents), (∀ x ∈ S, small x.1) → ∀ x ∈ ptM S q v, small x.1 := by
          intro S
          induction S with
          | nil => intro _ x hx; rw [List.mem_singleton.1 hx]; exact hq
          | cons y S ih =>
            obtain ⟨a, u⟩ := y
            intro hs x hx
            unfold ptM at hx
            split at hx
            · rcases List.mem_cons.1 hx with rfl | hx
              · exact hs (a, u) (by simp)
              · exact hs x (by simp [hx])
            · rcases List.mem_cons.1 hx with rfl | hx
              · exact hs (a, u) (by simp)
              · exact ih (fun z hz => hs z (by simp [hz])) x hx
        exact this S g3
theorem len_ents (ht : P.underlying t = some (.map k e)) (h : EntsAre S es clock) (hb : w.heap[g]? = some (.map es clock)) (hs : S.length ≤ 1000000) : Sem.run P (Builtin.len_ #[t] 3 #[.map (some g)]) w = .ok (.int .i64 S.length) w := by
  have h0 := h.size
  have h1 : (es.size : Int) ≤ 9223372036854775807 := by omega
  simp [Builtin.len_, MapKept.run_getObj_map hb, run_underlying ht, Result.andThen, h1, goInt, h0]
end
/-- A map's block turned. -/
theorem Has.setMap {w : World} {g : Nat} {o o' : Obj} {F : MS} (h : Has w (pts g o + F)) : Has (setBlock w g o') (pts g o' + F) :=
  h.upd (fun i hi => by simp [setBlock, Ne.symm hi]) (by have := h.lt; simp [setBlock, this]) (by simp [setBlock])
theorem Ext.setMap (w : World) (g : Nat) (o : Obj) : Ext w (setBlock w g o) := ⟨rfl, rfl, rfl, by simp [setBlock]⟩
/-- All blocks but one. -/
def MS.but (w : World) (g : Nat) : MS := ⟨fun i => if i < w.heap.size ∧ i ≠ g then 1 else 0, fun i o => i ≠ g ∧ w.heap[i]? = some o, fun _ _ => False, fun i o h => by
  have h1 := h.resolve_right id
  have := (Array.getElem?_eq_some_iff.1 h1.2).1
  simp [this, h1.1]⟩
theorem Has.but {w : World} {g : Nat} {o : Obj} (h : w.heap[g]? = some o) : Has w (pts g o + MS.but w g) := fun i => by
  have hg := (Array.getElem?_eq_some_iff.1 h).1
  refine ⟨?_, ?_, ?_⟩
  · show (if i = g then 1 else 0) + (if i < w.heap.size ∧ i ≠ g then 1 else 0) ≤ 1
    by_cases hi : i = g
    · simp [hi]
    · simp [hi]; split <;> omega
  · show 1 ≤ (if i = g then 1 else 0) + (if i < w.heap.size ∧ i ≠ g then 1 else 0) → _
    by_cases hi : i = g
    · intro _; rw [hi]; exact hg
    · simp only [hi, if_false, ne_eq, not_false_eq_true, and_true, Nat.zero_add]
      split
      · intro _; assumption
      · intro h; omega
  · intro x hx
    rcases hx with (⟨rfl, rfl⟩ | hx) | (hx | hx)
    · exact h
    · exact hx.2
    · exact hx.elim
    · exact hx.elim
theorem Has.of_but {w w' : World} {g : Nat} {o o' : Obj} (h : Has w' (pts g o' + MS.but w g)) (hE : Ext w w') : ∀ M, Has w (pts g o + M) → Has w' (pts g o' + M) := fun M hM i => by
  obtain ⟨k1, k2, k3⟩ := hM i
  have hz := hE.size
  refine ⟨k1, fun hi => Nat.lt_of_lt_of_le (k2 hi) hz, fun x hx => ?_⟩
  by_cases hi : i = g
  · subst hi
    rcases hx with (⟨_, rfl⟩ | hx) | (hx | hx)
    · exact h.get
    · have h1 := M.ok i x (.inl hx)
      have : (pts i o).f i = 1 := by simp [pts]
      rw [MS.add_f] at k1
      omega
    · exact hx.elim
    · have h1 := M.ok i x (.inr hx)
      have : (pts i o).f i = 1 := by simp [pts]
      rw [MS.add_f] at k1
      omega
  · have h1 : w.heap[i]? = some x := k3 x (by
      rcases hx with (⟨e, _⟩ | hx) | (hx | hx)
      · exact absurd e hi
      · exact .inl (.inr hx)
      · exact hx.elim
      · exact .inr (.inr hx))
    exact (h i).2.2 x (.inl (.inr ⟨hi, h1⟩))
/-- The map at block g. -/
def mpM (S : Ents) (g : Nat) (m : MS) : Prop := ∃ es clock, EntsAre S es clock ∧ m = pts g (.map es clock)
section
variable {P : Program} {w : World} {o : Oper} {ops : Array Oper} {rest : List Oper} {a : Act} {Q : Exit → Act → World → Prop}
theorem wpList_skip (hgd : o.guard = none) (w' : World) (hrun : (execOp a.eval o).run P w = .ok .skip w') (h : wpList P ops Q rest (a.put o.dst undef) w') : wpList P ops Q (o :: rest) a w :=
  wpList_plain hgd fun _ hK => by
    unfold Oper.wp
    rw [hrun]
    exact hK _ _ h
theorem wpList_run (hgd : o.guard = none) (v : Value) (w' : World) (hrun : (execOp a.eval o).run P w = .ok (.value v) w') (h : wpList P ops Q rest (a.put o.dst v) w') : wpList P ops Q (o :: rest) a w :=
  wpList_plain hgd fun _ hK => by
    unfold Oper.wp
    rw [hrun]
    exact hK _ _ h
theorem ex_update {t : TypeId} {a : Act} {o : Oper} {x k y : Operand} {W W' : World} (ho : o.op = .mapUpdate t x k y) (h : (Instr.mapUpdate t (a.eval x) (a.eval k) (a.eval y)).run P W = .ok () W') : (execOp a.eval o).run P W = .ok .skip W' := by
  simp only [execOp, ho, Sem.run_bind, h, Result.andThen, Sem.run_pure]
theorem ex_insert {t : TypeId} {a : Act} {o : Oper} {x k y : Operand} {W W' : World} (ho : o.op = .insert t x k y) (h : (Instr.mapUpdate t (a.eval x) (a.eval k) (a.eval y)).run P W = .ok () W') : (execOp a.eval o).run P W = .ok .skip W' := by
  simp only [execOp, ho, Sem.run_bind, h, Result.andThen, Sem.run_pure]
theorem ex_look {t : TypeId} {a : Act} {o : Oper} {x k : Operand} {c : Bool} {v : Value} {W : World} (ho : o.op = .lookup t x k c) (h : (Instr.lookup t (a.eval x) (a.eval k) c).run P W = .ok v W) : (execOp a.eval o).run P W = .ok (.value v) W := by
  simp only [execOp, ho, Sem.run_bind, h, Result.andThen, Sem.run_pure]
theorem ex_makeMap {a : Act} {o : Oper} {t : TypeId} {W : World} (ho : o.op = .makeMap t none) : (execOp a.eval o).run P W = .ok (.value (.map (some W.heap.size))) (W.alloc (.map #[] 0)) := by
  simp [execOp, ho, Instr.makeMap, Result.andThen]
/-- An entry that is put. -/
theorem wpList_putM {t k e : TypeId} (K : KeyPair P k) (ht : P.underlying t = some (.map k e)) (hgd : o.guard = none) (x kk y : Operand) (ho : o.op = .mapUpdate t x kk y ∨ o.op = .insert t x kk y) (g : Nat) (hx : a.eval x = .map (some g)) (q : Int × Int) (hk : a.eval kk = pairV q) (v : Value) (hy : a.eval y = v)
    {S : Ents} {es : Array MapEntry} {clock : Nat} (hS : EntsAre S es clock) (hq : small q) (F : MS) (hH : Has w (pts g (.map es clock) + F))
    (h : ∀ es' clock' w', EntsAre (ptM S q v) es' clock' → Has w' (pts g (.map es' clock') + F) → Ext w w' → wpList P ops Q rest (a.put o.dst undef) w') : wpList P ops Q (o :: rest) a w := by
  obtain ⟨es', clock', h1, h2⟩ := hS.put K ht hH.get hq v
  refine wpList_skip hgd _ ?_ (h es' clock' _ h2 hH.setMap (Ext.setMap _ _ _))
  rcases ho with ho | ho
  · exact ex_update ho (by rw [hx, hk, hy]; exact h1)
  · exact ex_insert ho (by rw [hx, hk, hy]; exact h1)
end
end Go.Proofs.YtcdhimnmbpllgaaDoor

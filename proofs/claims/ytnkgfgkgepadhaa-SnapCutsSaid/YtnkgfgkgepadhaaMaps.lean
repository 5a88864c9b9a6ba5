/-
  A map in memory whose keys are pairs of small numbers and whose values are rows of ints: looked up, an entry put.
-/
import Derived.Test.YtnkgfgkgepadhaaNetRd
import Derived.Test.YtnkgfgkgepadhaaEntry
import Derived.DeepKeys4
import Derived.WideKeyEntry
namespace Go.Proofs.Ytnkgfgkgepadhaa
open Go.RowKit Go.MapKept Go.ChangeMaps
open Go.WideMaps (KeyLaw)
set_option linter.unusedVariables false
set_option linter.unusedSimpArgs false

section
variable {P : Program} {w : World} {t k e : TypeId} {g : Nat} {es : Array MapEntry} {clock : Nat}
/-- All keys are keys. -/
def KeysOk (P : Program) (k : TypeId) (es : List MapEntry) : Prop := ∀ x ∈ es, ∃ l, keyOf P k x.key = some l
theorem map_lookup (K : KeyLaw P k) (ht : P.underlying t = some (.map k e)) {z : Value} (hz : (zeroValue e).run P w = .ok z w) (hb : w.heap[g]? = some (.map es clock)) (hk : KeysOk P k es.toList) {key : Value} {kl : Lit} (hkey : keyOf P k key = some kl) :
    ((Instr.lookup t (.map (some g)) key false).run P w = .ok z w ∧ ∀ x ∈ es.toList, x.key ≠ key) ∨
      ∃ (j : Nat) (e0 : MapEntry), (Instr.lookup t (.map (some g)) key false).run P w = .ok e0.val w ∧ es.toList[j]? = some e0 ∧ e0.key = key := by
  rcases K.find w hkey es.toList hk with ⟨h1, h2⟩ | ⟨j, e0, h1, h2, h3⟩
  · exact .inl ⟨by simp [Instr.lookup, run_underlying ht, MapKept.run_getObj_map hb, K.check w _ hkey, h1, hz, Result.andThen], h2⟩
  · exact .inr ⟨j, e0, by simp [Instr.lookup, run_underlying ht, MapKept.run_getObj_map hb, K.check w _ hkey, h1, Result.andThen], h2, h3⟩
theorem key_once {es : Array MapEntry} (hnd : (es.toList.map (·.key)).Nodup) {key : Value} {j j' : Nat} {x x' : MapEntry} (h : es.toList[j]? = some x) (h' : es.toList[j']? = some x') (hk : x.key = key) (hk' : x'.key = key) : j' = j := by
  have g1 : (es.toList.map (·.key))[j']? = some key := by rw [List.getElem?_map, h']; simp [hk']
  have g2 : (es.toList.map (·.key))[j]? = some key := by rw [List.getElem?_map, h]; simp [hk]
  have l1 := (List.getElem?_eq_some_iff.1 g1).1
  exact (List.getElem?_inj l1 hnd).1 (by rw [g1, g2])
/-- A new entry, and what is stored into it. -/
theorem map_entry_new (K : KeyLaw P k) (ht : P.underlying t = some (.map k e)) {z : Value} (hz : (zeroValue e).run P w = .ok z w) (hb : w.heap[g]? = some (.map es clock)) (hk : KeysOk P k es.toList) {key : Value} {kl : Lit} (hkey : keyOf P k key = some kl) (hno : ∀ x ∈ es.toList, x.key ≠ key) :
    (Instr.mapEntry t (.map (some g)) key).run P w = .ok (.tuple #[z, goInt clock]) (setBlock w g (.map (es.push ⟨key, z, clock⟩) (clock + 1))) := by
  rcases K.find w hkey es.toList hk with ⟨h1, h2⟩ | ⟨j, e0, h1, h2, h3⟩
  · simp [Instr.mapEntry, run_underlying ht, MapKept.run_getObj_map hb, K.check w false hkey, h1, hz, MapKept.run_setObj_map _ hb, Result.andThen, setBlock]
  · exact absurd h3 (hno e0 (List.mem_of_getElem? h2))
theorem map_store_new {z key val : Value} {w2 : World} (hs : Stamped es clock) (hw2 : w2.heap[g]? = some (.map (es.push ⟨key, z, clock⟩) (clock + 1))) :
    (Instr.entryStore t (.map (some g)) (goInt clock) val).run P w2 = .ok () (setBlock w2 g (.map (es.push ⟨key, val, clock⟩) (clock + 1))) := by
  obtain ⟨s1, s2, s3⟩ := hs
  have hidx : (es.push ⟨key, z, clock⟩).findIdx? (fun e => ((e.born : Nat) : Int) == ((clock : Nat) : Int)) = some es.size := by
    rw [WideElems.findIdx_arr]
    have := WideElems.findIdx_born (l := (es.push ⟨key, z, clock⟩).toList) (j := es.size) (e0 := ⟨key, z, clock⟩) (by
      simp only [Array.toList_push, List.map_append, List.map_cons, List.map_nil]
      refine List.nodup_append.2 ⟨s2, by simp, fun a ha c hc e1 => ?_⟩
      simp only [List.mem_singleton] at hc
      obtain ⟨x, hx, rfl⟩ := List.mem_map.1 ha
      have := s1 x hx
      omega) (by simp)
    exact this
  have hmod : (es.push ⟨key, z, clock⟩).modify es.size (fun e => { e with val := val }) = es.push ⟨key, val, clock⟩ := by
    apply Array.ext'
    rw [Array.toList_modify, Array.toList_push, Array.toList_push, ← Array.length_toList, WideElems.modify_last]
  simp [Instr.entryStore, MapKept.run_getObj_map hw2, asInt, asIntOf, goInt, hidx, hmod, MapKept.run_setObj_map _ hw2, Result.andThen, setBlock]
/-- An entry that is there. -/
theorem map_entry_old (K : KeyLaw P k) (ht : P.underlying t = some (.map k e)) (hb : w.heap[g]? = some (.map es clock)) (hs : Stamped es clock) (hk : KeysOk P k es.toList) {key : Value} {kl : Lit} (hkey : keyOf P k key = some kl) {j : Nat} {e0 : MapEntry} (h2 : es.toList[j]? = some e0) (h3 : e0.key = key) :
    (Instr.mapEntry t (.map (some g)) key).run P w = .ok (.tuple #[e0.val, goInt e0.born]) (setBlock w g (.map es clock)) := by
  rcases K.find w hkey es.toList hk with ⟨_, h4⟩ | ⟨j', e1, h1, h4, h5⟩
  · exact absurd h3 (h4 e0 (List.mem_of_getElem? h2))
  · have hjj := key_once hs.2.2 h2 h4 h3 h5
    subst hjj
    rw [h2] at h4
    injection h4 with h4
    subst h4
    have hj : es[j']? = some e0 := by simpa using h2
    have hsame : es.modify j' (fun e => { e with key := key }) = es := by
      apply Array.ext'
      rw [Array.toList_modify, modify_eq_set _ _ _ _ h2]
      have : ({ e0 with key := key } : MapEntry) = e0 := by rw [← h3]
      rw [this]
      exact WideElems.set_self _ _ _ h2
    simp [Instr.mapEntry, run_underlying ht, MapKept.run_getObj_map hb, K.check w false hkey, h1, hj, h3, K.stays w hkey, hsame, MapKept.run_setObj_map _ hb, Result.andThen, setBlock]
theorem map_store_old {val : Value} {w2 : World} (hs : Stamped es clock) {j : Nat} {e0 : MapEntry} (h2 : es.toList[j]? = some e0) (hw2 : w2.heap[g]? = some (.map es clock)) :
    (Instr.entryStore t (.map (some g)) (goInt e0.born) val).run P w2 = .ok () (setBlock w2 g (.map (es.modify j (fun e' => { e' with val := val })) clock)) := by
  have hidx : es.findIdx? (fun e => ((e.born : Nat) : Int) == ((e0.born : Nat) : Int)) = some j := by
    rw [WideElems.findIdx_arr]
    exact WideElems.findIdx_born hs.2.1 h2
  simp [Instr.entryStore, MapKept.run_getObj_map hw2, asInt, asIntOf, goInt, hidx, MapKept.run_setObj_map _ hw2, Result.andThen, setBlock]
end

/-! ### Keys of two numbers, values that are rows of ints -/
def pairV (q : Int × Int) : Value := .agg #[.int .i64 q.1, .int .i64 q.2]
theorem pairV_inj {a b : Int × Int} (h : pairV a = pairV b) : a = b := by
  simp only [pairV, Value.agg.injEq, Array.mk.injEq, List.cons.injEq, Value.int.injEq, true_and, and_true] at h
  exact Prod.ext h.1 h.2
theorem row155 : (155 : TypeId) < Try.prog.types.size := of_decide_eq_true (by kernel_rfl)
theorem law155 : KeyLaw Try.prog 155 := deep_law_laid laidOut (m := 2) (by omega) row155 (by kernel_rfl) (by rw [Try.underlying155])
def small (q : Int × Int) : Prop := (0 ≤ q.1 ∧ q.1 < 1000) ∧ 0 ≤ q.2 ∧ q.2 < 1000
theorem cells155 : Try.prog.cellsOf 155 = 2 := by kernel_rfl
theorem wf_i64 {n : Int} (h0 : 0 ≤ n) (h1 : n < 1000) : (Lit.int .i64 n).wf = true := by
  have a : (IntKind.i64.min) = -9223372036854775808 := by decide
  have b : (IntKind.i64.max) = 9223372036854775807 := by decide
  simp only [Lit.wf, a, b, Bool.and_eq_true, decide_eq_true_eq]
  omega
theorem types_size : ∃ n, Try.prog.types.size + 1 = n + 2 := ⟨Try.prog.types.size - 1, by have h : 155 < Try.prog.types.size := row155; omega⟩
theorem key155 : Try.prog.keyType 155 = true := by kernel_rfl
theorem key_small {q : Int × Int} (h : small q) : ∃ l, keyOf Try.prog 155 (pairV q) = some l := by
  obtain ⟨n, hn⟩ := types_size
  have w1 : (Lit.int .i64 q.1).wf = true := wf_i64 (by have := h.1; omega) (by have := h.1; omega)
  have w2 : (Lit.int .i64 q.2).wf = true := wf_i64 (by have := h.2; omega) (by have := h.2; omega)
  have hf : (pairV q).formed Try.prog 155 = true := by simp [pairV, Value.formed, Try.underlying155, cells155]
  have hl : Try.prog.keyLits (Try.prog.types.size + 1) 155 (pairV q).cells.toList = some [.int .i64 q.1, .int .i64 q.2] := by
    rw [hn]
    simp [Program.keyLits, Try.underlying155, cells155, pairV, Value.cells, Try.underlying3, cells3, w1, w2, List.range_succ]
  unfold keyOf
  rw [Try.underlying155]
  simp only [key155, hf, Bool.and_self, if_true, hl, Option.map_some]
  exact ⟨_, rfl⟩
/-- The list of a key. -/
def sGet : List ((Int × Int) × List Int) → Int × Int → List Int
  | [], _ => []
  | (q', l) :: s, q => if q' = q then l else sGet s q
def sPut : List ((Int × Int) × List Int) → Int × Int → List Int → List ((Int × Int) × List Int)
  | [], q, l => [(q, l)]
  | (q', l') :: s, q, l => if q' = q then (q', l) :: s else (q', l') :: sPut s q l
/-- The entries of a map, as they lie. -/
def MapR : List ((Int × Int) × List Int) → List MapEntry → MS → Prop
  | [], es, m => es = [] ∧ m = 0
  | (q, l) :: s, es, m => ∃ x es' m1 m2, es = x :: es' ∧ x.key = pairV q ∧ small q ∧ Ints l x.val m1 ∧ MapR s es' m2 ∧ m = m1 + m2
theorem MapR.keys : ∀ {s : List ((Int × Int) × List Int)} {es : List MapEntry} {m : MS}, MapR s es m → KeysOk Try.prog 155 es
  | [], _, _, h, x, hx => by rw [h.1] at hx; cases hx
  | (q, l) :: s, _, _, ⟨y, es', m1, m2, h1, h2, h3, h4, h5, h6⟩, x, hx => by
    rw [h1] at hx
    rcases List.mem_cons.1 hx with rfl | hx
    · rw [h2]; exact key_small h3
    · exact MapR.keys h5 x hx
/-- No entry has the key. -/
theorem MapR.none : ∀ {s : List ((Int × Int) × List Int)} {es : List MapEntry} {m : MS} {q : Int × Int}, MapR s es m → (∀ x ∈ es, x.key ≠ pairV q) → sGet s q = [] ∧ ∀ (v : Value) (b : Nat) (l : List Int) (m' : MS), small q → Ints l v m' → MapR (sPut s q l) (es ++ [⟨pairV q, v, b⟩]) (m' + m)
  | [], _, _, q, h, _ => ⟨rfl, fun v b l m' hq hl => by rw [h.1, h.2]; exact ⟨_, [], m', 0, rfl, rfl, hq, hl, ⟨rfl, rfl⟩, rfl⟩⟩
  | (q', l') :: s, _, _, q, ⟨y, es', m1, m2, h1, h2, h3, h4, h5, h6⟩, hno => by
    have hne : q' ≠ q := fun e => hno y (by rw [h1]; simp) (by rw [h2, e])
    obtain ⟨e1, e2⟩ := MapR.none h5 (fun x hx => hno x (by rw [h1]; simp [hx]))
    refine ⟨by unfold sGet; rw [if_neg hne]; exact e1, fun v b l m' hq hl => ?_⟩
    unfold sPut
    rw [if_neg hne, h1]
    exact ⟨y, es' ++ [⟨pairV q, v, b⟩], m1, m' + m2, rfl, h2, h3, h4, e2 v b l m' hq hl, by rw [h6]; ac_rfl⟩
/-- An entry has it. -/
theorem MapR.some : ∀ {s : List ((Int × Int) × List Int)} {es : List MapEntry} {m : MS} {q : Int × Int} {j : Nat} {x : MapEntry}, MapR s es m → (es.map (·.key)).Nodup → es[j]? = some x → x.key = pairV q →
    ∃ m1 m2, m = m1 + m2 ∧ Ints (sGet s q) x.val m1 ∧ ∀ (v : Value) (b : Nat) (l : List Int) (m' : MS), Ints l v m' → MapR (sPut s q l) (es.set j ⟨pairV q, v, b⟩) (m' + m2)
  | [], _, _, q, j, x, h, _, hx, _ => by rw [h.1] at hx; simp at hx
  | (q', l') :: s, _, _, q, j, x, ⟨y, es', m1, m2, h1, h2, h3, h4, h5, h6⟩, hnd, hx, hk => by
    subst h1
    simp only [List.map_cons, List.nodup_cons] at hnd
    cases j with
    | zero =>
      simp only [List.getElem?_cons_zero, Option.some.injEq] at hx
      subst hx
      have hq : q' = q := pairV_inj (by rw [← h2, hk])
      refine ⟨m1, m2, h6, by unfold sGet; rw [if_pos hq]; exact h4, fun v b l m' hl => ?_⟩
      unfold sPut
      rw [if_pos hq]
      exact ⟨_, es', m', m2, rfl, by rw [hq], h3, hl, h5, rfl⟩
    | succ j =>
      simp only [List.getElem?_cons_succ] at hx
      have hne : q' ≠ q := fun e => hnd.1 (List.mem_map.2 ⟨x, List.mem_of_getElem? hx, by rw [hk, h2, e]⟩)
      obtain ⟨n1, n2, e1, e2, e3⟩ := MapR.some h5 hnd.2 hx hk
      refine ⟨n1, m1 + n2, by rw [h6, e1]; ac_rfl, by unfold sGet; rw [if_neg hne]; exact e2, fun v b l m' hl => ?_⟩
      unfold sPut
      rw [if_neg hne, List.set_cons_succ]
      exact ⟨y, _, m1, m' + n2, rfl, h2, h3, h4, e3 v b l m' hl, by ac_rfl⟩
/-- The map at block g. -/
def IsMap (s : List ((Int × Int) × List Int)) (g : Nat) (m : MS) : Prop := ∃ es clock me, m = pts g (.map es clock) + me ∧ Stamped es clock ∧ MapR s es.toList me
end Go.Proofs.Ytnkgfgkgepadhaa

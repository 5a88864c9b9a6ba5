/-
  A set of places in memory: a map whose keys are five small numbers and whose values are true.
-/
import Derived.Test.YtnkgfgkgepadhaaMaps
namespace Go.Proofs.Ytnkgfgkgepadhaa
open Go.RowKit Go.MapKept Go.ChangeMaps
open Go.WideMaps (KeyLaw)
set_option linter.unusedVariables false
set_option linter.unusedSimpArgs false

def plV (q : List Int) : Value := .agg (q.map (Value.int .i64)).toArray
theorem map_int_inj : ∀ {a b : List Int}, a.map (Value.int .i64) = b.map (Value.int .i64) → a = b
  | [], [], _ => rfl
  | [], _ :: _, h => by simp at h
  | _ :: _, [], h => by simp at h
  | x :: a, y :: b, h => by
    simp only [List.map_cons, List.cons.injEq, Value.int.injEq, true_and] at h
    rw [h.1, map_int_inj h.2]
theorem plV_inj {a b : List Int} (h : plV a = plV b) : a = b := by
  simp only [plV, Value.agg.injEq, Array.mk.injEq] at h
  exact map_int_inj h
def plOk (q : List Int) : Prop := q.length = 5 ∧ ∀ a ∈ q, 0 ≤ a ∧ a < 1000
theorem row135 : (135 : TypeId) < Try.prog.types.size := of_decide_eq_true (by kernel_rfl)
theorem law135 : KeyLaw Try.prog 135 := deep_law_laid laidOut (m := 2) (by omega) row135 (by kernel_rfl) (by rw [Try.underlying135])
theorem cells135 : Try.prog.cellsOf 135 = 5 := by kernel_rfl
theorem key135 : Try.prog.keyType 135 = true := by kernel_rfl
theorem key_pl {q : List Int} (h : plOk q) : ∃ l, keyOf Try.prog 135 (plV q) = some l := by
  obtain ⟨n, hn⟩ := types_size
  obtain ⟨h5, hs⟩ := h
  match q, h5, hs with
  | [a, b, c, d, e], _, hs =>
    have w1 : (Lit.int .i64 a).wf = true := wf_i64 (hs a (by simp)).1 (hs a (by simp)).2
    have w2 : (Lit.int .i64 b).wf = true := wf_i64 (hs b (by simp)).1 (hs b (by simp)).2
    have w3 : (Lit.int .i64 c).wf = true := wf_i64 (hs c (by simp)).1 (hs c (by simp)).2
    have w4 : (Lit.int .i64 d).wf = true := wf_i64 (hs d (by simp)).1 (hs d (by simp)).2
    have w5 : (Lit.int .i64 e).wf = true := wf_i64 (hs e (by simp)).1 (hs e (by simp)).2
    have hf : (plV [a, b, c, d, e]).formed Try.prog 135 = true := by simp [plV, Value.formed, Try.underlying135, cells135]
    have hl : Try.prog.keyLits (Try.prog.types.size + 1) 135 (plV [a, b, c, d, e]).cells.toList = some [.int .i64 a, .int .i64 b, .int .i64 c, .int .i64 d, .int .i64 e] := by
      rw [hn]
      simp [Program.keyLits, Try.underlying135, cells135, plV, Value.cells, Try.underlying3, cells3, w1, w2, w3, w4, w5, List.range_succ]
    unfold keyOf
    rw [Try.underlying135]
    simp only [key135, hf, Bool.and_self, if_true, hl, Option.map_some]
    exact ⟨_, rfl⟩
/-- The set at block g. -/
def SetAt (S : List (List Int)) (es : Array MapEntry) (clock : Nat) : Prop := Stamped es clock ∧ es.toList.map (·.key) = S.map plV ∧ (∀ x ∈ es.toList, x.val = .bool true) ∧ ∀ q ∈ S, plOk q
theorem SetAt.keys {S : List (List Int)} {es : Array MapEntry} {clock : Nat} (h : SetAt S es clock) : KeysOk Try.prog 135 es.toList := fun x hx => by
  have h1 : x.key ∈ S.map plV := by rw [← h.2.1]; exact List.mem_map_of_mem hx
  obtain ⟨q, hq, he⟩ := List.mem_map.1 h1
  rw [← he]
  exact key_pl (h.2.2.2 q hq)
theorem SetAt.size {S : List (List Int)} {es : Array MapEntry} {clock : Nat} (h : SetAt S es clock) : es.size = S.length := by
  have := congrArg List.length h.2.1
  simpa using this
theorem zero4 (w : World) : (zeroValue 4).run Try.prog w = .ok (.bool false) w := by
  obtain ⟨i, hi, hz⟩ := Option.map_eq_some_iff.1 info4
  simp only [Prod.mk.injEq] at hz
  simp [zeroValue, typeInfo, hi, hz.1]
theorem SetAt.look {S : List (List Int)} {es : Array MapEntry} {clock g : Nat} {w : World} (h : SetAt S es clock) (hb : w.heap[g]? = some (.map es clock)) {q : List Int} (hq : plOk q) :
    (Instr.lookup 136 (.map (some g)) (plV q) false).run Try.prog w = .ok (.bool (decide (q ∈ S))) w := by
  obtain ⟨kl, hkl⟩ := key_pl hq
  rcases map_lookup law135 Try.underlying136 (zero4 w) hb h.keys hkl with ⟨h1, h2⟩ | ⟨j, e0, h1, h2, h3⟩
  · rw [h1]
    have : ¬ q ∈ S := fun hm => by
      have h3 : plV q ∈ es.toList.map (·.key) := by rw [h.2.1]; exact List.mem_map_of_mem hm
      obtain ⟨x, hx, he⟩ := List.mem_map.1 h3
      exact h2 x hx he
    rw [decide_eq_false this]
  · have hm := List.mem_of_getElem? h2
    have h4 : plV q ∈ S.map plV := by rw [← h.2.1, ← h3]; exact List.mem_map_of_mem hm
    obtain ⟨p, hp, he⟩ := List.mem_map.1 h4
    rw [h1, h.2.2.1 e0 hm, decide_eq_true (by rw [← plV_inj he]; exact hp)]
theorem SetAt.put {S : List (List Int)} {es : Array MapEntry} {clock g : Nat} {w : World} (h : SetAt S es clock) (hb : w.heap[g]? = some (.map es clock)) {q : List Int} (hq : plOk q) (hno : ¬ q ∈ S) :
    (Instr.mapUpdate 136 (.map (some g)) (plV q) (.bool true)).run Try.prog w = .ok () (setBlock w g (.map (es.push ⟨plV q, .bool true, clock⟩) (clock + 1))) ∧ SetAt (S ++ [q]) (es.push ⟨plV q, .bool true, clock⟩) (clock + 1) := by
  obtain ⟨kl, hkl⟩ := key_pl hq
  have hn : ∀ x ∈ es.toList, x.key ≠ plV q := fun x hx he => by
    have h4 : x.key ∈ S.map plV := by rw [← h.2.1]; exact List.mem_map_of_mem hx
    obtain ⟨p, hp, hpe⟩ := List.mem_map.1 h4
    exact hno (by rw [← plV_inj (hpe.trans he)]; exact hp)
  constructor
  · rcases law135.find w hkl es.toList h.keys with ⟨h1, h2⟩ | ⟨j, e0, h1, h2, h3⟩
    · simp [Instr.mapUpdate, run_underlying Try.underlying136, MapKept.run_getObj_map hb, law135.check w false hkl, h1, MapKept.run_setObj_map _ hb, Result.andThen, setBlock]
    · exact absurd h3 (hn e0 (List.mem_of_getElem? h2))
  · obtain ⟨⟨s1, s2, s3⟩, h2, h3, h4⟩ := h
    refine ⟨⟨?_, ?_, ?_⟩, ?_, ?_, ?_⟩
    · intro x hx
      simp only [Array.toList_push, List.mem_append, List.mem_singleton] at hx
      rcases hx with hx | rfl
      · have := s1 x hx; omega
      · simp
    · simp only [Array.toList_push, List.map_append, List.map_cons, List.map_nil]
      refine List.nodup_append.2 ⟨s2, by simp, fun a ha c hc e1 => ?_⟩
      simp only [List.mem_singleton] at hc
      obtain ⟨x, hx, rfl⟩ := List.mem_map.1 ha
      have := s1 x hx
      omega
    · simp only [Array.toList_push, List.map_append, List.map_cons, List.map_nil]
      refine List.nodup_append.2 ⟨s3, by simp, fun a ha c hc e1 => ?_⟩
      simp only [List.mem_singleton] at hc
      obtain ⟨x, hx, rfl⟩ := List.mem_map.1 ha
      exact hn x hx (by rw [e1, hc])
    · simp [h2]
    · intro x hx
      simp only [Array.toList_push, List.mem_append, List.mem_singleton] at hx
      rcases hx with hx | rfl
      · exact h3 x hx
      · rfl
    · intro p hp
      rcases List.mem_append.1 hp with hp | hp
      · exact h4 p hp
      · rw [List.mem_singleton.1 hp]; exact hq
theorem SetAt.none : SetAt [] #[] 0 := ⟨⟨by simp, by simp, by simp⟩, rfl, by simp, by simp⟩
end Go.Proofs.Ytnkgfgkgepadhaa

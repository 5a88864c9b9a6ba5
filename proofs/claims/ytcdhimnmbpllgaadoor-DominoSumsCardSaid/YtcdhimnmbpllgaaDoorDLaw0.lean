/-
  A law's arguments: how they are read out of what the row says of them; what the row's listed variables give; how the row is shut. Lists of cells as arguments; the walk of few (11).
-/
import Derived.Test.YtcdhimnmbpllgaaDoorDC2
import Derived.Test.YtcdhimnmbpllgaaDoorDMemo
import Derived.Test.YtcdhimnmbpllgaaDoorCards
import Derived.Test.YtcdhimnmbpllgaaDoorTie
import Derived.ProofKit
import Derived.OpenShut
import Derived.ChangeOld
import Derived.Below
import Derived.Deep.Slices
import Derived.Deep.DeepHandedRow
import Derived.Lib.LaidTab
import Derived.LaidMore
import Derived.Test.YtcdhimnmbpllgaaDoorTW1
import Derived.Test.YtcdhimnmbpllgaaDoorDD1
namespace Go.Proofs.YtcdhimnmbpllgaaDoor
open Go.ChangeShapes Go.WideShapes Go.ChangeAt Go.RowKit
set_option linter.unusedVariables false
set_option linter.unusedSimpArgs false
set_option maxRecDepth 100000

/-- What a law's walk leaves. -/
def LawPost (w : World) (F : MS) (e : Ending) (w' : World) : Prop := e = .returned (.bool true) ∧ Has w' F ∧ Ext w w'
/-- Whatever the row reads at type t reads by T. -/
def OpenT {α : Type} (T : RT α) (t : TypeId) : Prop := ∀ (H : Type) (enc : TypeId × Value → H) (W : World) (sp : Nat → Bool) (held : Bool) (fuel : Nat) (cs : List Value) (x : DataW H × List MemPlace),
  DataW.trod enc Tryd.prog W 0 sp held fuel t cs = some x → ∃ a, T.rel (MS.all W) a cs
section
variable {α : Type}
/-- Rows, one behind the other, in a block. -/
theorem rows_at {T : RT α} {F : MS} {b o : Nat} : ∀ (n : Nat), (∀ i, i < n → ∃ a cs, T.rel F a cs ∧ ∀ j u, cs[j]? = some u → F.at b (o + i * T.sz + j) u) →
    ∃ (l : List α) (xs : List Value), l.length = n ∧ RowsQ (T.rel F) l xs ∧ ∀ j u, xs[j]? = some u → F.at b (o + j) u
  | 0, _ => ⟨[], [], rfl, rfl, fun j u h => by simp at h⟩
  | n + 1, h => by
    obtain ⟨l, xs, h1, h2, h3⟩ := rows_at n fun i hi => h i (by omega)
    obtain ⟨a, cs, h4, h5⟩ := h n (by omega)
    have hx := h2.length fun a cs h => T.len F a cs h
    refine ⟨l ++ [a], xs ++ cs, by simp [h1], h2.append ⟨cs, [], h4, rfl, by simp⟩, fun j u hu => ?_⟩
    rw [List.getElem?_append] at hu
    split at hu
    · exact h3 j u hu
    · have := h5 _ u hu
      rw [hx, h1] at this
      rw [hx, h1] at *
      rwa [show o + n * T.sz + (j - n * T.sz) = o + j by omega] at this
theorem cells_at {W : World} {a : Addr} {n : Nat} {cs : List Value} (h : W.cells? 0 a n = some cs) : cs.length = n ∧ ∀ j u, cs[j]? = some u → W.cell? (a.add j) = some u := by
  obtain ⟨_, h2, h3⟩ := World.cells?_some h
  refine ⟨h2, fun j u hu => ?_⟩
  have hj := (List.getElem?_eq_some_iff.1 hu).1
  rw [h3 j (by omega), hu]
theorem OpenT.sl {T : RT α} {t e : TypeId} (ht : Tryd.prog.underlying t = some (.slice e)) (hc : Tryd.prog.cellsOf e = T.sz) (h0 : 0 < T.sz) (he : OpenT T e) : ∀ (H : Type) (enc : TypeId × Value → H) (W : World) (fuel : Nat) (cs : List Value) (x : DataW H × List MemPlace),
    DataW.trod enc Tryd.prog W 0 (fun _ => true) true fuel t cs = some x → ∃ a, (RT.sl T).rel (MS.all W) a cs := by
  intro H enc W fuel cs x h
  rcases Go.Deep.open_slice ht h with ⟨rfl, _⟩ | ⟨a, len, cap, m, n, D, Pl, rfl, _, hl, hm, hmm, _, hel⟩
  · exact ⟨[], _, rfl, RdS.nil _ _⟩
  · rw [if_pos rfl] at hmm
    subst hmm
    have hrow : ∀ i, i < len → ∃ b cs, T.rel (MS.all W) b cs ∧ ∀ j u, cs[j]? = some u → (MS.all W).at a.block (a.off + i * T.sz + j) u ∧ a.spot = none := fun i hi => by
      obtain ⟨cs', k1, k2⟩ := hel i (by omega)
      obtain ⟨b, hb⟩ := he H enc W _ _ n cs' _ k2
      refine ⟨b, cs', hb, fun j u hu => ?_⟩
      obtain ⟨_, k4⟩ := cells_at k1
      have k5 := k4 j u hu
      rw [hc, Addr.add_add] at k5
      obtain ⟨cs0, q1, q2⟩ := hel 0 (by omega)
      obtain ⟨q3, q4⟩ := cells_at q1
      have hp : a.spot = none := by
        have := q4 0 _ (List.getElem?_eq_getElem (by rw [q3, hc]; exact h0))
        rw [Nat.zero_mul, Addr.add_add] at this
        simpa [Addr.add] using (all_at this).1
      obtain ⟨_, k6⟩ := all_at k5
      refine ⟨?_, hp⟩
      have e : (a.add (i * T.sz + j)).block = a.block ∧ (a.add (i * T.sz + j)).off = a.off + (i * T.sz + j) := by
        unfold Addr.add; split
        · rename_i h; rw [h]; exact ⟨rfl, rfl⟩
        · exact ⟨rfl, rfl⟩
      rw [e.1, e.2] at k6
      rwa [Nat.add_assoc]
    obtain ⟨l, xs, h1, h2, h3⟩ := rows_at (T := T) (F := MS.all W) (b := a.block) (o := a.off) len fun i hi => by
      obtain ⟨b, cs, k1, k2⟩ := hrow i hi
      exact ⟨b, cs, k1, fun j u hu => (k2 j u hu).1⟩
    refine ⟨l, _, rfl, some a, m, xs, by rw [h1], by omega, hm, fun hne => ?_, h2⟩
    have hlen := h2.length fun a cs h => T.len _ a cs h
    have hpos : 0 < len := by
      rcases Nat.eq_zero_or_pos len with h | h
      · rw [h1, h, Nat.zero_mul] at hlen
        exact absurd (List.eq_nil_of_length_eq_zero hlen) hne
      · exact h
    obtain ⟨b, cs, k1, k2⟩ := hrow 0 hpos
    have hl0 := T.len _ _ _ k1
    have hs := (k2 0 _ (List.getElem?_eq_getElem (by omega))).2
    refine ⟨a.block, a.off, ?_, h3⟩
    cases a
    simp only at hs
    subst hs
    rfl
end
/-- Strings of lengths that a machine has. -/
def RT.strB : RT ByteArray := ⟨1, fun _ s cs => cs = [.string s] ∧ s.size ≤ maxLen, fun _ _ _ h => by rw [h.1]; rfl, fun _ _ _ _ h => h⟩
theorem openT_str : OpenT RT.strB 9 := fun H enc W sp held fuel cs x h => by
  obtain ⟨s, h1, _, h3⟩ := DataW.trod_string Tryd.underlying9 h
  exact ⟨s, h1, h3⟩
theorem strB_all {F : MS} : ∀ {l : List ByteArray} {xs : List Value}, RowsQ (RT.strB.rel F) l xs → RowsQ (RT.str.rel F) l xs ∧ ∀ s ∈ l, s.size ≤ maxLen
  | [], _, h => ⟨h, by simp⟩
  | a :: l, _, ⟨c1, c2, h1, h2, h3⟩ => by
    obtain ⟨k1, k2⟩ := strB_all h2
    refine ⟨⟨c1, c2, h1.1, k1, h3⟩, fun s hs => ?_⟩
    rcases List.mem_cons.1 hs with rfl | hs
    · exact h1.2
    · exact k2 s hs
theorem RdS.strB {F : MS} {l : List ByteArray} {v : Value} (h : RdS F RT.strB l v) : RdS F RT.str l v ∧ ∀ s ∈ l, s.size ≤ maxLen := by
  obtain ⟨A, c, xs, h1, h2, h3, h4, h5⟩ := h
  obtain ⟨k1, k2⟩ := strB_all h5
  exact ⟨⟨A, c, xs, h1, h2, h3, h4, k1⟩, k2⟩
/-- A slice of strings that is an argument. -/
theorem strs_arg {H : Type} {enc : TypeId × Value → H} {W : World} {A : Option Addr} {n c : Nat} {d : DataW H} {p : List MemPlace}
    (h : DataW.Trod enc Tryd.prog W 0 (fun _ => true) true 22 (.slice A n c) d p) : ∃ l, n = l.length ∧ RdS (MS.all W) RT.str l (.slice A l.length c) ∧ ∀ s ∈ l, s.size ≤ maxLen := by
  obtain ⟨fuel, hf⟩ := h
  obtain ⟨l, v, hv, hl⟩ := OpenT.sl (T := RT.strB) Tryd.underlying22 (by kernel_rfl) (show 0 < RT.strB.sz from Nat.one_pos) openT_str H enc W fuel _ _ hf
  have : v = .slice A n c := by simpa [Value.cells] using hv.symm
  subst this
  obtain ⟨h1, h2⟩ := hl.strB
  obtain ⟨rfl, _⟩ := h1.cells
  exact ⟨l, rfl, h1, h2⟩
theorem own : ownKnob Tryd.prog.godebug = none := by kernel_rfl
/-- What a law's walk leaves, as the row asks. -/
theorem LawPost.bel {w w' : World} {e : Ending} (h : LawPost w (MS.all w) e w') : e = .returned (.bool true) ∧ Below w.heap.size w w' :=
  ⟨h.1, Has.below (a := 0) (by rw [MS.zero_add]; exact h.2.1) h.2.2⟩

/-! ### The listed variables -/
def clD {H : Type} (q : Int × Int) : DataW H := .agg [.lit (.int .i64 q.1), .lit (.int .i64 q.2)]
def fours : List (Int × Int) := [(0, -1), (-1, 0), (1, 0), (0, 1)]
theorem four_data : (Rows.laid_encaustic_domino_four : DataW Unit) = .agg (fours.map clD) := rfl
theorem list2 {α : Type} {l : List α} (h : l.length = 2) : ∃ a b, l = [a, b] := by
  match l, h with
  | [a, b], _ => exact ⟨a, b, rfl⟩
theorem cellsOf66 : Tryd.prog.cellsOf 66 = 2 := by kernel_rfl
/-- A cell that is read. -/
theorem cl_read {H : Type} {enc : TypeId × Value → H} {W : World} {sp : Nat → Bool} {held : Bool} {n : Nat} {cs : List Value} {y : DataW H × List MemPlace} (h : DataW.trod enc Tryd.prog W 0 sp held n 66 cs = some y) : ∃ q : Int × Int, cs = [.int .i64 q.1, .int .i64 q.2] ∧ y.1 = clD q := by
  obtain ⟨xs, n', _, rfl, hl, hlen, hf⟩ := DataW.trod_struct Tryd.underlying66 h
  rw [cellsOf66] at hl
  obtain ⟨c0, c1, rfl⟩ := list2 hl
  obtain ⟨x0, x1, rfl⟩ := list2 (l := xs) (by simpa using hlen)
  have g0 : DataW.trod enc Tryd.prog W 0 sp held n' 3 (([c0, c1].drop 0).take (Tryd.prog.cellsOf 3)) = some x0 := hf 0 _ rfl
  have g1 : DataW.trod enc Tryd.prog W 0 sp held n' 3 (([c0, c1].drop 1).take (Tryd.prog.cellsOf 3)) = some x1 := hf 1 _ rfl
  rw [cells3] at g0 g1
  obtain ⟨z0, e0, rfl, _⟩ := DataW.trod_int Tryd.underlying3 g0
  obtain ⟨z1, e1, rfl, _⟩ := DataW.trod_int Tryd.underlying3 g1
  simp at e0 e1
  subst e0; subst e1
  exact ⟨(z0, z1), rfl, rfl⟩
theorem clD_inj {H : Type} {q q' : Int × Int} (h : (clD q : DataW H) = clD q') : q = q' := by
  cases q; cases q'
  simp [clD] at h
  obtain ⟨h0, h1⟩ := h
  subst h0; subst h1
  rfl
theorem gFour : Tryd.prog.globalNamed "encaustic/domino.four" = some 0 := by kernel_rfl
theorem tFour : (Tryd.prog.globals[0]?).map (·.type) = some 99 := by kernel_rfl
theorem und99 : Tryd.prog.underlying 99 = some (.array 4 66) := by kernel_rfl
def laid3 : List (String × DataW Unit) := [("unicode/utf8.acceptRanges", Rows.laid_unicode_utf8_acceptRanges), ("encaustic/domino.four", Rows.laid_encaustic_domino_four), ("unicode/utf8.first", Rows.laid_unicode_utf8_first)]
theorem four_laid {W : World} (h : laidMetH Tryd.prog laid3 W) : FourOk (MS.all W) := by
  rw [MakeChecks.laidMetH_plain _ _ _ (by kernel_rfl)] at h
  obtain ⟨ps, ⟨g0, t0, cs0, f0, p0, q0, hg0, ht0, hv0, hd0, ⟨g1, t1, cs1, f1, p1, q1, hg1, ht1, hv1, hd1, _⟩, _⟩, _, _⟩ := h
  obtain rfl := Option.some.inj (gFour.symm.trans hg1)
  obtain rfl := Option.some.inj (tFour.symm.trans ht1)
  obtain ⟨xs, m1, rfl, hx1, hlen, hn8, hel⟩ := DataW.trod_array und99 hd1
  rw [four_data] at hx1
  simp only [Prod.mk.injEq, DataW.agg.injEq] at hx1
  have key : ∀ (i : Nat) (k : Int × Int), fours[i]? = some k → ∀ (j : Nat) v, ([.int .i64 k.1, .int .i64 k.2] : List Value)[j]? = some v → (MS.all W).at 0 (i * 2 + j) v := by
    intro i k hi j v hj
    have hi4 : i < 4 := by have := (List.getElem?_eq_some_iff.1 hi).1; simpa [fours] using this
    have hx := hel i hi4
    obtain ⟨x, hxi⟩ : ∃ x, xs[i]? = some x := ⟨_, List.getElem?_eq_getElem (by omega)⟩
    rw [hxi] at hx
    obtain ⟨m, hm1, hm2⟩ := cl_read hx
    have h1 : (xs.map (·.1))[i]? = some (clD m) := by rw [List.getElem?_map, hxi]; simp [hm2]
    rw [← hx1.1, List.getElem?_map, hi] at h1
    simp at h1
    have hkm := clD_inj h1
    subst hkm
    rw [cellsOf66] at hm1
    have hc : cs1.toList[i * 2 + j]? = some v := by
      rw [← hm1] at hj
      have hj6 : j < 2 := by
        have := (List.getElem?_eq_some_iff.1 hj).1
        simp at this
        omega
      rw [List.getElem?_take_of_lt hj6, List.getElem?_drop] at hj
      exact hj
    have := World.var?_cell hg1 hv1 (i * 2 + j)
    have hcell : W.cell? ⟨0, i * 2 + j, none⟩ = some v := by rw [this]; simpa using hc
    exact (all_at hcell).2
  intro i v hv
  have hi8 : i < 8 := by have := (Array.getElem?_eq_some_iff.1 hv).1; simpa [fourV] using this
  have h8 : i = 0 ∨ i = 1 ∨ i = 2 ∨ i = 3 ∨ i = 4 ∨ i = 5 ∨ i = 6 ∨ i = 7 := by omega
  rcases h8 with rfl | rfl | rfl | rfl | rfl | rfl | rfl | rfl
  · exact key 0 _ rfl 0 v hv
  · exact key 0 _ rfl 1 v hv
  · exact key 1 _ rfl 0 v hv
  · exact key 1 _ rfl 1 v hv
  · exact key 2 _ rfl 0 v hv
  · exact key 2 _ rfl 1 v hv
  · exact key 3 _ rfl 0 v hv
  · exact key 3 _ rfl 1 v hv
def acceptCells : Array Value := #[.int .u8 128, .int .u8 191, .int .u8 160, .int .u8 191, .int .u8 128, .int .u8 159, .int .u8 144, .int .u8 191, .int .u8 128, .int .u8 143, .int .u8 0, .int .u8 0, .int .u8 0, .int .u8 0, .int .u8 0, .int .u8 0, .int .u8 0, .int .u8 0, .int .u8 0, .int .u8 0, .int .u8 0, .int .u8 0, .int .u8 0, .int .u8 0, .int .u8 0, .int .u8 0, .int .u8 0, .int .u8 0, .int .u8 0, .int .u8 0, .int .u8 0, .int .u8 0]
def layCells (cs : Array Value) : Obj → Obj
  | .cells _ t frozen => .cells cs t frozen
  | o => o
/-- A world for the witness: the settled one, the three tables laid. -/
noncomputable def laidWorld (os : Os) : World :=
  { World.holding Tryd.prog os ⟨#[], #[], []⟩ with heap := (((World.holding Tryd.prog os ⟨#[], #[], []⟩).heap.modify 0 (layCells fourV)).modify 1 (layCells (Go.Pinned.utf8FirstZ.map fun (n : Nat) => Value.int .u8 n).toArray)).modify 2 (layCells acceptCells) }
theorem laid_met (os : Os) (args : Array Value) : laidMet Tryd.prog laid3 ((laidWorld os).forCall (fun _ _ => 0) ⟨#[], args, []⟩).memory :=
  laidMet_of_run' 8 (by kernel_rfl) (by kernel_rfl)
end Go.Proofs.YtcdhimnmbpllgaaDoor

namespace Go.Proofs.YtcdhimnmbpllgaaDoor
open Go.ChangeShapes Go.WideShapes Go.ChangeAt Go.RowKit
set_option linter.unusedVariables false
set_option maxRecDepth 100000
theorem openT_cl : OpenT RT.cl 66 := fun H enc W sp held fuel cs x h => by
  obtain ⟨q, h1, _⟩ := cl_read h
  exact ⟨q, h1⟩
theorem cells_arg {H : Type} {enc : TypeId × Value → H} {W : World} {A : Option Addr} {n c : Nat} {d : DataW H} {p : List MemPlace}
    (h : DataW.Trod enc Tryd.prog W 0 (fun _ => true) true 29 (.slice A n c) d p) : ∃ l, n = l.length ∧ RdS (MS.all W) RT.cl l (.slice A l.length c) := by
  obtain ⟨fuel, hf⟩ := h
  obtain ⟨l, v, hv, hl⟩ := OpenT.sl (T := RT.cl) Tryd.underlying29 (by kernel_rfl) (show 0 < RT.cl.sz by decide) openT_cl H enc W fuel _ _ hf
  have : v = .slice A n c := by simpa [Value.cells] using hv.symm
  subst this
  obtain ⟨rfl, _⟩ := hl.cells
  exact ⟨l, rfl, hl⟩
end Go.Proofs.YtcdhimnmbpllgaaDoor

namespace Go.Proofs.YtcdhimnmbpllgaaDoor
open Go.RowKit
set_option linter.unusedVariables false
set_option linter.unusedSimpArgs false
set_option maxHeartbeats 2000000
set_option maxRecDepth 100000

/-- Are strings few and short? -/
def fewB (p : List ByteArray) : Bool := decide (p.length ≤ 20 ∧ ∀ s ∈ p, s.size ≤ 20)
theorem few_any {F : MS} {p : List ByteArray} {A : Option Addr} {c : Nat} {w : World} (hr : RdS F RT.str p (.slice A p.length c)) (hs : ∀ s ∈ p, s.size ≤ maxLen) (hH : Has w F) :
    Calls Tryd.prog 11 #[.slice A p.length c] w fun e w' => e = .returned (.bool (fewB p)) ∧ w' = w := by
  have Hr := hid hr
  have HH := hid hH
  have Hs := hid hs
  have hnc := hr.cells.2.1
  have hcm := hr.cells.2.2.1
  obtain ⟨q, hq⟩ : ∃ q, q = fewB p := ⟨_, rfl⟩
  rw [← hq]
  have Hq := hid hq
  obtain ⟨N, hN⟩ : ∃ N, N = p.length := ⟨_, rfl⟩
  rw [← hN] at Hr hnc ⊢
  have HN := hid hN
  have hNI : (N : Int) ≤ 9223372036854775807 := by simp only [maxLen] at hcm; omega
  clear hr hH hs hq hN hcm
  go_enter Tryd.func11, Tryd.ntmps11
  go_wp2
  go_loopw [3] (fun v wr => ∃ i : Nat, i ≤ N ∧ i ≤ 20 ∧ v = .int .i64 i ∧ (∀ s ∈ p.take i, s.size ≤ 20) ∧ wr = w) (fun v _ => N - (intOf v).toNat)
  case atStart => exact ⟨0, Nat.zero_le _, by omega, rfl, by simp, rfl⟩
  case round =>
    obtain ⟨i, hi, hi20, rfl, hno, rfl⟩ := hrel
    have Hno := hid hno
    clear hno
    by_cases hlt : i < N
    · have hltI : (i : Int) < N := by omega
      have Hlt := hid hlt
      by_cases h20 : i = 20
      · have hge : (i : Int) ≥ 20 := by omega
        have hge2 : (20 : Int) ≤ i := by omega
        have hf := hid (show q = false by rw [Hq.out]; unfold fewB; rw [decide_eq_false_iff_not]; rintro ⟨h1, _⟩; rw [← HN.out] at h1; omega)
        clear h20 hlt hi hi20
        go_wp2
        go_ret
        exact ⟨by rw [hf.out]; rfl, rfl⟩
      have hge2 : ¬ (20 : Int) ≤ i := by omega
      obtain ⟨s, hsi⟩ : ∃ s, p[i]? = some s := ⟨_, List.getElem?_eq_getElem (by have := HN.out; omega)⟩
      obtain ⟨b, o, hA, e3⟩ := Hr.out.getStr hsi
      subst hA
      have f1 := e3.c0 HH.out
      have hsz := Hs.out s (List.mem_of_getElem? hsi)
      have hszI : (s.size : Int) ≤ 9223372036854775807 := by simp only [maxLen] at hsz; omega
      have hNc : N ≤ c := hnc
      have Hsi := hid hsi
      have H20 := hid (show i < 20 by omega)
      clear e3 hsi hsz hlt hi hi20 h20
      by_cases hb : s.size ≤ 20
      · have hbI : ¬ (20 : Int) < s.size := by omega
        have Hb := hid hb
        clear hb
        go_wp2
        go_roundw
        case rel => exact ⟨i + 1, Hlt.out, H20.out, by go_num, fun t ht => by
          rw [take_more Hsi.out] at ht
          rcases List.mem_append.1 ht with ht | ht
          · exact Hno.out t ht
          · rw [List.mem_singleton.1 ht]; exact Hb.out, by first | rfl | trivial⟩
        case measure => have := Hlt.out; simp [intOf]; omega
      · have hbI : (20 : Int) < s.size := by omega
        have hf := hid (show q = false by rw [Hq.out]; unfold fewB; rw [decide_eq_false_iff_not]; rintro ⟨_, h1⟩; exact hb (h1 s (List.mem_of_getElem? Hsi.out)))
        clear hb
        go_wp2
        go_ret
        exact ⟨by rw [hf.out]; rfl, rfl⟩
    · have hie : i = N := by omega
      subst hie
      have hf := hid (show q = true by
        have h1 := Hno.out
        rw [HN.out, List.take_length] at h1
        rw [Hq.out]; unfold fewB; rw [decide_eq_true_eq]; exact ⟨by rw [← HN.out]; exact hi20, h1⟩)
      clear hlt hi hi20
      go_wp2
      go_ret
      exact ⟨by rw [hf.out]; rfl, rfl⟩
end Go.Proofs.YtcdhimnmbpllgaaDoor

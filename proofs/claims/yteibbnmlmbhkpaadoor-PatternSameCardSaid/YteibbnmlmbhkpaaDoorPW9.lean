/-
  The walk of group.
-/
import Derived.Test.YteibbnmlmbhkpaaDoorPW8
import Derived.Test.YteibbnmlmbhkpaaDoorPW3
import Derived.Deep.MidRow
namespace Go.Proofs.YteibbnmlmbhkpaaDoor
open Go.RowKit
set_option linter.unusedVariables false
set_option linter.unusedSimpArgs false
set_option maxHeartbeats 2000000
set_option maxRecDepth 100000

def kcells : List Value := kinds.flatMap Mv.cells
theorem und102 : Tryd.prog.underlying 102 = some (.array 8 41) := by kernel_rfl
theorem size102 : (Tryd.prog.info? 102).map (·.size) = some 48 := by kernel_rfl
theorem rowsQ_mv : ∀ (l : List Mv), RowsQ (fun (m : Mv) cs => cs = m.cells) l (l.flatMap Mv.cells)
  | [] => rfl
  | m :: l => ⟨m.cells, _, rfl, rowsQ_mv l, by rw [List.flatMap_cons]⟩
theorem KinOk.range {F : MS} {w : World} (h : KinOk F) (hH : Has w F) : w.rangeAt 0 0 kcells := fun j v hj => by
  have hl : j < 48 := by
    have := (List.getElem?_eq_some_iff.1 hj).1
    simpa [kcells, kinds, Mv.cells] using this
  obtain ⟨k, hk⟩ : ∃ k, kinds[j / 6]? = some k := ⟨_, List.getElem?_eq_getElem (by show _ < 8; omega)⟩
  obtain ⟨c, rfl, h2⟩ := (rowsQ_mv kinds).get (sz := 6) (fun _ _ h => by rw [h]; rfl) hk
  obtain ⟨u, hu⟩ : ∃ u, k.cells[j % 6]? = some u := ⟨_, List.getElem?_eq_getElem (by show _ < 6; omega)⟩
  have h3 := h2 _ _ hu
  rw [show j / 6 * 6 + j % 6 = j by omega] at h3
  obtain rfl : u = v := by
    have : kcells[j]? = some u := h3
    rw [hj] at this
    exact (Option.some.inj this).symm
  have := (h _ _ hk _ _ hu).c0 hH
  rw [show j / 6 * 6 + j % 6 = j by omega] at this
  rw [Nat.zero_add]
  exact this
def MvR : Mv → List Value → MS → Prop := fun m cs ms => cs = m.cells ∧ ms = 0
theorem size4 : (Tryd.prog.info? 4).map (·.size) = some 1 := by kernel_rfl
theorem size30 : (Tryd.prog.info? 30).map (·.size) = some 1 := by kernel_rfl
theorem size41 : (Tryd.prog.info? 41).map (·.size) = some 6 := by kernel_rfl
theorem row30 : RowTy Tryd.prog 30 41 (.agg #[.int .i64 0, .int .i64 0, .int .i64 0, .int .i64 0, .int .i64 0, .int .i64 0]) 6 48 := ⟨by kernel_rfl, by kernel_rfl, rfl⟩
/-- Is a place ahead of another one? -/
def ltB (k' e' f' k e f : Nat) : Bool := decide (k' < k ∨ (k' = k ∧ (e' < e ∨ (e' = e ∧ f' < f))))
/-- The symmetries ahead of a place. -/
def cellF (p : List ByteArray) (k e f : Nat) : Option Mv := if keepsB p (knd k e f) then some (knd k e f) else none
def rowE (p : List ByteArray) (g : Gd) (k e : Nat) : List Mv := (List.range g.D).filterMap (cellF p k e)
def rowK (p : List ByteArray) (g : Gd) (k : Nat) : List Mv := (List.range g.A).flatMap (rowE p g k)
def listP (p : List ByteArray) (g : Gd) (k e f : Nat) : List Mv := (List.range k).flatMap (rowK p g) ++ ((List.range e).flatMap (rowE p g k) ++ (List.range f).filterMap (cellF p k e))
theorem listP_zero (p : List ByteArray) (g : Gd) : listP p g 0 0 0 = [] := rfl
theorem listP_hit {p : List ByteArray} {g : Gd} {k e f : Nat} (h : keepsB p (knd k e f) = true) : listP p g k e (f + 1) = listP p g k e f ++ [knd k e f] := by
  unfold listP
  rw [List.range_succ (n := f), List.filterMap_append]
  simp [cellF, h]
theorem listP_miss {p : List ByteArray} {g : Gd} {k e f : Nat} (h : keepsB p (knd k e f) = false) : listP p g k e (f + 1) = listP p g k e f := by
  unfold listP
  rw [List.range_succ (n := f), List.filterMap_append]
  simp [cellF, h]
theorem listP_endF (p : List ByteArray) (g : Gd) (k e : Nat) : listP p g k e g.D = listP p g k (e + 1) 0 := by
  unfold listP
  rw [List.range_succ (n := e), List.flatMap_append]
  simp [rowE]
theorem listP_endE (p : List ByteArray) (g : Gd) (k : Nat) : listP p g k g.A 0 = listP p g (k + 1) 0 0 := by
  unfold listP
  rw [List.range_succ (n := k), List.flatMap_append]
  simp [rowK]
theorem listP_endK (p : List ByteArray) (g : Gd) : listP p g 8 0 0 = symL p g := by
  unfold listP symL
  simp
  rfl
/-- The group's cells while it is built. -/
structure Part (p : List ByteArray) (g : Gd) (k e f : Nat) (C : Array Value) (v : Value) : Prop where
  sz : C.size = 292
  c0 : C[0]? = some (.int .i64 g.A)
  c1 : C[1]? = some (.int .i64 g.B)
  c2 : C[2]? = some (.int .i64 g.D)
  c3 : C[3]? = some v
  own : ∀ k' e' f', k' < 8 → e' < 6 → f' < 6 → C[4 + k' * 36 + e' * 6 + f']? = some (.bool (ownB p g k' e' f' && ltB k' e' f' k e f))
theorem Part.miss {p : List ByteArray} {g : Gd} {k e f : Nat} {C : Array Value} {v : Value} (h : Part p g k e f C v) (hk : keepsB p (knd k e f) = false) : Part p g k e (f + 1) C v :=
  ⟨h.sz, h.c0, h.c1, h.c2, h.c3, fun k' e' f' h1 h2 h3 => by
    rw [h.own k' e' f' h1 h2 h3]
    congr 2
    by_cases he : k' = k ∧ e' = e ∧ f' = f
    · obtain ⟨rfl, rfl, rfl⟩ := he
      have : ownB p g k' e' f' = false := by unfold ownB; rw [hk, Bool.and_false]
      rw [this]; rfl
    · congr 1
      unfold ltB
      rw [decide_eq_decide]
      omega⟩
theorem Part.hit {p : List ByteArray} {g : Gd} {k e f : Nat} {C : Array Value} {v : Value} (h : Part p g k e f C v) (v' : Value) (hk : keepsB p (knd k e f) = true) (hk8 : k < 8) (he : e < g.A) (he6 : g.A ≤ 6) (hf : f < g.D) (hf6 : g.D ≤ 6) :
    Part p g k e (f + 1) ((C.setIfInBounds 3 v').setIfInBounds (4 + k * 36 + e * 6 + f) (.bool true)) v' := by
  have hne : ∀ i, i < 4 → 4 + k * 36 + e * 6 + f ≠ i := fun i hi => by omega
  refine ⟨by simp [h.sz], ?_, ?_, ?_, ?_, fun k' e' f' h1 h2 h3 => ?_⟩
  · rw [Array.getElem?_setIfInBounds_ne (hne 0 (by omega)), Array.getElem?_setIfInBounds_ne (by omega)]; exact h.c0
  · rw [Array.getElem?_setIfInBounds_ne (hne 1 (by omega)), Array.getElem?_setIfInBounds_ne (by omega)]; exact h.c1
  · rw [Array.getElem?_setIfInBounds_ne (hne 2 (by omega)), Array.getElem?_setIfInBounds_ne (by omega)]; exact h.c2
  · rw [Array.getElem?_setIfInBounds_ne (hne 3 (by omega)), Array.getElem?_setIfInBounds_self_of_lt (by rw [h.sz]; omega)]
  · by_cases heq : 4 + k * 36 + e * 6 + f = 4 + k' * 36 + e' * 6 + f'
    · have hkk : k = k' ∧ e = e' ∧ f = f' := by omega
      obtain ⟨rfl, rfl, rfl⟩ := hkk
      rw [Array.getElem?_setIfInBounds_self_of_lt (by simp [h.sz]; omega)]
      have : ownB p g k e f = true := by unfold ownB; rw [hk]; simp [he, hf]
      rw [this]
      have : ltB k e f k e (f + 1) = true := by unfold ltB; simp
      rw [this]; rfl
    · rw [Array.getElem?_setIfInBounds_ne heq, Array.getElem?_setIfInBounds_ne (by omega), h.own k' e' f' h1 h2 h3]
      congr 3
      unfold ltB
      rw [decide_eq_decide]
      omega
theorem Part.endF {p : List ByteArray} {g : Gd} {k e : Nat} {C : Array Value} {v : Value} (h : Part p g k e g.D C v) : Part p g k (e + 1) 0 C v :=
  ⟨h.sz, h.c0, h.c1, h.c2, h.c3, fun k' e' f' h1 h2 h3 => by
    rw [h.own k' e' f' h1 h2 h3]
    congr 2
    by_cases hd : f' < g.D
    · congr 1
      unfold ltB
      rw [decide_eq_decide]
      omega
    · have : ownB p g k' e' f' = false := by unfold ownB; simp [hd]
      rw [this]; rfl⟩
theorem Part.endE {p : List ByteArray} {g : Gd} {k : Nat} {C : Array Value} {v : Value} (h : Part p g k g.A 0 C v) : Part p g (k + 1) 0 0 C v :=
  ⟨h.sz, h.c0, h.c1, h.c2, h.c3, fun k' e' f' h1 h2 h3 => by
    rw [h.own k' e' f' h1 h2 h3]
    congr 2
    by_cases hd : e' < g.A
    · congr 1
      unfold ltB
      rw [decide_eq_decide]
      omega
    · have : ownB p g k' e' f' = false := by unfold ownB; simp [hd]
      rw [this]; rfl⟩
theorem z69 : Tryd.zeroCells69.size = 292 := by kernel_rfl
theorem z69_3 : Tryd.zeroCells69[3]? = some (.slice none 0 0) := by kernel_rfl
def isFalse : Option Value → Bool
  | some (.bool false) => true
  | _ => false
theorem z69_own : ((List.range 288).all fun i => isFalse Tryd.zeroCells69[4 + i]?) = true := by kernel_rfl
theorem Part.start (p : List ByteArray) (g : Gd) : Part p g 0 0 0 (((Tryd.zeroCells69.setIfInBounds 0 (.int .i64 g.A)).setIfInBounds 1 (.int .i64 g.B)).setIfInBounds 2 (.int .i64 g.D)) (.slice none 0 0) := by
  refine ⟨by simp [z69], ?_, ?_, ?_, ?_, fun k' e' f' h1 h2 h3 => ?_⟩
  · rw [Array.getElem?_setIfInBounds_ne (by omega), Array.getElem?_setIfInBounds_ne (by omega), Array.getElem?_setIfInBounds_self_of_lt (by rw [z69]; omega)]
  · rw [Array.getElem?_setIfInBounds_ne (by omega), Array.getElem?_setIfInBounds_self_of_lt (by simp [z69])]
  · rw [Array.getElem?_setIfInBounds_self_of_lt (by simp [z69])]
  · rw [Array.getElem?_setIfInBounds_ne (by omega), Array.getElem?_setIfInBounds_ne (by omega), Array.getElem?_setIfInBounds_ne (by omega), z69_3]
  · rw [Array.getElem?_setIfInBounds_ne (by omega), Array.getElem?_setIfInBounds_ne (by omega), Array.getElem?_setIfInBounds_ne (by omega)]
    have h := List.all_eq_true.1 z69_own (k' * 36 + e' * 6 + f') (List.mem_range.2 (by omega))
    rw [show 4 + k' * 36 + e' * 6 + f' = 4 + (k' * 36 + e' * 6 + f') by omega]
    have hl : ltB k' e' f' 0 0 0 = false := by unfold ltB; simp
    rw [hl, Bool.and_false]
    generalize Tryd.zeroCells69[4 + (k' * 36 + e' * 6 + f')]? = o at h
    unfold isFalse at h
    split at h
    · rfl
    · cases h
theorem MvR.len : ∀ a cs m, MvR a cs m → cs.length = 6 := fun a cs m h => by rw [h.1]; rfl
theorem MvR.one : ∀ a cs m, MvR a cs m → ∀ u ∈ cs, u.oneCell' = true := fun a cs m h u hu => by
  rw [h.1] at hu; simp [Mv.cells] at hu; rcases hu with rfl | rfl | rfl | rfl | rfl | rfl <;> rfl
theorem flat_len {α β : Type} (f : α → List β) (n : Nat) (h : ∀ x, (f x).length ≤ n) : ∀ l : List α, (l.flatMap f).length ≤ l.length * n
  | [] => by simp
  | a :: l => by
    rw [List.flatMap_cons, List.length_append, List.length_cons, Nat.succ_mul]
    have := flat_len f n h l
    have := h a
    omega
theorem listP_len {p : List ByteArray} {g : Gd} {k e f : Nat} (hk : k ≤ 8) (he : e ≤ 6) (hf : f ≤ 6) (hA : g.A ≤ 6) (hD : g.D ≤ 6) : (listP p g k e f).length ≤ 400 := by
  have h1 : ∀ k e, (rowE p g k e).length ≤ 6 := fun k e => by
    have := List.length_filterMap_le (cellF p k e) (List.range g.D)
    rw [List.length_range] at this
    unfold rowE
    omega
  have h2 : ∀ k, (rowK p g k).length ≤ 36 := fun k => by
    have := flat_len (rowE p g k) 6 (h1 k) (List.range g.A)
    rw [List.length_range] at this
    unfold rowK
    have : g.A * 6 ≤ 36 := by omega
    omega
  unfold listP
  rw [List.length_append, List.length_append]
  have h3 := flat_len (rowK p g) 36 h2 (List.range k)
  have h4 := flat_len (rowE p g k) 6 (h1 k) (List.range e)
  have h5 := List.length_filterMap_le (cellF p k e) (List.range f)
  rw [List.length_range] at h3 h4 h5
  omega
theorem knd_eq (k : Nat) : ∃ a b c d, ∀ e f, knd k e f = ⟨a, b, c, d, e, f⟩ := ⟨_, _, _, _, fun e f => rfl⟩
theorem idx_kinds (k : Nat) (hk : k < 8) (w : World) : (Instr.index 102 (.agg kcells.toArray) (.int .i64 k)).run Tryd.prog w = .ok (knd k 0 0).v w := by
  have h : k = 0 ∨ k = 1 ∨ k = 2 ∨ k = 3 ∨ k = 4 ∨ k = 5 ∨ k = 6 ∨ k = 7 := by omega
  rcases h with rfl | rfl | rfl | rfl | rfl | rfl | rfl | rfl <;> rfl
theorem group_any {F : MS} {p : List ByteArray} {fb : Nat} {w : World} (h : Flo F p fb) (hp : PatOk p) (hk : KinOk F) (hH : Has w F) :
    Calls Tryd.prog 36 #[.pointer (some ⟨fb, 0, none⟩)] w fun e w' => ∃ g gb X, e = .returned (.pointer (some ⟨gb, 0, none⟩)) ∧ PGr X p g gb ∧ Has w' X ∧ Kp w w' := by
  have Hlat := hid (lattice_any h hp hH)
  have Hkeeps := hid (fun (W : World) (hW : Has W F) (m : Mv) => keeps_any h hp hW m)
  have Hkin := hid hk
  have HH := hid hH
  have Hp := hid hp
  clear h hp hk hH
  go_enter Tryd.func36, Tryd.ntmps36
  go_wp2_with (first
    | (go_at_call 34; refine Hlat.out.mono ?_; rintro e1 w1 ⟨g, hg, rfl, k1⟩; have Hg := hid hg; have K1 := hid k1; clear hg k1)
    | (refine wpList_load_mid rfl 102 (.global 0) rfl 0 0 rfl kcells _ (Hkin.out.range ((K1.out.1 _ HH.out).of_all ((Has.all w1).alloc _))) und102 rfl size102 ?_))
  obtain ⟨C0, hC0⟩ : ∃ C0, C0 = (((Tryd.zeroCells69.setIfInBounds 0 (.int .i64 g.A)).setIfInBounds 1 (.int .i64 g.B)).setIfInBounds 2 (.int .i64 g.D)) := ⟨_, rfl⟩
  have P0 := hid (show Part p g 0 0 0 C0 (.slice none 0 0) by rw [hC0]; exact Part.start p g)
  rw [← hC0]
  obtain ⟨gb, hgb⟩ : ∃ gb, gb = w1.heap.size := ⟨_, rfl⟩
  obtain ⟨W1, hW1⟩ : ∃ W1, W1 = w1.alloc (.cells C0 69) := ⟨_, rfl⟩
  have HW1 := hid (show Has W1 (blk gb C0 69 + MS.all w1) by rw [hW1, hgb]; exact (Has.all w1).alloc _)
  have HE1 := hid (show Ext w W1 by rw [hW1]; exact K1.out.2.trans (Ext.alloc w1 _))
  rw [← hW1, ← hgb]
  clear hC0 hW1 hgb
  obtain ⟨KC, hKC⟩ : ∃ KC, KC = kcells.toArray := ⟨_, rfl⟩
  rw [← hKC]
  have HKC := hid hKC
  clear hKC
  have HF1 := hid (fun (W : World) (X : MS) (hW : Has W (X + MS.all w1)) => (K1.out.1 _ HH.out).of_all hW)
  have HKp := hid (fun (W : World) (X : MS) (hW : Has W (X + MS.all w1)) (hE : Ext w W) => (show Kp w W from ⟨fun M hM => (K1.out.1 M hM).of_all hW, hE⟩))
  generalize MS.all w1 = G at *
  have hA6 := hid (show g.A ≤ 6 by have := Hg.out.aw; have := Hp.out.w6; omega)
  have hD6 := hid (show g.D ≤ 6 by have := Hg.out.dh; have := Hp.out.h6; omega)
  go_loopw [14] (fun v wr => ∃ k : Nat, ∃ C A c ms, k ≤ 8 ∧ v = .int .i64 k ∧ Part p g k 0 0 C (.slice A (listP p g k 0 0).length c) ∧ SlR 41 6 MvR (listP p g k 0 0) (.slice A (listP p g k 0 0).length c) ms ∧ Has wr (blk gb C 69 + (ms + G)) ∧ Ext w wr) (fun v _ => 8 - (intOf v).toNat)
  case atStart => exact ⟨0, C0, none, 0, 0, Nat.zero_le _, rfl, P0.out, ⟨[], 0, 0, Sl.nil _ _, RowsR.nil, by rw [MS.zero_add]⟩, HW1.out.eq (by rw [MS.zero_add]), HE1.out⟩
  case round =>
    obtain ⟨k, C, A, c, ms, hk8, rfl, hP, hS, hW, hE⟩ := hrel
    have HP := hid hP
    have HS := hid hS
    have HW := hid hW
    have HE := hid hE
    clear hP hS hW hE P0 HW1 HE1
    by_cases hlt : k < 8
    · have hltI : (k : Int) < 8 := by omega
      have Hlt := hid hlt
      have Hix := hid (idx_kinds k hlt)
      rw [← HKC.out] at Hix
      obtain ⟨ka, kb, kc, kd, hknd⟩ := knd_eq k
      have Hknd := hid hknd
      have hix : (Instr.index 102 (.agg KC) (.int .i64 k)).run Tryd.prog wr = .ok (.agg #[.int .i64 ka, .int .i64 kb, .int .i64 kc, .int .i64 kd, .int .i64 0, .int .i64 0]) wr := by rw [Hix.out, hknd]; rfl
      clear hlt hknd Hix
      have HW2 := hid (show Has (wr.alloc (.cells #[.int .i64 ka, .int .i64 kb, .int .i64 kc, .int .i64 kd, .int .i64 0, .int .i64 0] 41)) (blk gb C 69 + (ms + (blk wr.heap.size #[.int .i64 ka, .int .i64 kb, .int .i64 kc, .int .i64 kd, .int .i64 0, .int .i64 0] 41 + G))) from (HW.out.alloc _).eq (by show blk wr.heap.size _ 41 + _ = _; ac_rfl))
      have g0 : (wr.alloc (.cells #[.int .i64 ka, .int .i64 kb, .int .i64 kc, .int .i64 kd, .int .i64 0, .int .i64 0] 41)).cell? ⟨gb, 0, none⟩ = some (.int .i64 g.A) := HW2.out.at_ HP.out.c0
      go_wp2
      clear g0 hix
      generalize wr.heap.size = b5 at *
      have HE2 := hid (HE.out.trans (Ext.alloc wr (.cells #[.int .i64 ka, .int .i64 kb, .int .i64 kc, .int .i64 kd, .int .i64 0, .int .i64 0] 41)))
      clear HW HE
      generalize wr.alloc _ = w2 at *
      go_loopw [23] (fun v wq => ∃ e : Nat, ∃ C A c ms, e ≤ g.A ∧ v = .int .i64 e ∧ Part p g k e 0 C (.slice A (listP p g k e 0).length c) ∧ SlR 41 6 MvR (listP p g k e 0) (.slice A (listP p g k e 0).length c) ms ∧ Has wq (blk gb C 69 + (ms + (blk b5 #[.int .i64 ka, .int .i64 kb, .int .i64 kc, .int .i64 kd, .int .i64 0, .int .i64 0] 41 + G))) ∧ Ext w wq) (fun v _ => g.A - (intOf v).toNat)
      case atStart => exact ⟨0, C, A, c, ms, Nat.zero_le _, rfl, HP.out, HS.out, HW2.out, HE2.out⟩
      case round =>
        clear HP HS HW2 HE2
        clear ms c A C
        obtain ⟨e, C, A, c, ms, heA, rfl, hP, hS, hW, hE⟩ := hrel
        have HP := hid hP
        have HS := hid hS
        have HW := hid hW
        have HE := hid hE
        clear hP hS hW hE
        by_cases hlt : e < g.A
        · have hltI : (e : Int) < g.A := by omega
          have HltE := hid hlt
          have heI : (e : Int) < 6 := by have := hA6.out; omega
          clear hlt heA
          have g2 : wr.cell? ⟨gb, 2, none⟩ = some (.int .i64 g.D) := HW.out.at_ HP.out.c2
          go_wp2
          clear g2
          go_loopw [31] (fun v wq => ∃ f : Nat, ∃ C A c ms, f ≤ g.D ∧ v = .int .i64 f ∧ Part p g k e f C (.slice A (listP p g k e f).length c) ∧ SlR 41 6 MvR (listP p g k e f) (.slice A (listP p g k e f).length c) ms ∧ Has wq (blk gb C 69 + (ms + (blk b5 #[.int .i64 ka, .int .i64 kb, .int .i64 kc, .int .i64 kd, .int .i64 0, .int .i64 0] 41 + G))) ∧ Ext w wq) (fun v _ => g.D - (intOf v).toNat)
          case atStart => exact ⟨0, C, A, c, ms, Nat.zero_le _, rfl, HP.out, HS.out, HW.out, HE.out⟩
          case round =>
            clear HP HS HW HE
            clear ms c A C
            obtain ⟨f, C, A, c, ms, hfD, rfl, hP, hS, hW, hE⟩ := hrel
            have HP := hid hP
            have HS := hid hS
            have HW := hid hW
            have HE := hid hE
            clear hP hS hW hE
            by_cases hlt : f < g.D
            · have hltI : (f : Int) < g.D := by omega
              have HltF := hid hlt
              have hfI : (f : Int) < 6 := by have := hD6.out; omega
              clear hlt hfD
              have hW5 := HW.out.eq (b := blk b5 #[.int .i64 ka, .int .i64 kb, .int .i64 kc, .int .i64 kd, .int .i64 0, .int .i64 0] 41 + (blk gb C 69 + (ms + G))) (by ac_rfl)
              have m0 : wr.cell? ⟨b5, 0, none⟩ = some (.int .i64 ka) := hW5.at_ rfl
              have m1 : wr.cell? ⟨b5, 1, none⟩ = some (.int .i64 kb) := hW5.at_ rfl
              have m2 : wr.cell? ⟨b5, 2, none⟩ = some (.int .i64 kc) := hW5.at_ rfl
              have m3 : wr.cell? ⟨b5, 3, none⟩ = some (.int .i64 kd) := hW5.at_ rfl
              have m4 : wr.cell? ⟨b5, 4, none⟩ = some (.int .i64 0) := hW5.at_ rfl
              have m5 : wr.cell? ⟨b5, 5, none⟩ = some (.int .i64 0) := hW5.at_ rfl
              have HW3 := hid (show Has (wr.alloc (.cells #[.int .i64 ka, .int .i64 kb, .int .i64 kc, .int .i64 kd, .int .i64 e, .int .i64 f] 41)) ((blk wr.heap.size #[.int .i64 ka, .int .i64 kb, .int .i64 kc, .int .i64 kd, .int .i64 e, .int .i64 f] 41 + (blk gb C 69 + (ms + blk b5 #[.int .i64 ka, .int .i64 kb, .int .i64 kc, .int .i64 kd, .int .i64 0, .int .i64 0] 41))) + G) from (HW.out.alloc _).eq (by show blk wr.heap.size _ 41 + _ = _; ac_rfl))
              have HE3 := hid (HE.out.trans (Ext.alloc wr (.cells #[.int .i64 ka, .int .i64 kb, .int .i64 kc, .int .i64 kd, .int .i64 e, .int .i64 f] 41)))
              have Hkc := hid (Hkeeps.out _ (HF1.out _ _ HW3.out) ⟨ka, kb, kc, kd, e, f⟩)
              have hkn : knd k e f = ⟨ka, kb, kc, kd, e, f⟩ := Hknd.out e f
              obtain ⟨q, hq⟩ : ∃ q, q = keepsB p (knd k e f) := ⟨_, rfl⟩
              rw [← hkn, ← hq, hkn] at Hkc
              have Hq := hid hq
              clear hW5 HW HE hq hkn
              cases q with
              | false =>
                go_wp2_with (go_at_call 51; refine Hkc.out.mono ?_; rintro e7 w7 ⟨rfl, k7⟩; have K7 := hid (k7.1 _ HW3.out); have E7 := hid (HE3.out.trans k7.2); clear k7)
                go_roundw
                case rel => exact ⟨f + 1, C, A, c, ms, HltF.out, by go_num, by rw [listP_miss Hq.out.symm]; exact HP.out.miss Hq.out.symm, by rw [listP_miss Hq.out.symm]; exact HS.out, (K7.out.eq (b := blk wr.heap.size #[.int .i64 ka, .int .i64 kb, .int .i64 kc, .int .i64 kd, .int .i64 e, .int .i64 f] 41 + (blk gb C 69 + (ms + (blk b5 #[.int .i64 ka, .int .i64 kb, .int .i64 kc, .int .i64 kd, .int .i64 0, .int .i64 0] 41 + G)))) (by ac_rfl)).right, E7.out⟩
                case measure => have := HltF.out; simp [intOf]; omega
              | true =>
                go_wp2_with (go_at_call 51; refine Hkc.out.mono ?_; rintro e7 w7 ⟨rfl, k7⟩; have K7 := hid (k7.1 _ HW3.out); have E7 := hid (HE3.out.trans k7.2); clear k7)
                generalize wr.heap.size = bm at *
                clear m0 m1 m2 m3 m4 m5 Hkc HW3 HE3
                have K8 := hid (show Has w7.drew (ms + (0 + (blk gb C 69 + (blk bm #[.int .i64 ka, .int .i64 kb, .int .i64 kc, .int .i64 kd, .int .i64 e, .int .i64 f] 41 + (blk b5 #[.int .i64 ka, .int .i64 kb, .int .i64 kc, .int .i64 kd, .int .i64 0, .int .i64 0] 41 + G))))) from K7.out.drew.eq (by rw [MS.zero_add]; ac_rfl))
                have E8 := hid (E7.out.trans (Ext.drew _))
                obtain ⟨n, hn⟩ : ∃ n, n = (listP p g k e f).length := ⟨_, rfl⟩
                have Hn := hid hn
                have keep : ∀ W X, Has W (X + (blk gb C 69 + (blk bm #[.int .i64 ka, .int .i64 kb, .int .i64 kc, .int .i64 kd, .int .i64 e, .int .i64 f] 41 + (blk b5 #[.int .i64 ka, .int .i64 kb, .int .i64 kc, .int .i64 kd, .int .i64 0, .int .i64 0] 41 + G)))) → (W.cell? ⟨gb, 3, none⟩ = some (.slice A n c) ∧ W.cell? ⟨bm, 0, none⟩ = some (.int .i64 ka) ∧ W.cell? ⟨bm, 1, none⟩ = some (.int .i64 kb) ∧ W.cell? ⟨bm, 2, none⟩ = some (.int .i64 kc) ∧ W.cell? ⟨bm, 3, none⟩ = some (.int .i64 kd) ∧ W.cell? ⟨bm, 4, none⟩ = some (.int .i64 e) ∧ W.cell? ⟨bm, 5, none⟩ = some (.int .i64 f)) := fun W X h => by
                  have h1 := h.eq (b := blk gb C 69 + (X + (blk bm #[.int .i64 ka, .int .i64 kb, .int .i64 kc, .int .i64 kd, .int .i64 e, .int .i64 f] 41 + (blk b5 #[.int .i64 ka, .int .i64 kb, .int .i64 kc, .int .i64 kd, .int .i64 0, .int .i64 0] 41 + G)))) (by ac_rfl)
                  have h2 := h.eq (b := blk bm #[.int .i64 ka, .int .i64 kb, .int .i64 kc, .int .i64 kd, .int .i64 e, .int .i64 f] 41 + (X + (blk gb C 69 + (blk b5 #[.int .i64 ka, .int .i64 kb, .int .i64 kc, .int .i64 kd, .int .i64 0, .int .i64 0] 41 + G)))) (by ac_rfl)
                  exact ⟨by rw [Hn.out]; exact h1.at_ HP.out.c3, h2.at_ rfl, h2.at_ rfl, h2.at_ rfl, h2.at_ rfl, h2.at_ rfl, h2.at_ rfl⟩
                have Keep := hid keep
                have hS := keep w7.drew ms (K8.out.eq (by rw [MS.zero_add]))
                clear keep
                have hn4 : n ≤ 400 := by rw [Hn.out]; exact listP_len (by have := Hlt.out; omega) (by omega) (by omega) hA6.out hD6.out
                have Hn4 := hid hn4
                clear hn hn4 K7 E7
                refine wp_region_txt (fun W => W.cell? ⟨gb, 3, none⟩ = some (.slice A n c) ∧ W.cell? ⟨bm, 0, none⟩ = some (.int .i64 ka) ∧ W.cell? ⟨bm, 1, none⟩ = some (.int .i64 kb) ∧ W.cell? ⟨bm, 2, none⟩ = some (.int .i64 kc) ∧ W.cell? ⟨bm, 3, none⟩ = some (.int .i64 kd) ∧ W.cell? ⟨bm, 4, none⟩ = some (.int .i64 e) ∧ W.cell? ⟨bm, 5, none⟩ = some (.int .i64 f)) (some 10)
                  [(0, true), (1, true), (2, true), (3, true), (4, true), (5, true), (6, false), (7, false), (8, true), (9, true), (10, false)] (by kernel_rfl) rfl (by kernel_rfl) (by kernel_rfl) (by repeat (first | with_reducible refine PanicOk.thn ?_ | with_reducible refine PanicOk.blk ?_ | exact PanicOk.body _ _ _)) ?_
                repeat
                  (refine txt_quiet ?_ hS rfl rfl (fun W hW => ?_) ?_
                   rotate_left 1
                   · obtain ⟨hW1, hW2, hW3, hW4, hW5, hW6, hW7⟩ := hW
                     go_simp
                     exact rfl
                   simp only [Act.put, List.setIfInBounds_toArray, List.set_cons_zero, List.set_cons_succ])
                refine txt_op rfl rfl ?_
                refine op_run (.slice (some ⟨w7.drew.heap.size, 0, none⟩) 1 1) (w7.drew.alloc (.cells #[.int .i64 ka, .int .i64 kb, .int .i64 kc, .int .i64 kd, .int .i64 e, .int .i64 f] 41)) (by go_simp) ?_
                have hS6 := Keep.out (w7.drew.alloc (.cells #[.int .i64 ka, .int .i64 kb, .int .i64 kc, .int .i64 kd, .int .i64 e, .int .i64 f] 41)) (pts w7.drew.heap.size (.cells #[.int .i64 ka, .int .i64 kb, .int .i64 kc, .int .i64 kd, .int .i64 e, .int .i64 f] 41) + ms) ((K8.out.alloc _).eq (by rw [MS.zero_add]; ac_rfl))
                refine ⟨fun _ => hS6, ?_⟩
                simp only [Act.put, List.setIfInBounds_toArray, List.set_cons_zero, List.set_cons_succ]
                clear hS
                refine txt_op rfl rfl ?_
                refine op_push (.tmp 46) (.tmp 48) row30 rfl (.slice A n c) rfl _ rfl rfl MvR MvR.one MvR.len (listP p g k e f) ⟨ka, kb, kc, kd, e, f⟩ ms 0 _ (by rw [Hn.out]; exact HS.out) (show MvR ⟨ka, kb, kc, kd, e, f⟩ _ 0 from ⟨rfl, rfl⟩) K8.out n Hn.out.symm (by have := Hn4.out; omega) (by omega) ?_
                intro A7 c7 w8 ms7 j4 j5 j6
                have hS7 := Keep.out w8 ms7 j5
                refine ⟨fun _ => hS7, ?_⟩
                simp only [Act.put, List.setIfInBounds_toArray, List.set_cons_zero, List.set_cons_succ]
                clear hS6
                repeat
                  (refine txt_quiet ?_ hS7 rfl rfl (fun W hW => ?_) ?_
                   rotate_left 1
                   · obtain ⟨hW1, hW2, hW3, hW4, hW5, hW6, hW7⟩ := hW
                     go_simp
                     exact rfl
                   simp only [Act.put, List.setIfInBounds_toArray, List.set_cons_zero, List.set_cons_succ])
                refine txt_op rfl rfl ?_
                refine op_store_blk (.tmp 51) (.tmp 49) 30 rfl size30 gb 3 (.slice A7 (n + 1) c7) rfl rfl rfl C 69 _ (j5.eq (b := blk gb C 69 + (ms7 + (blk bm #[.int .i64 ka, .int .i64 kb, .int .i64 kc, .int .i64 kd, .int .i64 e, .int .i64 f] 41 + (blk b5 #[.int .i64 ka, .int .i64 kb, .int .i64 kc, .int .i64 kd, .int .i64 0, .int .i64 0] 41 + G)))) (by ac_rfl)) (by rw [HP.out.sz]; omega) ?_
                intro w9 j7 j8
                refine ⟨fun h => absurd rfl h, ?_⟩
                simp only [Act.put]
                refine txt_done ?_
                have J4 := hid j4
                have H9 := hid j7
                have E9 := hid ((E8.out.trans j6).trans j8)
                have Hl2 := hid (show listP p g k e (f + 1) = listP p g k e f ++ [⟨ka, kb, kc, kd, e, f⟩] by rw [listP_hit Hq.out.symm, Hknd.out])
                have Hoff := hid (show 4 + k * 36 + e * 6 + f < (C.setIfInBounds 3 (.slice A7 (n + 1) c7)).size by rw [Array.size_setIfInBounds, HP.out.sz]; have := Hlt.out; omega)
                clear hS7 j4 j5 j6 j7 j8 K8 E8 Keep
                go_wp2_with (refine wpList_store_blk rfl (.tmp 60) (.const (.bool true)) 4 rfl size4 gb (4 + k * 36 + e * 6 + f) (.bool true) rfl rfl rfl (C.setIfInBounds 3 (.slice A7 (n + 1) c7)) 69 _ H9.out Hoff.out ?_; intro w10 k1 k2; have K10 := hid k1; have E10 := hid (E9.out.trans k2); clear k1 k2)
                go_roundw
                case rel =>
                  have hln : (listP p g k e (f + 1)).length = n + 1 := by rw [Hl2.out, List.length_append, ← Hn.out]; rfl
                  exact ⟨f + 1, _, A7, c7, ms7, HltF.out, by go_num, by rw [hln]; exact HP.out.hit _ Hq.out.symm Hlt.out HltE.out hA6.out HltF.out hD6.out, by rw [hln, Hl2.out]; exact J4.out, (K10.out.eq (b := blk bm #[.int .i64 ka, .int .i64 kb, .int .i64 kc, .int .i64 kd, .int .i64 e, .int .i64 f] 41 + (blk gb ((C.setIfInBounds 3 (.slice A7 (n + 1) c7)).setIfInBounds (4 + k * 36 + e * 6 + f) (.bool true)) 69 + (ms7 + (blk b5 #[.int .i64 ka, .int .i64 kb, .int .i64 kc, .int .i64 kd, .int .i64 0, .int .i64 0] 41 + G)))) (by ac_rfl)).right, E10.out⟩
                case measure => have := HltF.out; simp [intOf]; omega
            · have hfe : f = g.D := by omega
              subst hfe
              clear hlt hfD
              go_wp2
              go_roundw
              case rel => exact ⟨e + 1, C, A, c, ms, HltE.out, by go_num, by rw [← listP_endF]; exact HP.out.endF, by rw [← listP_endF]; exact HS.out, HW.out, HE.out⟩
              case measure => have := HltE.out; simp [intOf]; omega
        · have hee : e = g.A := by omega
          subst hee
          clear hlt heA
          go_wp2
          go_roundw
          case rel => exact ⟨k + 1, C, A, c, ms, Hlt.out, by go_num, by rw [← listP_endE]; exact HP.out.endE, by rw [← listP_endE]; exact HS.out, (HW.out.eq (b := blk b5 #[.int .i64 ka, .int .i64 kb, .int .i64 kc, .int .i64 kd, .int .i64 0, .int .i64 0] 41 + (blk gb C 69 + (ms + G))) (by ac_rfl)).right, HE.out⟩
          case measure => have := Hlt.out; simp [intOf]; omega
    · have hke : k = 8 := by omega
      subst hke
      clear hlt
      go_wp2
      go_ret
      have hl := listP_endK p g
      refine ⟨g, gb, blk gb C 69 + ms, rfl, ⟨Hp.out, Hg.out, MS.at.less (blk_at HP.out.c0) _, MS.at.less (blk_at HP.out.c1) _, MS.at.less (blk_at HP.out.c2) _, fun k' e' f' h1 h2 h3 => ?_, ⟨A, c, ?_, ?_⟩⟩, HW.out.eq (b := (blk gb C 69 + ms) + G) (by ac_rfl) |>.left, HKp.out _ (blk gb C 69 + ms) (HW.out.eq (by ac_rfl)) HE.out⟩
      · have := HP.out.own k' e' f' h1 h2 h3
        have hlt : ltB k' e' f' 8 0 0 = true := by unfold ltB; simp [h1]
        rw [hlt, Bool.and_true] at this
        exact MS.at.less (blk_at this) _
      · rw [← hl]; exact MS.at.less (blk_at HP.out.c3) _
      · rw [← hl]; exact (HS.out.rd (fun a cs m h => h.1)).more _
end Go.Proofs.YteibbnmlmbhkpaaDoor

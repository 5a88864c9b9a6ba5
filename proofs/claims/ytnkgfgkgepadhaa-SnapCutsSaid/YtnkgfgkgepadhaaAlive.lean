/-
  The walk of numbers; sum. The walk of alive.
-/
import Derived.Test.YtnkgfgkgepadhaaAct
import Derived.Deep.QuietTactic
import Derived.BigQuiet
namespace Go.Proofs.Ytnkgfgkgepadhaa
open Go.RowKit
set_option linter.unusedVariables false
set_option linter.unusedSimpArgs false

def numEq : List Int → List Int → Bool
  | [], [] => true
  | a :: l, b :: r => a == b && numEq l r
  | _, _ => false
theorem numEq_iff : ∀ {l r : List Int}, numEq l r = true ↔ l = r
  | [], [] => by simp [numEq]
  | [], _ :: _ => by simp [numEq]
  | _ :: _, [] => by simp [numEq]
  | a :: l, b :: r => by simp [numEq, numEq_iff (l := l) (r := r)]
theorem numEq_self (l : List Int) : numEq l l = true := numEq_iff.2 rfl
theorem numEq_len {l r : List Int} (h : l.length ≠ r.length) : numEq l r = false := by
  cases he : numEq l r with
  | false => rfl
  | true => exact absurd (congrArg List.length (numEq_iff.1 he)) h
theorem numEq_drop {l r : List Int} {t : Nat} {a b : Int} (h1 : l[t]? = some a) (h2 : r[t]? = some b) : numEq (l.drop t) (r.drop t) = (a == b && numEq (l.drop (t + 1)) (r.drop (t + 1))) := by
  obtain ⟨i1, rfl⟩ := List.getElem?_eq_some_iff.1 h1
  obtain ⟨i2, rfl⟩ := List.getElem?_eq_some_iff.1 h2
  rw [List.drop_eq_getElem_cons i1, List.drop_eq_getElem_cons i2]; rfl

set_option maxHeartbeats 1000000 in
theorem numbers_any {F : MS} {l r : List Int} {A A2 : Option Addr} {n n2 c c2 : Nat} {w : World} (h1 : RdS F RT.int l (.slice A n c)) (h2 : RdS F RT.int r (.slice A2 n2 c2)) (hH : Has w F) (hl : l.length ≤ 1000000) (hr : r.length ≤ 1000000) :
    Calls Try.prog 30 #[.slice A n c, .slice A2 n2 c2] w fun e w' => e = .returned (.bool (numEq l r)) ∧ (∀ M, Has w M → Has w' M) ∧ Ext w w' := by
  obtain ⟨rfl, _⟩ := h1.cells
  obtain ⟨rfl, _⟩ := h2.cells
  obtain ⟨q, hq⟩ : ∃ q, q = numEq l r := ⟨_, rfl⟩
  rw [← hq]
  by_cases hlen : l.length = r.length
  · have Hq := hid hq
    have H1 := hid h1
    have H2 := hid h2
    have HH := hid hH
    have hne : ((l.length : Int) != (r.length : Int)) = false := by simp; omega
    have Hlen := hid hlen
    have q3 : (l.length : Int) ≤ 1000000 := by omega
    clear hq h1 h2 hH hlen
    go_enter Try.func30, Try.ntmps30
    go_wp2
    go_loopw [5] (fun v wr => ∃ t : Nat, t ≤ l.length ∧ v = .int .i64 t ∧ numEq l r = numEq (l.drop t) (r.drop t) ∧ (∀ M, Has w M → Has wr M) ∧ Ext w wr) (fun v _ => l.length - (intOf v).toNat)
    case atStart => exact ⟨0, Nat.zero_le _, rfl, rfl, fun _ h => h, Ext.refl w⟩
    case round =>
      obtain ⟨t, ht, rfl, hN, hM, hE⟩ := hrel
      by_cases hlt : t < l.length
      · obtain ⟨x, hx⟩ : ∃ x, l[t]? = some x := ⟨_, List.getElem?_eq_getElem hlt⟩
        obtain ⟨y, hy⟩ : ∃ y, r[t]? = some y := ⟨_, List.getElem?_eq_getElem (by have := Hlen.out; omega)⟩
        have hHF : Has wr (0 + F) := by rw [MS.zero_add]; exact hM F HH.out
        obtain ⟨b1, o1, rfl, e1⟩ := H1.out.getInt hx
        obtain ⟨b2, o2, rfl, e2⟩ := H2.out.getInt hy
        have f1 := e1.cell hHF
        have f2 := e2.cell hHF
        rw [numEq_drop hx hy] at hN
        have HN := hid hN
        have HM := hid hM
        have HE := hid hE
        have Hlt := hid hlt
        have g1 : (t : Int) < l.length := by omega
        have g2 : (t : Int) < r.length := by have := Hlen.out; omega
        have g0 : (0 : Int) ≤ (t : Int) := by omega
        clear hN hM hE hx hy e1 e2 hHF
        cases hxy : (x == y) with
        | true =>
          have hxy' : (x != y) = false := by simp at hxy; simp [hxy]
          have Hxy := hid hxy
          clear hxy
          go_wp2
          go_quiet (fail)
          go_wp2
          go_roundw
          case rel => exact ⟨t + 1, Hlt.out, by go_num, by rw [HN.out, Hxy.out, Bool.true_and], HM.out, HE.out.trans (Ext.drewN _ _)⟩
          case measure => have := Hlt.out; simp [intOf]; omega
        | false =>
          have hxy' : (x != y) = true := by simp at hxy; simp [hxy]
          have Hxy := hid hxy
          clear hxy
          go_wp2
          go_quiet (fail)
          go_wp2
          go_ret
          exact ⟨ret_bool (by rw [Hq.out, HN.out, Hxy.out]; rfl), HM.out, HE.out.trans (Ext.drewN _ _)⟩
      · obtain rfl : t = l.length := by omega
        have HN := hid (show q = true by rw [Hq.out, hN, List.drop_length, List.drop_of_length_le (by have := Hlen.out; omega)]; rfl)
        have HM := hid hM
        have HE := hid hE
        clear hN hM hE
        go_wp2
        go_ret
        exact ⟨ret_bool HN.out.symm, HM.out, HE.out⟩
  · have hq' : q = false := by rw [hq, numEq_len hlen]
    subst hq'
    have hne : ((l.length : Int) != (r.length : Int)) = true := by simp; omega
    clear hq h1 h2 hH hlen
    go_enter Try.func30, Try.ntmps30
    go_wp2
    go_ret
    exact ⟨rfl, fun _ h => h, Ext.refl w⟩
end Go.Proofs.Ytnkgfgkgepadhaa

namespace Go.Proofs.Ytnkgfgkgepadhaa
open Go.RowKit
set_option linter.unusedVariables false
set_option linter.unusedSimpArgs false

theorem Has.of_all {w w' : World} {X F : MS} (h : Has w F) (h' : Has w' (X + MS.all w)) : Has w' F := fun i => by
  obtain ⟨h1, h2, h3⟩ := h i
  obtain ⟨k1, k2, k3⟩ := (h'.right) i
  refine ⟨h1, fun hi => k2 ?_, fun o ho => k3 o (.inl (h3 o ho))⟩
  have := h2 hi
  show 1 ≤ (if _ then _ else _)
  rw [if_pos this]; exact Nat.le_refl _
theorem rdS_two (F : MS) (b : Nat) (x y : Int) : RdS (blk b #[.int .i64 x, .int .i64 y] 3 + F) RT.int [x, y] (.slice (some ⟨b, 0, none⟩) 2 2) :=
  ⟨_, 2, [.int .i64 x, .int .i64 y], rfl, Nat.le_refl _, by simp [maxLen], fun _ => ⟨b, 0, rfl, fun j u hu => blk_at' (by
    rw [Nat.zero_add]
    have : (#[Value.int .i64 x, Value.int .i64 y] : Array Value)[j]? = [Value.int .i64 x, Value.int .i64 y][j]? := by simp
    rw [this]; exact hu) F⟩, ⟨_, _, rfl, ⟨_, _, rfl, rfl, rfl⟩, rfl⟩⟩
theorem rdS_one (F : MS) (b : Nat) (x : Int) : RdS (blk b #[.int .i64 x] 3 + F) RT.int [x] (.slice (some ⟨b, 0, none⟩) 1 1) :=
  ⟨_, 1, [.int .i64 x], rfl, Nat.le_refl _, by simp [maxLen], fun _ => ⟨b, 0, rfl, fun j u hu => blk_at' (by
    rw [Nat.zero_add]
    have : (#[Value.int .i64 x] : Array Value)[j]? = [Value.int .i64 x][j]? := by simp
    rw [this]; exact hu) F⟩, ⟨_, _, rfl, rfl, rfl⟩⟩

def aN0 : Net := Net.new [5, 0]
def aN1 : Net := (aN0.send 0 1 2).2
def aN2 : Net := (aN1.start 1).2.2
def aN3 : Net := (aN2.recv 0 1).2
def aN4 : Net := (aN3.recv 1 0).2
def aN5 : Net := (aN4.recv 0 1).2
def aSh : Shot := ⟨[true, true], [[false, true], [true, false]], [1, 0], [3, 0], [[[], [2]], [[], []]]⟩
theorem aN_facts : newOk [5, 0] ∧ (aN0.send 0 1 2).1 = 0 ∧ (aN1.start 1).1 = 1 ∧ (aN1.start 1).2.1 = 0 ∧ (aN2.recv 0 1).1 = 0 ∧ (aN3.recv 1 0).1 = 0 ∧ (aN4.recv 0 1).1 = 0 ∧ aN5.snapErr 1 = 0 := by
  refine ⟨by decide, by decide +kernel, by decide +kernel, by decide +kernel, by decide +kernel, by decide +kernel, by decide +kernel, by decide +kernel⟩
theorem aN_shot : ∃ x, aN5.shots[0]? = some x ∧ x.pieces = [3, 0] ∧ x.under = [[[], [2]], [[], []]] := ⟨_, rfl, by decide +kernel, by decide +kernel⟩

section
variable {Q : MS}
theorem NetAt.snapErr {F : MS} {σ : Net} {b : Nat} {w : World} (h : NetAt Q F σ b w) (k : Nat) (x : Shot) (hx : σ.shots[k]? = some x) (he : σ.snapErr (k + 1) = 0) :
    Calls Try.prog 21 #[.pointer (some ⟨b, 0, none⟩), .int .i64 (k + 1)] w fun e w' => ∃ A c A' c' mr, e = .returned (.tuple #[.agg #[.slice A x.pieces.length c, .slice A' x.under.length c'], .int .i64 0]) ∧
      RdS mr RT.int x.pieces (.slice A x.pieces.length c) ∧ RdS mr (RT.sl (RT.sl RT.int)) x.under (.slice A' x.under.length c') ∧ NetAt Q (mr + F) σ b w' ∧ Ext w w' := by
  obtain ⟨h0, Pl, ps, m, h1, h2⟩ := h
  refine (snapshot_yes (Pl + Q) ((Pl + Q) + F) σ ps b m w h0 h1 h2 k x hx he).mono ?_
  rintro e w' ⟨A, c, A', c', mr, mr', rfl, k1, k2, k3, k4⟩
  exact ⟨A, c, A', c', mr + mr', rfl, k1.rdS.less mr', k2.rdS.more mr, ⟨h0, Pl, ps, m, h1, k3.eq (by ac_rfl)⟩, k4⟩
theorem NetAt.frame {F G : MS} {σ : Net} {b : Nat} {w : World} (h : NetAt Q (G + F) σ b w) : NetAt Q F σ b w := h.beside

end
set_option maxHeartbeats 2000000 in
set_option maxRecDepth 100000 in
theorem alive_any (w : World) : Calls Try.prog 14 #[] w fun e w' => e = .returned (.bool true) ∧ (∀ M, Has w M → Has w' M) ∧ Ext w w' := by
  obtain ⟨q0, q1, q2, q3, q4, q5, q6, q7⟩ := aN_facts
  obtain ⟨x, hx, x1, x2⟩ := aN_shot
  have H0 := hid (fun o => (Has.all w).alloc o)
  have hnew := hid (fun (W : World) (b : Nat) (h : Has W (pts b (.cells #[.int .i64 5, .int .i64 0] 3) + MS.all w)) => new_net (rdS_two (MS.all w) b 5 0) h q0)
  have Hq := hid q0
  have Hx := hid hx
  have Hx12 := hid (And.intro x1 x2)
  have hN0 : Net.new [5, 0] = aN0 := rfl
  have hN1 : (aN0.send 0 1 2).2 = aN1 := rfl
  have hN2 : (aN1.start 1).2.2 = aN2 := rfl
  have hN3 : (aN2.recv 0 1).2 = aN3 := rfl
  have hN4 : (aN3.recv 1 0).2 = aN4 := rfl
  have hN5 : (aN4.recv 0 1).2 = aN5 := rfl
  have HS1 := hid (And.intro q1 hN1)
  have HS2 := hid (And.intro q2 (And.intro q3 hN2))
  have HS3 := hid (And.intro q4 hN3)
  have HS4 := hid (And.intro q5 hN4)
  have HS5 := hid (And.intro q6 hN5)
  have HS6 := hid q7
  have HN0 := hid hN0
  clear q0 q1 q2 q3 q4 q5 q6 q7 hx x1 x2 hN0 hN1 hN2 hN3 hN4 hN5
  go_enter Try.func14, Try.ntmps14
  go_wp2_with (go_at_call 24; refine (hnew.out _ _ (H0.out _)).mono ?_; rintro e w1 ⟨b, rfl, k1, k2⟩; have K0 := hid k1; have E0 := hid k2; clear k1 k2)
  refine (send_net (show NetAt 0 _ aN0 b w1 from K0.out) 0 1 2).mono ?_
  rintro e w2 ⟨rfl, k1, k2⟩
  rw [HS1.out.1]
  have K1 := hid (show NetAt 0 _ aN1 b w2 from k1); have E1 := hid k2; clear k1 k2
  go_wp2_with fail
  refine (start_net K1.out 1).mono ?_
  rintro e w3 ⟨rfl, k1, k2⟩
  rw [HS2.out.1, HS2.out.2.1]
  have K2 := hid (show NetAt 0 _ aN2 b w3 from k1); have E2 := hid k2; clear k1 k2
  go_wp2_with fail
  refine (recv_net K2.out 0 1).mono ?_
  rintro e w4 ⟨rfl, k1, k2⟩
  rw [HS3.out.1]
  have K3 := hid (show NetAt 0 _ aN3 b w4 from k1); have E3 := hid k2; clear k1 k2
  go_wp2_with fail
  refine (recv_net K3.out 1 0).mono ?_
  rintro e w5 ⟨rfl, k1, k2⟩
  rw [HS4.out.1]
  have K4 := hid (show NetAt 0 _ aN4 b w5 from k1); have E4 := hid k2; clear k1 k2
  go_wp2_with fail
  refine (recv_net K4.out 0 1).mono ?_
  rintro e w6 ⟨rfl, k1, k2⟩
  rw [HS5.out.1]
  have K5 := hid (show NetAt 0 _ aN5 b w6 from k1); have E5 := hid k2; clear k1 k2
  go_wp2_with fail
  refine (K5.out.snapErr 0 x Hx.out HS6.out).mono ?_
  rintro e w7 ⟨A, c, A', c', mr, rfl, k1, k2, k3, k4⟩
  obtain ⟨r1, r2⟩ := Hx12.out
  rw [r1] at k1 ⊢
  rw [r2] at k2 ⊢
  simp only [List.length_cons, List.length_nil, Nat.zero_add, Nat.reduceAdd] at k1 k2 ⊢
  have K6 := hid k3; have E6 := hid k4; clear k3 k4
  have hF : Has w7 (mr + (pts w.heap.size (.cells #[.int .i64 5, .int .i64 0] 3) + MS.all w)) := K6.out.has
  obtain ⟨b1, o1, A1, c1, rfl, e1, k3, _⟩ := k2.getSl (i := 0) (a := [[], [2]]) rfl
  obtain ⟨b2, o2, A2, c2, rfl, e2, k4, _⟩ := k3.getSl (i := 1) (a := [2]) rfl
  simp only [List.length_cons, List.length_nil, Nat.zero_add, Nat.reduceAdd, Nat.add_zero] at e1 e2 k3 k4
  have f1 : ∀ W X, Has W (X + (mr + (pts w.heap.size (.cells #[.int .i64 5, .int .i64 0] 3) + MS.all w))) → W.cell? ⟨b1, o1, none⟩ = some (.slice (some ⟨b2, o2, none⟩) 2 c1) ∧ W.cell? ⟨b2, o2 + 1, none⟩ = some (.slice A2 1 c2) := fun W X h =>
    ⟨(e1.less _).cell h, (e2.less _).cell h⟩
  have F1 := hid f1
  have Hk1 := hid k1
  have Hk4 := hid k4
  have HF := hid hF
  clear f1 hF k1 k2 k3 k4 e1 e2
  go_wp2_with fail
  have H8 : Has ((w7.alloc (.cells #[.slice A 2 c, .slice (some ⟨b1, o1, none⟩) 2 c'] 38)).alloc (.cells #[.int .i64 3, .int .i64 0] 3)) (blk (w7.heap.size + 1) #[.int .i64 3, .int .i64 0] 3 + (blk w7.heap.size #[.slice A 2 c, .slice (some ⟨b1, o1, none⟩) 2 c'] 38 + (mr + (pts w.heap.size (.cells #[.int .i64 5, .int .i64 0] 3) + MS.all w)))) := by
    have := (HF.out.alloc (.cells #[.slice A 2 c, .slice (some ⟨b1, o1, none⟩) 2 c'] 38)).alloc (.cells #[.int .i64 3, .int .i64 0] 3)
    rw [show (w7.alloc (.cells #[.slice A 2 c, .slice (some ⟨b1, o1, none⟩) 2 c'] 38)).heap.size = w7.heap.size + 1 by simp] at this
    exact this
  refine (numbers_any (l := [3, 0]) (r := [3, 0]) (((Hk1.out.less _).more _).more _) (rdS_two _ _ 3 0) H8 (by simp) (by simp)).mono ?_
  rintro e w8 ⟨rfl, j1, j2⟩
  rw [numEq_self]
  have H9 := j1 _ H8
  have H9' := hid H9.right
  have J2 := hid (((Ext.alloc w7 (.cells #[.slice A 2 c, .slice (some ⟨b1, o1, none⟩) 2 c'] 38)).trans (Ext.alloc _ (.cells #[.int .i64 3, .int .i64 0] 3))).trans j2)
  have g0 : w8.cell? ⟨w7.heap.size, 0, none⟩ = some (.slice A 2 c) := H9.right.at_ rfl
  have g1 : w8.cell? ⟨w7.heap.size, 1, none⟩ = some (.slice (some ⟨b1, o1, none⟩) 2 c') := H9.right.at_ rfl
  obtain ⟨g2, g3⟩ := F1.out w8 (blk (w7.heap.size + 1) #[.int .i64 3, .int .i64 0] 3 + blk w7.heap.size #[.slice A 2 c, .slice (some ⟨b1, o1, none⟩) 2 c'] 38) (H9.eq (by ac_rfl))
  clear H8 j1 j2 H9
  go_wp2_with fail
  have H10 := H9'.out.alloc (.cells #[.int .i64 2] 3)
  refine (numbers_any (l := [2]) (r := [2]) ((((Hk4.out.less _).more _).more _)) (rdS_one _ _ 2) H10 (by simp) (by simp)).mono ?_
  rintro e w9 ⟨rfl, j1, j2⟩
  rw [numEq_self]
  have H11 := hid (j1 _ H10)
  have J3 := hid ((Ext.alloc w8 (.cells #[.int .i64 2] 3)).trans j2)
  clear H10 j1 j2 g0 g1 g2 g3
  go_wp2_with fail
  go_ret
  exact ⟨rfl, fun M hM => hM.of_all (H11.out.eq (b := (pts w8.heap.size (.cells #[.int .i64 2] 3) + (blk w7.heap.size #[.slice A 2 c, .slice (some ⟨b1, o1, none⟩) 2 c'] 38 + (mr + pts w.heap.size (.cells #[.int .i64 5, .int .i64 0] 3)))) + MS.all w) (by ac_rfl)),
    ((((((((Ext.alloc _ _).trans E0.out).trans E1.out).trans E2.out).trans E3.out).trans E4.out).trans E5.out).trans E6.out).trans (J2.out.trans J3.out)⟩

/-- What every law here gives. -/
def LawPost (w : World) (F : MS) (e : Ending) (w' : World) : Prop := e = .returned (.bool true) ∧ Has w' F ∧ Ext w w'
end Go.Proofs.Ytnkgfgkgepadhaa

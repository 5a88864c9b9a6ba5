/-
  The walks of Lattice, Symmetries, Group.
-/
import Derived.Test.YteibbnmlmbhkpaaDoorPName3
namespace Go.Proofs.YteibbnmlmbhkpaaDoor
open Go.RowKit
set_option linter.unusedVariables false
set_option linter.unusedSimpArgs false
set_option maxHeartbeats 2000000
set_option maxRecDepth 100000

theorem name_any {F : MS} {p : List ByteArray} {g : Gd} {gb : Nat} {w : World} (h : PGr F p g gb) (hk : KinOk F) (hH : Has w F) :
    Calls Tryd.prog 38 #[.pointer (some ⟨gb, 0, none⟩)] w fun e w' => e = .returned (.string (nameOf p g)) ∧ Kp w w' := by
  by_cases ha : anyL p g
  · rcases ordOf_cases (symL p g) with h1 | h1 | h1
    · exact name_one h hk ha h1 hH
    · exact name_two h hk ha h1 hH
    · exact name_four h hk ha h1 hH
  · exact name_none h hk ha hH
/-- What is given: strings that can be read. -/
structure Giv (F : MS) (p : List ByteArray) (A : Option Addr) (c : Nat) : Prop where
  rd : RdS F RT.str p (.slice A p.length c)
  l : p.length ≤ 1000
  s : ∀ s ∈ p, s.size ≤ 1000000
theorem Lattice_any {F : MS} {p : List ByteArray} {A : Option Addr} {c : Nat} {w : World} (h : Giv F p A c) (hH : Has w F) :
    Calls Tryd.prog 10 #[.slice A p.length c] w fun e w' => ∃ g er, e = .returned (.tuple #[.agg #[.int .i64 g.A, .int .i64 g.B, .int .i64 g.D], .int .i64 er]) ∧ Kp w w' ∧ (isPat p = true → IsLat p g ∧ er = 0) ∧ (isPat p = false → g = ⟨0, 0, 0⟩ ∧ er = 2) := by
  obtain ⟨W1, hW1⟩ : ∃ W1, W1 = w.alloc (.cells #[.int .i64 0, .int .i64 0, .int .i64 0] 26) := ⟨_, rfl⟩
  have HA := hid (show Has W1 (blk w.heap.size #[.int .i64 0, .int .i64 0, .int .i64 0] 26 + MS.all w) by rw [hW1]; exact (Has.all w).alloc _)
  have HE := hid (show Ext w W1 by rw [hW1]; exact Ext.alloc w _)
  have Hof := hid (of_any h.rd h.l h.s (hH.of_all HA.out))
  rw [hW1] at Hof
  clear h hH
  cases hp : isPat p with
  | false =>
    have Hp := hid hp
    rw [hp] at Hof
    clear hp
    go_enter Tryd.func10, Tryd.ntmps10
    go_wp2_with (first
      | (go_at_call 33; refine Hof.out.mono ?_; rintro e1 w1 ⟨r, rfl, k1, _⟩; rw [← hW1] at k1; have K1 := hid (k1.1 _ HA.out); have E1 := hid (HE.out.trans k1.2); clear k1)
      | (refine wpList_store_whole rfl (.tmp 2) (.tmp 13) 26 rfl 3 size26 w.heap.size (.agg #[.int .i64 0, .int .i64 0, .int .i64 0]) rfl rfl rfl (by simp [Value.cells, Value.oneCell']) #[.int .i64 0, .int .i64 0, .int .i64 0] 26 _ K1.out rfl ?_; intro w6 k1 k2; have K6 := hid (show Has w6 (blk w.heap.size #[.int .i64 0, .int .i64 0, .int .i64 0] 26 + MS.all w) from k1); have E6 := hid (E1.out.trans k2); clear k1 k2))
    have q0 : w6.cell? ⟨w.heap.size, 0, none⟩ = some (.int .i64 0) := K6.out.at_ rfl
    have q1 : w6.cell? ⟨w.heap.size, 1, none⟩ = some (.int .i64 0) := K6.out.at_ rfl
    have q2 : w6.cell? ⟨w.heap.size, 2, none⟩ = some (.int .i64 0) := K6.out.at_ rfl
    exact bodyPost_ret (v := .tuple #[.agg #[.int .i64 0, .int .i64 0, .int .i64 0], .int .i64 2]) (by simp [results, Tryd.results10, go_sem, q0, q1, q2]) rfl
      ⟨⟨0, 0, 0⟩, 2, rfl, ⟨fun M hM => hM.of_all K6.out, E6.out⟩, fun h => absurd h (by decide), fun _ => ⟨rfl, rfl⟩⟩
  | true =>
    have Hp := hid hp
    rw [hp] at Hof
    have Hlat := hid (fun (W : World) (X : MS) (fb : Nat) (hf : Flo X p fb) (hW : Has W X) => lattice_any hf (isPat.ok hp).1 hW)
    clear hp
    go_enter Tryd.func10, Tryd.ntmps10
    go_wp2_with (first
      | (go_at_call 33; refine Hof.out.mono ?_; rintro e1 w1 ⟨r, rfl, k1, kf⟩; rw [← hW1] at k1; obtain ⟨fb, X, rfl, kX, kF⟩ := kf rfl; have K1 := hid (k1.1 _ HA.out); have E1 := hid (HE.out.trans k1.2); have KX := hid kX; have KF := hid kF; clear k1 kX kF kf)
      | (go_at_call 34; refine (Hlat.out _ X fb KF.out KX.out).mono ?_; rintro e2 w2 ⟨g, hg, rfl, k2⟩; have Hg := hid hg; have K2 := hid (k2.1 _ K1.out); have E2 := hid (E1.out.trans k2.2); clear hg k2)
      | (refine wpList_store_whole rfl (.tmp 2) (.tmp 15) 26 rfl 3 size26 w.heap.size (.agg #[.int .i64 g.A, .int .i64 g.B, .int .i64 g.D]) rfl rfl rfl (by simp [Value.cells, Value.oneCell']) #[.int .i64 0, .int .i64 0, .int .i64 0] 26 _ K2.out rfl ?_; intro w6 k1 k2; have K6 := hid (show Has w6 (blk w.heap.size #[.int .i64 g.A, .int .i64 g.B, .int .i64 g.D] 26 + MS.all w) from k1); have E6 := hid (E2.out.trans k2); clear k1 k2))
    have q0 : w6.cell? ⟨w.heap.size, 0, none⟩ = some (.int .i64 g.A) := K6.out.at_ rfl
    have q1 : w6.cell? ⟨w.heap.size, 1, none⟩ = some (.int .i64 g.B) := K6.out.at_ rfl
    have q2 : w6.cell? ⟨w.heap.size, 2, none⟩ = some (.int .i64 g.D) := K6.out.at_ rfl
    exact bodyPost_ret (v := .tuple #[.agg #[.int .i64 g.A, .int .i64 g.B, .int .i64 g.D], .int .i64 0]) (by simp [results, Tryd.results10, go_sem, q0, q1, q2]) rfl
      ⟨g, 0, rfl, ⟨fun M hM => hM.of_all K6.out, E6.out⟩, fun _ => ⟨Hg.out, rfl⟩, fun h => absurd h (by decide)⟩
theorem Symmetries_any {F : MS} {p : List ByteArray} {A : Option Addr} {c : Nat} {w : World} (h : Giv F p A c) (hk : KinOk F) (hH : Has w F) :
    Calls Tryd.prog 12 #[.slice A p.length c] w fun e w' => ∃ A' c' l er X, e = .returned (.tuple #[.slice A' l.length c', .int .i64 er]) ∧ Kp w w' ∧ Has w' X ∧ RdS X RT.mv l (.slice A' l.length c') ∧ (isPat p = true → (∃ g, IsLat p g ∧ l = symL p g) ∧ er = 0) ∧ (isPat p = false → l = [] ∧ er = 2) := by
  have Hof := hid (of_any h.rd h.l h.s hH)
  have Hk := hid hk
  have HH := hid hH
  clear h hH hk
  cases hp : isPat p with
  | false =>
    rw [hp] at Hof
    clear hp
    go_enter Tryd.func12, Tryd.ntmps12
    go_wp2_with (go_at_call 33; refine Hof.out.mono ?_; rintro e1 w1 ⟨r, rfl, k1, _⟩; have K1 := hid k1; clear k1)
    go_ret2
    exact ⟨none, 0, [], 2, MS.all w1, rfl, K1.out, Has.all _, RdS.nil _ _, fun h => absurd h (by decide), fun _ => ⟨rfl, rfl⟩⟩
  | true =>
    rw [hp] at Hof
    have Hgr := hid (fun (W : World) (X : MS) (fb : Nat) (hf : Flo X p fb) (hW : Has W X) (hF : Has W F) => group_any (hf.all hW) (isPat.ok hp).1 (Hk.out.all hF) (Has.all W))
    clear hp
    go_enter Tryd.func12, Tryd.ntmps12
    go_wp2_with (first
      | (go_at_call 33; refine Hof.out.mono ?_; rintro e1 w1 ⟨r, rfl, k1, kf⟩; obtain ⟨fb, X, rfl, kX, kF⟩ := kf rfl; have K1 := hid k1; have KX := hid kX; have KF := hid kF; clear k1 kX kF kf)
      | (go_at_call 36; refine (Hgr.out _ X fb KF.out KX.out (K1.out.1 _ HH.out)).mono ?_; rintro e2 w2 ⟨g, gb, Y, rfl, hg, hY, k2⟩; obtain ⟨A', c', ha1, ha2⟩ := hg.all; have Hg := hid hg; have HY := hid hY; have Ha2 := hid ha2; have K2 := hid (K1.out.trans k2); have f3 := ha1.c0 hY; clear hg hY k2 ha1 ha2))
    go_ret2
    exact ⟨A', c', symL p g, 0, Y, rfl, K2.out, HY.out, Ha2.out, fun _ => ⟨⟨g, Hg.out.lat, rfl⟩, rfl⟩, fun h => absurd h (by decide)⟩
theorem Group_any {F : MS} {p : List ByteArray} {A : Option Addr} {c : Nat} {w : World} (h : Giv F p A c) (hk : KinOk F) (hH : Has w F) :
    Calls Tryd.prog 15 #[.slice A p.length c] w fun e w' => ∃ nm er, e = .returned (.tuple #[.string nm, .int .i64 er]) ∧ Kp w w' ∧ (isPat p = true → (∃ g, IsLat p g ∧ nm = nameOf p g) ∧ er = 0) ∧ (isPat p = false → nm = txt [] ∧ er = 2) := by
  have Hof := hid (of_any h.rd h.l h.s hH)
  have Hk := hid hk
  have HH := hid hH
  clear h hH hk
  cases hp : isPat p with
  | false =>
    rw [hp] at Hof
    clear hp
    go_enter Tryd.func15, Tryd.ntmps15
    go_wp2_with (go_at_call 33; refine Hof.out.mono ?_; rintro e1 w1 ⟨r, rfl, k1, _⟩; have K1 := hid k1; clear k1)
    go_ret2
    exact ⟨_, 2, rfl, K1.out, fun h => absurd h (by decide), fun _ => ⟨rfl, rfl⟩⟩
  | true =>
    rw [hp] at Hof
    have Hgr := hid (fun (W : World) (X : MS) (fb : Nat) (hf : Flo X p fb) (hW : Has W X) (hF : Has W F) => group_any (hf.all hW) (isPat.ok hp).1 (Hk.out.all hF) (Has.all W))
    clear hp
    go_enter Tryd.func15, Tryd.ntmps15
    go_wp2_with (first
      | (go_at_call 33; refine Hof.out.mono ?_; rintro e1 w1 ⟨r, rfl, k1, kf⟩; obtain ⟨fb, X, rfl, kX, kF⟩ := kf rfl; have K1 := hid k1; have KX := hid kX; have KF := hid kF; clear k1 kX kF kf)
      | (go_at_call 36; refine (Hgr.out _ X fb KF.out KX.out (K1.out.1 _ HH.out)).mono ?_; rintro e2 w2 ⟨g, gb, Y, rfl, hg, hY, k2⟩; have Hg := hid (hg.all' hY); have K2 := hid (K1.out.trans k2); clear hY k2)
      | (go_at_call 38; refine (name_any Hg.out (Hk.out.all (K2.out.1 _ HH.out)) (Has.all _)).mono ?_; rintro e3 w3 ⟨rfl, k3⟩; have K3 := hid (K2.out.trans k3); clear k3))
    go_ret2
    exact ⟨nameOf p g, 0, rfl, K3.out, fun _ => ⟨⟨g, Hg.out.lat, rfl⟩, rfl⟩, fun h => absurd h (by decide)⟩
end Go.Proofs.YteibbnmlmbhkpaaDoor

/-
  The walk of alive.
-/
import Derived.Test.YteibbnmlmbhkpaaDoorPW12
import Derived.Test.YteibbnmlmbhkpaaDoorPAlive
namespace Go.Proofs.YteibbnmlmbhkpaaDoor
open Go.RowKit
set_option linter.unusedVariables false
set_option linter.unusedSimpArgs false
set_option maxHeartbeats 2000000
set_option maxRecDepth 100000

theorem Kp.has {w w' : World} {M : MS} (h : Kp w w') (hM : Has w M) : Has w' M := h.1 M hM
theorem rowsQ_strs (F : MS) : ∀ (l : List ByteArray), RowsQ (RT.str.rel F) l (l.map Value.string)
  | [] => rfl
  | s :: l => ⟨[.string s], _, rfl, rowsQ_strs F l, rfl⟩
theorem rds_strs (l : List ByteArray) (b : Nat) (hl : l.length ≤ 1000) : RdS (blk b (l.map Value.string).toArray 9) RT.str l (.slice (some ⟨b, 0, none⟩) l.length l.length) :=
  ⟨_, _, l.map Value.string, rfl, Nat.le_refl _, by simp only [maxLen]; omega, fun _ => ⟨b, 0, rfl, fun j u hu => blk_at (by rw [Nat.zero_add]; simpa using hu)⟩, rowsQ_strs _ l⟩
theorem giv_strs {F : MS} {l : List ByteArray} {b : Nat} (hl : l.length ≤ 1000) (hs : ∀ s ∈ l, s.size ≤ 1000000) : Giv (blk b (l.map Value.string).toArray 9 + F) l (some ⟨b, 0, none⟩) l.length :=
  ⟨(rds_strs l b hl).less F, hl, hs⟩
theorem group_lit {F : MS} {w : World} (hk : KinOk F) (hH : Has w F) (l : List ByteArray) (g : Gd) (hl : l.length ≤ 1000) (hs : ∀ s ∈ l, s.size ≤ 1000000) (hp : isPat l = true) (hg : IsLat l g) :
    Calls Tryd.prog 15 #[.slice (some ⟨w.heap.size, 0, none⟩) l.length l.length] (w.alloc (.cells (l.map Value.string).toArray 9)) fun e w' => e = .returned (.tuple #[.string (nameOf l g), .int .i64 0]) ∧ Kp w w' := by
  have hA := hH.alloc (.cells (l.map Value.string).toArray 9)
  refine (Group_any (F := blk w.heap.size (l.map Value.string).toArray 9 + F) (giv_strs hl hs) (hk.more _) hA).mono ?_
  rintro e w' ⟨nm, er, rfl, k1, k2, _⟩
  obtain ⟨⟨g', hg', rfl⟩, rfl⟩ := k2 hp
  rw [hg.uniq hg']
  exact ⟨rfl, Kp.trans ⟨fun M hM => hM.of_all ((Has.all w).alloc _), Ext.alloc _ _⟩ k1⟩
theorem lattice_lit {F : MS} {w : World} (hH : Has w F) (l : List ByteArray) (g : Gd) (hl : l.length ≤ 1000) (hs : ∀ s ∈ l, s.size ≤ 1000000) (hp : isPat l = true) (hg : IsLat l g) :
    Calls Tryd.prog 10 #[.slice (some ⟨w.heap.size, 0, none⟩) l.length l.length] (w.alloc (.cells (l.map Value.string).toArray 9)) fun e w' => e = .returned (.tuple #[.agg #[.int .i64 g.A, .int .i64 g.B, .int .i64 g.D], .int .i64 0]) ∧ Kp w w' := by
  have hA := hH.alloc (.cells (l.map Value.string).toArray 9)
  refine (Lattice_any (F := blk w.heap.size (l.map Value.string).toArray 9 + F) (giv_strs hl hs) hA).mono ?_
  rintro e w' ⟨g', er, rfl, k1, k2, _⟩
  obtain ⟨hg', rfl⟩ := k2 hp
  rw [hg.uniq hg']
  exact ⟨rfl, Kp.trans ⟨fun M hM => hM.of_all ((Has.all w).alloc _), Ext.alloc _ _⟩ k1⟩
theorem alive_any {F : MS} {w : World} (hk : KinOk F) (hH : Has w F) :
    Calls Tryd.prog 9 #[] w fun e w' => e = .returned (.bool true) ∧ Kp w w' := by
  have HG1 := hid (fun (W : World) (hW : Has W F) => show Calls Tryd.prog 15 #[.slice (some ⟨W.heap.size, 0, none⟩) 2 2] (W.alloc (.cells #[.string ⟨#[97, 98]⟩, .string ⟨#[98, 97]⟩] 9)) fun e w' => e = .returned (.tuple #[.string ⟨#[112, 52, 109]⟩, .int .i64 0]) ∧ Kp W w' from by
    have := group_lit hk hW P1 G1 (by decide) (by decide +kernel) isPat1 lat1
    rw [nameOf1] at this
    exact this)
  have HG2 := hid (fun (W : World) (hW : Has W F) => show Calls Tryd.prog 15 #[.slice (some ⟨W.heap.size, 0, none⟩) 3 3] (W.alloc (.cells #[.string ⟨#[97, 98, 99]⟩, .string ⟨#[99, 97, 98]⟩, .string ⟨#[98, 99, 97]⟩] 9)) fun e w' => e = .returned (.tuple #[.string ⟨#[99, 109]⟩, .int .i64 0]) ∧ Kp W w' from by
    have := group_lit hk hW P2 G2 (by decide) (by decide +kernel) isPat2 lat2
    rw [nameOf2] at this
    exact this)
  have HL1 := hid (fun (W : World) (hW : Has W F) => show Calls Tryd.prog 10 #[.slice (some ⟨W.heap.size, 0, none⟩) 2 2] (W.alloc (.cells #[.string ⟨#[97, 98]⟩, .string ⟨#[98, 97]⟩] 9)) fun e w' => e = .returned (.tuple #[.agg #[.int .i64 1, .int .i64 1, .int .i64 2], .int .i64 0]) ∧ Kp W w' from
    lattice_lit hW P1 G1 (by decide) (by decide +kernel) isPat1 lat1)
  have HH := hid hH
  clear hk hH
  go_enter Tryd.func9, Tryd.ntmps9
  go_wp2_with (first
    | (go_at_call 10; refine (HL1.out _ (K2.out.1 _ HH.out)).mono ?_; rintro e3 w3 ⟨rfl, k3⟩; have K3 := hid (K2.out.trans k3); clear k3)
    | (go_at_call 15; with_reducible refine (HG1.out _ HH.out).mono ?_; rintro e1 w1 ⟨rfl, k1⟩; have K1 := hid k1; clear k1)
    | (go_at_call 15; with_reducible refine (HG2.out _ (K1.out.has HH.out)).mono ?_; rintro e2 w2 ⟨rfl, k2⟩; have K2 := hid (K1.out.trans k2); clear k2))
  go_ret
  exact ⟨rfl, fun M hM => (K3.out.1 M hM).of_all ((Has.all w3).alloc _), K3.out.2.trans (Ext.alloc _ _)⟩
end Go.Proofs.YteibbnmlmbhkpaaDoor

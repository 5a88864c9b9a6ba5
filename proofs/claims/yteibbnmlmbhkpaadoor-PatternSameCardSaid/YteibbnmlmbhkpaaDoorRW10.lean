/-
  The walks of the reference's group and Group.
-/
import Derived.Test.YteibbnmlmbhkpaaDoorRW9
namespace Go.Proofs.YteibbnmlmbhkpaaDoor
open Go.RowKit
set_option linter.unusedVariables false
set_option linter.unusedSimpArgs false
set_option maxHeartbeats 2000000
set_option maxRecDepth 100000

theorem spL_in14 {p : List ByteArray} {g : Gd} (hp : PatOk p) (hg : IsLat p g) : ∀ m ∈ spL g (symL p g), In14 m := fun m hm => by
  obtain ⟨k, e, f, hk, he, hf, rfl, _⟩ := (mem_spL hp hg m).1 hm
  exact ⟨k, e, f, hk, he, hf, rfl⟩
theorem refGroup_any {F : MS} {p : List ByteArray} {A : Option Addr} {c : Nat} {w : World} (hr : RdS F RT.str p (.slice A p.length c)) (hp : PatOk p) (hH : Has w F) :
    Calls Tryd.prog 39 #[.slice A p.length c] w fun e w' => ∃ g, IsLat p g ∧ e = .returned (.string (nameOf p g)) ∧ Kp w w' := by
  have Hsp := hid (spread_any hr hp hH)
  have Hp := hid hp
  clear hr hp hH
  go_enter Tryd.func39, Tryd.ntmps39
  go_wp2_with (first
    | (go_at_call 70; refine Hsp.out.mono ?_; rintro e1 w1 ⟨g, A1, c1, X, rfl, hg, hr1, hX, k1⟩; have Hg := hid hg; have HX := hid hX; have K1 := hid k1; have Hl := hid (show (spL g (symL p g)).length ≤ 900000 from spL_len (symL_len (by have := hg.a6 Hp.out; omega) (by have := hg.a6 Hp.out; omega))); have Hin := hid (spL_in14 Hp.out hg); have Hr1 := hid hr1; have Hnm := hid (fun o fl mi a4 a5 a6 a7 al tu h => name_eq (o := o) (fl := fl) (mi := mi) (a4 := a4) (a5 := a5) (a6 := a6) (a7 := a7) (al := al) (tu := tu) Hp.out hg h); generalize spL g (symL p g) = L at *; clear hg hX k1 hr1)
    | (go_at_call 71; refine (look_any Hr1.out (by have := Hl.out; omega) Hin.out HX.out).mono ?_; rintro e2 w2 ⟨o, fl, mi, a4, a5, a6, a7, al, tu, hga, rfl, k2⟩; have Hga := hid hga; have K2 := hid (K1.out.trans k2); have HX2 := hid (k2.1 _ HX.out); clear hga k2; have HA := hid (show Has (w2.alloc (.cells #[.int .i64 o, .bool fl, .bool mi, .bool false, .bool false, .bool false, .bool false, .bool a4, .bool a5, .bool a6, .bool a7, .bool al, .bool tu] 116)) (blk w2.heap.size #[.int .i64 o, .bool fl, .bool mi, .bool false, .bool false, .bool false, .bool false, .bool a4, .bool a5, .bool a6, .bool a7, .bool al, .bool tu] 116 + MS.all w2) from (Has.all w2).alloc _); have KA := hid (show Kp w (w2.alloc (.cells #[.int .i64 o, .bool fl, .bool mi, .bool false, .bool false, .bool false, .bool false, .bool a4, .bool a5, .bool a6, .bool a7, .bool al, .bool tu] 116)) from K2.out.trans ⟨fun M hM => hM.of_all HA.out, Ext.alloc _ _⟩); have HN := hid (Hnm.out o fl mi a4 a5 a6 a7 al tu Hga.out))
    | (go_at_call 72; refine (parallel_any o fl mi a4 a5 a6 a7 al tu _).mono ?_; rintro e3 w3 ⟨rfl, k3⟩; have K3 := hid (KA.out.trans k3); have f11 : w3.cell? ⟨w2.heap.size, 11, none⟩ = some (.bool al) := (k3.1 _ HA.out).at_ rfl; clear k3)
    | (go_at_call 73; refine (own_any Hr1.out (by have := Hl.out; omega) Hin.out (HX2.out.of_all HA.out)).mono ?_; rintro e3 w3 ⟨rfl, k3⟩; have K3 := hid (KA.out.trans k3); clear k3))
  · have x0 : (o == 4) = true := ‹(o == 4) = true›
    rw [beq_iff_eq] at x0
    have x1 : (!fl) = true := ‹(!fl) = true›
    rw [Bool.not_eq_true'] at x1
    have hn : nameG o fl mi a4 a5 a6 a7 al tu (ownL L) = txt [112, 52] := by unfold nameG; simp [x0, x1]
    go_ret
    exact ⟨g, Hg.out, by rw [← HN.out, hn]; rfl, KA.out⟩
  · have x0 : (o == 4) = true := ‹(o == 4) = true›
    rw [beq_iff_eq] at x0
    have x1 : (!fl) = false := ‹(!fl) = false›
    rw [Bool.not_eq_false'] at x1
    have x2 : tu = true := ‹tu = true›
    have hn : nameG o fl mi a4 a5 a6 a7 al tu (ownL L) = txt [112, 52, 109] := by unfold nameG; simp [x0, x1, x2]
    go_ret
    exact ⟨g, Hg.out, by rw [← HN.out, hn]; rfl, KA.out⟩
  · have x0 : (o == 4) = true := ‹(o == 4) = true›
    rw [beq_iff_eq] at x0
    have x1 : (!fl) = false := ‹(!fl) = false›
    rw [Bool.not_eq_false'] at x1
    have x2 : tu = false := ‹tu = false›
    have hn : nameG o fl mi a4 a5 a6 a7 al tu (ownL L) = txt [112, 52, 103] := by unfold nameG; simp [x0, x1, x2]
    go_ret
    exact ⟨g, Hg.out, by rw [← HN.out, hn]; rfl, KA.out⟩
  · have x0 : (o == 4) = false := ‹(o == 4) = false›
    rw [beq_eq_false_iff_ne] at x0
    have x1 : (o == 2) = true := ‹(o == 2) = true›
    rw [beq_iff_eq] at x1
    have x2 : (!fl) = true := ‹(!fl) = true›
    rw [Bool.not_eq_true'] at x2
    have hn : nameG o fl mi a4 a5 a6 a7 al tu (ownL L) = txt [112, 50] := by unfold nameG; simp [x0, x1, x2]
    go_ret
    exact ⟨g, Hg.out, by rw [← HN.out, hn]; rfl, KA.out⟩
  · have x0 : (o == 4) = false := ‹(o == 4) = false›
    rw [beq_eq_false_iff_ne] at x0
    have x1 : (o == 2) = true := ‹(o == 2) = true›
    rw [beq_iff_eq] at x1
    have x2 : (!fl) = false := ‹(!fl) = false›
    rw [Bool.not_eq_false'] at x2
    have x3 : (!mi) = true := ‹(!mi) = true›
    rw [Bool.not_eq_true'] at x3
    have hn : nameG o fl mi a4 a5 a6 a7 al tu (ownL L) = txt [112, 103, 103] := by unfold nameG; simp [x0, x1, x2, x3]
    go_ret
    exact ⟨g, Hg.out, by rw [← HN.out, hn]; rfl, KA.out⟩
  · have x0 : (o == 4) = false := ‹(o == 4) = false›
    rw [beq_eq_false_iff_ne] at x0
    have x1 : (o == 2) = true := ‹(o == 2) = true›
    rw [beq_iff_eq] at x1
    have x2 : (!fl) = false := ‹(!fl) = false›
    rw [Bool.not_eq_false'] at x2
    have x3 : (!mi) = false := ‹(!mi) = false›
    rw [Bool.not_eq_false'] at x3
    have x4 : cnt4 a4 a5 a6 a7 = 1 := ‹cnt4 a4 a5 a6 a7 = 1›
    have hn : nameG o fl mi a4 a5 a6 a7 al tu (ownL L) = txt [112, 109, 103] := by unfold nameG; simp [x0, x1, x2, x3, x4]
    go_ret
    exact ⟨g, Hg.out, by rw [← HN.out, hn]; rfl, K3.out⟩
  · have x0 : (o == 4) = false := ‹(o == 4) = false›
    rw [beq_eq_false_iff_ne] at x0
    have x1 : (o == 2) = true := ‹(o == 2) = true›
    rw [beq_iff_eq] at x1
    have x2 : (!fl) = false := ‹(!fl) = false›
    rw [Bool.not_eq_false'] at x2
    have x3 : (!mi) = false := ‹(!mi) = false›
    rw [Bool.not_eq_false'] at x3
    have x4 : ¬ cnt4 a4 a5 a6 a7 = 1 := ‹¬ cnt4 a4 a5 a6 a7 = 1›
    have x5 : al = true := ‹al = true›
    have hn : nameG o fl mi a4 a5 a6 a7 al tu (ownL L) = txt [112, 109, 109] := by unfold nameG; simp [x0, x1, x2, x3, x4, x5]
    go_ret
    exact ⟨g, Hg.out, by rw [← HN.out, hn]; rfl, K3.out⟩
  · have x0 : (o == 4) = false := ‹(o == 4) = false›
    rw [beq_eq_false_iff_ne] at x0
    have x1 : (o == 2) = true := ‹(o == 2) = true›
    rw [beq_iff_eq] at x1
    have x2 : (!fl) = false := ‹(!fl) = false›
    rw [Bool.not_eq_false'] at x2
    have x3 : (!mi) = false := ‹(!mi) = false›
    rw [Bool.not_eq_false'] at x3
    have x4 : ¬ cnt4 a4 a5 a6 a7 = 1 := ‹¬ cnt4 a4 a5 a6 a7 = 1›
    have x5 : al = false := ‹al = false›
    have hn : nameG o fl mi a4 a5 a6 a7 al tu (ownL L) = txt [99, 109, 109] := by unfold nameG; simp [x0, x1, x2, x3, x4, x5]
    go_ret
    exact ⟨g, Hg.out, by rw [← HN.out, hn]; rfl, K3.out⟩
  · have x0 : (o == 4) = false := ‹(o == 4) = false›
    rw [beq_eq_false_iff_ne] at x0
    have x1 : (o == 2) = false := ‹(o == 2) = false›
    rw [beq_eq_false_iff_ne] at x1
    have x2 : (!fl) = true := ‹(!fl) = true›
    rw [Bool.not_eq_true'] at x2
    have hn : nameG o fl mi a4 a5 a6 a7 al tu (ownL L) = txt [112, 49] := by unfold nameG; simp [x0, x1, x2]
    go_ret
    exact ⟨g, Hg.out, by rw [← HN.out, hn]; rfl, KA.out⟩
  · have x0 : (o == 4) = false := ‹(o == 4) = false›
    rw [beq_eq_false_iff_ne] at x0
    have x1 : (o == 2) = false := ‹(o == 2) = false›
    rw [beq_eq_false_iff_ne] at x1
    have x2 : (!fl) = false := ‹(!fl) = false›
    rw [Bool.not_eq_false'] at x2
    have x3 : (!mi) = true := ‹(!mi) = true›
    rw [Bool.not_eq_true'] at x3
    have hn : nameG o fl mi a4 a5 a6 a7 al tu (ownL L) = txt [112, 103] := by unfold nameG; simp [x0, x1, x2, x3]
    go_ret
    exact ⟨g, Hg.out, by rw [← HN.out, hn]; rfl, KA.out⟩
  · have x0 : (o == 4) = false := ‹(o == 4) = false›
    rw [beq_eq_false_iff_ne] at x0
    have x1 : (o == 2) = false := ‹(o == 2) = false›
    rw [beq_eq_false_iff_ne] at x1
    have x2 : (!fl) = false := ‹(!fl) = false›
    rw [Bool.not_eq_false'] at x2
    have x3 : (!mi) = false := ‹(!mi) = false›
    rw [Bool.not_eq_false'] at x3
    have x4 : ownL L = true := ‹ownL L = true›
    have hn : nameG o fl mi a4 a5 a6 a7 al tu (ownL L) = txt [112, 109] := by unfold nameG; simp [x0, x1, x2, x3, x4]
    go_ret
    exact ⟨g, Hg.out, by rw [← HN.out, hn]; rfl, K3.out⟩
  · have x0 : (o == 4) = false := ‹(o == 4) = false›
    rw [beq_eq_false_iff_ne] at x0
    have x1 : (o == 2) = false := ‹(o == 2) = false›
    rw [beq_eq_false_iff_ne] at x1
    have x2 : (!fl) = false := ‹(!fl) = false›
    rw [Bool.not_eq_false'] at x2
    have x3 : (!mi) = false := ‹(!mi) = false›
    rw [Bool.not_eq_false'] at x3
    have x4 : ownL L = false := ‹ownL L = false›
    have hn : nameG o fl mi a4 a5 a6 a7 al tu (ownL L) = txt [99, 109] := by unfold nameG; simp [x0, x1, x2, x3, x4]
    go_ret
    exact ⟨g, Hg.out, by rw [← HN.out, hn]; rfl, K3.out⟩
theorem GroupR_any {F : MS} {p : List ByteArray} {A : Option Addr} {c : Nat} {w : World} (h : Giv F p A c) (hH : Has w F) :
    Calls Tryd.prog 16 #[.slice A p.length c] w fun e w' => ∃ nm er, e = .returned (.tuple #[.string nm, .int .i64 er]) ∧ Kp w w' ∧ (isPat p = true → (∃ g, IsLat p g ∧ nm = nameOf p g) ∧ er = 0) ∧ (isPat p = false → nm = txt [] ∧ er = 2) := by
  have Hof := hid (pattern_any h.rd h.l h.s hH)
  have HH := hid hH
  have Hrd := hid h.rd
  clear h hH
  cases hp : isPat p with
  | false =>
    rw [hp] at Hof
    clear hp
    go_enter Tryd.func16, Tryd.ntmps16
    go_wp2_with (go_at_call 20; refine Hof.out.mono ?_; rintro e1 w1 ⟨rfl, q1, rfl⟩)
    go_ret2
    exact ⟨_, 2, rfl, Kp.drewN (Kp.refl _) _, fun h => absurd h (by decide), fun _ => ⟨rfl, rfl⟩⟩
  | true =>
    rw [hp] at Hof
    have Hgr := hid (fun (W : World) (hW : Has W F) => refGroup_any Hrd.out (isPat.ok hp).1 hW)
    clear hp
    go_enter Tryd.func16, Tryd.ntmps16
    go_wp2_with (first
      | (go_at_call 20; refine Hof.out.mono ?_; rintro e1 w1 ⟨rfl, q1, rfl⟩)
      | (go_at_call 39; refine (Hgr.out _ (HH.out.drewN _)).mono ?_; rintro e2 w2 ⟨g, hg, rfl, k2⟩; have Hg := hid hg; have K2 := hid (Kp.trans (Kp.drewN (Kp.refl w) _) k2); clear hg k2))
    go_ret2
    exact ⟨nameOf p g, 0, rfl, K2.out, fun _ => ⟨⟨g, Hg.out, rfl⟩, rfl⟩, fun h => absurd h (by decide)⟩
end Go.Proofs.YteibbnmlmbhkpaaDoor

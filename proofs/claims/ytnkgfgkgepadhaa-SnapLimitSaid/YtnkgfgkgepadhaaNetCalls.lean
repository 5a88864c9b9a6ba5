/-
  The looks at a net, over NetAt; what they give can be read.
-/
import Derived.Test.YtnkgfgkgepadhaaWalk16
namespace Go.Proofs.Ytnkgfgkgepadhaa
open Go.RowKit
set_option linter.unusedVariables false
set_option linter.unusedSimpArgs false

theorem NetAt.keep {F : MS} {σ : Net} {b : Nat} {w w' : World} (h : NetAt F σ b w) (k : ∀ M, Has w M → Has w' M) : NetAt F σ b w' := by
  obtain ⟨h0, Pl, ps, m, h1, h2⟩ := h
  exact ⟨h0, Pl, ps, m, h1, k _ h2⟩
theorem NetAt.alloc {F : MS} {σ : Net} {b : Nat} {w : World} (h : NetAt F σ b w) (o : Obj) : NetAt (pts w.heap.size o + F) σ b (w.alloc o) := by
  obtain ⟨h0, Pl, ps, m, h1, h2⟩ := h
  exact ⟨h0, Pl, ps, m, h1, (h2.alloc o).eq (by ac_rfl)⟩
theorem NetAt.drew {F : MS} {σ : Net} {b : Nat} {w : World} (h : NetAt F σ b w) : NetAt F σ b w.drew := h.keep fun _ h => h.drew
theorem NetAt.drewN {F : MS} {σ : Net} {b : Nat} {w : World} (h : NetAt F σ b w) (n : Nat) : NetAt F σ b (w.drewN n) := h.keep fun _ h => h.drewN n
theorem NetAt.n0 {F : MS} {σ : Net} {b : Nat} {w : World} (h : NetAt F σ b w) : 0 < σ.sta.length := by have := h.1.n2; omega
theorem NetOk.totOk {σ : Net} (h : NetOk σ) : TotOk σ := by
  refine ⟨h.n5, h.rows, fun r hr => by rw [h.cols r hr]; exact h.n5, fun r hr l hl => ?_, fun r hr l hl x hx => ?_, fun s hs => ?_⟩
  · obtain ⟨i, hi, rfl⟩ := List.mem_iff_getElem.1 hr
    have h1 := h.line i _ l (List.getElem?_eq_getElem hi) hl
    have h2 : (σ.shots.countP fun x => x.recorded.getD i false) ≤ 8 := Nat.le_trans List.countP_le_length h.shots
    have := h.evs
    omega
  · have := h.shots
    rcases h.msg r hr l hl x hx with a | a <;> omega
  · obtain ⟨_, a2, a3, _⟩ := h.sta s hs
    have := h.evs
    omega
theorem total_net {F : MS} {σ : Net} {b : Nat} {w : World} (h : NetAt F σ b w) :
    Calls Try.prog 19 #[.pointer (some ⟨b, 0, none⟩)] w fun e w' => e = .returned (.int .i64 σ.total) ∧ NetAt F σ b w' ∧ Ext w w' := by
  obtain ⟨G, h1, h2⟩ := h.rd
  refine (total_any (G + F) σ b w h.n0 (h1.less F) h2 h.1.totOk).mono ?_
  rintro e w' ⟨rfl, k1, k2⟩
  exact ⟨rfl, h.keep k1, k2⟩
theorem evs_clock {σ : Net} (h : ∀ e ∈ σ.evs, e.clock.length ≤ 5) : ∀ x ∈ σ.evs, x.clock.length ≤ 1000 := fun x hx => by have := h x hx; omega
theorem events_net {F : MS} {σ : Net} {b : Nat} {w : World} (h : NetAt F σ b w) (hc : ∀ e ∈ σ.evs, e.clock.length ≤ 5) :
    Calls Try.prog 18 #[.pointer (some ⟨b, 0, none⟩)] w fun e w' => ∃ A c m, e = .returned (.slice A σ.evs.length c) ∧ SlR 68 5 EvR σ.evs (.slice A σ.evs.length c) m ∧ RdS m RT.ev σ.evs (.slice A σ.evs.length c) ∧ NetAt (m + F) σ b w' ∧ Ext w w' := by
  have h0 := h.n0
  obtain ⟨hok, Pl, ps, m, h1, h2⟩ := h
  refine (events_any (m + (Pl + F)) σ b w h0 (by rw [← MS.add_assoc]; exact h1.rd.less F) h2 (by have := hok.evs; omega) (evs_clock hc)).mono ?_
  rintro e w' ⟨A, c, mr, rfl, k1, k2, k3⟩
  exact ⟨A, c, mr, rfl, k1, SlR.rd (T := RT.ev) EvR.rd k1, ⟨hok, Pl, ps, m, h1, k2.eq (by ac_rfl)⟩, k3⟩
theorem pieces_net {F : MS} {σ : Net} {b : Nat} {w : World} (h : NetAt F σ b w) :
    Calls Try.prog 47 #[.pointer (some ⟨b, 0, none⟩)] w fun e w' => ∃ A c m, e = .returned (.slice A σ.sta.length c) ∧ Ints (σ.sta.map Sta.pieces) (.slice A σ.sta.length c) m ∧ NetAt (m + F) σ b w' ∧ Ext w w' := by
  have h0 := h.n0
  obtain ⟨hok, Pl, ps, m, h1, h2⟩ := h
  refine (pieces_any (m + (Pl + F)) σ b w h0 (by rw [← MS.add_assoc]; exact h1.rd.less F) h2 (by have := hok.n5; omega)).mono ?_
  rintro e w' ⟨A, c, mr, rfl, k1, k2, k3⟩
  exact ⟨A, c, mr, rfl, k1, ⟨hok, Pl, ps, m, h1, k2.eq (by ac_rfl)⟩, k3⟩
theorem waiting_none {F : MS} {σ : Net} {b : Nat} {w : World} (h : NetAt F σ b w) (x y : Int) (he : pairErr σ.sta.length x y = 2) :
    Calls Try.prog 28 #[.pointer (some ⟨b, 0, none⟩), .int .i64 x, .int .i64 y] w fun e w' => e = .returned (.tuple #[.slice none 0 0, .int .i64 2]) ∧ w = w' := by
  obtain ⟨G, h1, h2⟩ := h.rd
  exact waiting_no (G + F) σ b w h.n0 (h1.less F) h2 x y he
theorem waiting_net {F : MS} {σ : Net} {b : Nat} {w : World} (h : NetAt F σ b w) {i j : Nat} (hi : i < σ.n) (hj : j < σ.n) (hij : i ≠ j) :
    Calls Try.prog 28 #[.pointer (some ⟨b, 0, none⟩), .int .i64 i, .int .i64 j] w fun e w' => ∃ A c m, e = .returned (.tuple #[.slice A (σ.lineAt i j).length c, .int .i64 0]) ∧ Ints ((σ.lineAt i j).map Msg.told) (.slice A (σ.lineAt i j).length c) m ∧ NetAt (m + F) σ b w' ∧ Ext w w' := by
  obtain ⟨hok, Pl, ps, m, h1, h2⟩ := h
  obtain ⟨r, hr⟩ : ∃ r, σ.chan[i]? = some r := ⟨_, List.getElem?_eq_getElem (by rw [hok.rows]; exact hi)⟩
  have hrm := List.mem_of_getElem? hr
  have hrl := hok.cols r hrm
  have hl : r[j]? = some (σ.lineAt i j) := by
    simp only [Net.lineAt, getD_some hr]
    simp [List.getD, List.getElem?_eq_getElem (show j < r.length by rw [hrl]; exact hj)]
  have t := hok.totOk
  refine (waiting_yes (m + (Pl + F)) σ b w (by rw [← MS.add_assoc]; exact h1.rd.less F) h2 i j hi hj hij r _ hr hl (t.line r hrm _ (List.mem_of_getElem? hl)) (t.msg r hrm _ (List.mem_of_getElem? hl))).mono ?_
  rintro e w' ⟨A, c, mr, rfl, k1, k2, k3⟩
  exact ⟨A, c, mr, rfl, k1, ⟨hok, Pl, ps, m, h1, k2.eq (by ac_rfl)⟩, k3⟩
theorem done_net {F : MS} {σ : Net} {b : Nat} {w : World} (h : NetAt F σ b w) (no : Int) :
    Calls Try.prog 17 #[.pointer (some ⟨b, 0, none⟩), .int .i64 no] w fun e w' => e = .returned (.tuple #[.bool (σ.doneR no).1, .int .i64 (σ.doneR no).2]) ∧ w = w' := by
  obtain ⟨hok, Pl, ps, m, h1, h2⟩ := h
  exact Done_any Pl (Pl + F) σ ps b m w hok h1 h2 no
theorem cut_none {F : MS} {σ : Net} {b : Nat} {w : World} (h : NetAt F σ b w) (no : Int) (he : σ.snapErr no ≠ 0) :
    Calls Try.prog 22 #[.pointer (some ⟨b, 0, none⟩), .int .i64 no] w fun e w' => e = .returned (.tuple #[.slice none 0 0, .int .i64 (σ.snapErr no)]) ∧ w = w' := by
  obtain ⟨hok, Pl, ps, m, h1, h2⟩ := h
  exact cut_no Pl (Pl + F) σ ps b m w hok h1 h2 no he
theorem cut_net {F : MS} {σ : Net} {b : Nat} {w : World} (h : NetAt F σ b w) {k : Nat} (hk : k < σ.shots.length) (he : σ.snapErr (k + 1) = 0) :
    Calls Try.prog 22 #[.pointer (some ⟨b, 0, none⟩), .int .i64 (k + 1)] w fun e w' => ∃ A c m, e = .returned (.tuple #[.slice A (σ.X k).cut.length c, .int .i64 0]) ∧ Ints (σ.X k).cut (.slice A (σ.X k).cut.length c) m ∧ NetAt (m + F) σ b w' ∧ Ext w w' := by
  obtain ⟨hok, Pl, ps, m, h1, h2⟩ := h
  refine (cut_yes Pl (Pl + F) σ ps b m w hok h1 h2 k _ (Net.X_some hk) he).mono ?_
  rintro e w' ⟨A, c, mr, rfl, k1, k2, k3⟩
  exact ⟨A, c, mr, rfl, k1, ⟨hok, Pl, ps, m, h1, k2.eq (by ac_rfl)⟩, k3⟩
theorem snapshot_none {F : MS} {σ : Net} {b : Nat} {w : World} (h : NetAt F σ b w) (no : Int) (he : σ.snapErr no ≠ 0) :
    Calls Try.prog 21 #[.pointer (some ⟨b, 0, none⟩), .int .i64 no] w fun e w' => e = .returned (.tuple #[.agg #[.slice none 0 0, .slice none 0 0], .int .i64 (σ.snapErr no)]) ∧ (∀ M, Has w M → Has w' M) ∧ Ext w w' := by
  obtain ⟨hok, Pl, ps, m, h1, h2⟩ := h
  exact snapshot_no Pl (Pl + F) σ ps b m w hok h1 h2 no he
theorem snapshot_net {F : MS} {σ : Net} {b : Nat} {w : World} (h : NetAt F σ b w) {k : Nat} (hk : k < σ.shots.length) (he : σ.snapErr (k + 1) = 0) :
    Calls Try.prog 21 #[.pointer (some ⟨b, 0, none⟩), .int .i64 (k + 1)] w fun e w' => ∃ A c A' c' mr mr', e = .returned (.tuple #[.agg #[.slice A (σ.X k).pieces.length c, .slice A' (σ.X k).under.length c'], .int .i64 0]) ∧
      Ints (σ.X k).pieces (.slice A (σ.X k).pieces.length c) mr ∧ Ints3 (σ.X k).under (.slice A' (σ.X k).under.length c') mr' ∧ NetAt (mr + (mr' + F)) σ b w' ∧ Ext w w' := by
  obtain ⟨hok, Pl, ps, m, h1, h2⟩ := h
  refine (snapshot_yes Pl (Pl + F) σ ps b m w hok h1 h2 k _ (Net.X_some hk) he).mono ?_
  rintro e w' ⟨A, c, A', c', mr, mr', rfl, k1, k2, k3, k4⟩
  exact ⟨A, c, A', c', mr, mr', rfl, k1, k2, ⟨hok, Pl, ps, m, h1, k3.eq (by ac_rfl)⟩, k4⟩
theorem snapErr_dec {σ : Net} (t : Nat) : σ.snapErr (t + 1) ≠ 0 ∨ (σ.snapErr (t + 1) = 0 ∧ t < σ.shots.length ∧ (σ.X t).fin σ.n = true) := by
  rcases snapErr_cases σ (t + 1) with ⟨_, h2⟩ | ⟨k, x, hk, hx, h2⟩
  · left; rw [h2]; decide
  · obtain rfl : k = t := by omega
    have hX := Net.X_of hx
    cases hf : x.fin σ.sta.length with
    | true => exact .inr ⟨by rw [h2, hf]; rfl, (List.getElem?_eq_some_iff.1 hx).1, by rw [hX]; exact hf⟩
    | false => left; rw [h2, hf]; decide
end Go.Proofs.Ytnkgfgkgepadhaa

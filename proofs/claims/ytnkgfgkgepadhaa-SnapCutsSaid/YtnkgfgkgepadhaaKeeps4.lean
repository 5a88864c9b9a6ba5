/-
  The looks at a net, over NetAt; what they give can be read. Plain: what SnapKeeps compares is equal.
-/
import Derived.Test.YtnkgfgkgepadhaaWalk16
namespace Go.Proofs.Ytnkgfgkgepadhaa
open Go.RowKit
set_option linter.unusedVariables false
set_option linter.unusedSimpArgs false
variable {Q : MS}

theorem NetAt.keep {F : MS} {σ : Net} {b : Nat} {w w' : World} (h : NetAt Q F σ b w) (k : ∀ M, Has w M → Has w' M) : NetAt Q F σ b w' := by
  obtain ⟨h0, Pl, ps, m, h1, h2⟩ := h
  exact ⟨h0, Pl, ps, m, h1, k _ h2⟩
theorem NetAt.alloc {F : MS} {σ : Net} {b : Nat} {w : World} (h : NetAt Q F σ b w) (o : Obj) : NetAt Q (pts w.heap.size o + F) σ b (w.alloc o) := by
  obtain ⟨h0, Pl, ps, m, h1, h2⟩ := h
  exact ⟨h0, Pl, ps, m, h1, (h2.alloc o).eq (by ac_rfl)⟩
theorem NetAt.drew {F : MS} {σ : Net} {b : Nat} {w : World} (h : NetAt Q F σ b w) : NetAt Q F σ b w.drew := h.keep fun _ h => h.drew
theorem NetAt.drewN {F : MS} {σ : Net} {b : Nat} {w : World} (h : NetAt Q F σ b w) (n : Nat) : NetAt Q F σ b (w.drewN n) := h.keep fun _ h => h.drewN n
theorem NetAt.n0 {F : MS} {σ : Net} {b : Nat} {w : World} (h : NetAt Q F σ b w) : 0 < σ.sta.length := by have := h.1.n2; omega
theorem NetOk.totOk {σ : Net} (h : NetOk σ) : TotOk σ := by
  refine ⟨h.n5, h.rows, fun r hr => by rw [h.cols r hr]; exact h.n5, fun r hr l hl => ?_, fun r hr l hl x hx => ?_, fun s hs => ?_⟩
  · obtain ⟨i, hi, rfl⟩ := List.mem_iff_getElem.1 hr
    have h1 := h.line i _ l (List.getElem?_eq_getElem hi) hl
    have h2 : (σ.shots.countP fun x => x.recorded.getD i false) ≤ 8 := Nat.le_trans List.countP_le_length h.shots
    have := h.evs
    omega
  · have := h.shots
    rcases h.msg r hr l hl x hx with a | a <;> omega
  · obtain ⟨_, a2, a3, _⟩ := h.sta s hs
    have := h.evs
    omega
theorem total_net {F : MS} {σ : Net} {b : Nat} {w : World} (h : NetAt Q F σ b w) :
    Calls Try.prog 19 #[.pointer (some ⟨b, 0, none⟩)] w fun e w' => e = .returned (.int .i64 σ.total) ∧ NetAt Q F σ b w' ∧ Ext w w' := by
  obtain ⟨G, h1, h2⟩ := h.rd
  refine (total_any (G + F) σ b w h.n0 (h1.less F) h2 h.1.totOk).mono ?_
  rintro e w' ⟨rfl, k1, k2⟩
  exact ⟨rfl, h.keep k1, k2⟩
theorem evs_clock {σ : Net} (h : ∀ e ∈ σ.evs, e.clock.length ≤ 5) : ∀ x ∈ σ.evs, x.clock.length ≤ 1000 := fun x hx => by have := h x hx; omega
theorem events_net {F : MS} {σ : Net} {b : Nat} {w : World} (h : NetAt Q F σ b w) (hc : ∀ e ∈ σ.evs, e.clock.length ≤ 5) :
    Calls Try.prog 18 #[.pointer (some ⟨b, 0, none⟩)] w fun e w' => ∃ A c m, e = .returned (.slice A σ.evs.length c) ∧ SlR 68 5 EvR σ.evs (.slice A σ.evs.length c) m ∧ RdS m RT.ev σ.evs (.slice A σ.evs.length c) ∧ NetAt Q (m + F) σ b w' ∧ Ext w w' := by
  have h0 := h.n0
  obtain ⟨hok, Pl, ps, m, h1, h2⟩ := h
  refine (events_any (m + ((Pl + Q) + F)) σ b w h0 (by rw [← MS.add_assoc]; exact h1.rd.less F) h2 (by have := hok.evs; omega) (evs_clock hc)).mono ?_
  rintro e w' ⟨A, c, mr, rfl, k1, k2, k3⟩
  exact ⟨A, c, mr, rfl, k1, SlR.rd (T := RT.ev) EvR.rd k1, ⟨hok, Pl, ps, m, h1, k2.eq (by ac_rfl)⟩, k3⟩
theorem pieces_net {F : MS} {σ : Net} {b : Nat} {w : World} (h : NetAt Q F σ b w) :
    Calls Try.prog 47 #[.pointer (some ⟨b, 0, none⟩)] w fun e w' => ∃ A c m, e = .returned (.slice A σ.sta.length c) ∧ Ints (σ.sta.map Sta.pieces) (.slice A σ.sta.length c) m ∧ NetAt Q (m + F) σ b w' ∧ Ext w w' := by
  have h0 := h.n0
  obtain ⟨hok, Pl, ps, m, h1, h2⟩ := h
  refine (pieces_any (m + ((Pl + Q) + F)) σ b w h0 (by rw [← MS.add_assoc]; exact h1.rd.less F) h2 (by have := hok.n5; omega)).mono ?_
  rintro e w' ⟨A, c, mr, rfl, k1, k2, k3⟩
  exact ⟨A, c, mr, rfl, k1, ⟨hok, Pl, ps, m, h1, k2.eq (by ac_rfl)⟩, k3⟩
theorem waiting_none {F : MS} {σ : Net} {b : Nat} {w : World} (h : NetAt Q F σ b w) (x y : Int) (he : pairErr σ.sta.length x y = 2) :
    Calls Try.prog 28 #[.pointer (some ⟨b, 0, none⟩), .int .i64 x, .int .i64 y] w fun e w' => e = .returned (.tuple #[.slice none 0 0, .int .i64 2]) ∧ w = w' := by
  obtain ⟨G, h1, h2⟩ := h.rd
  exact waiting_no (G + F) σ b w h.n0 (h1.less F) h2 x y he
theorem waiting_net {F : MS} {σ : Net} {b : Nat} {w : World} (h : NetAt Q F σ b w) {i j : Nat} (hi : i < σ.n) (hj : j < σ.n) (hij : i ≠ j) :
    Calls Try.prog 28 #[.pointer (some ⟨b, 0, none⟩), .int .i64 i, .int .i64 j] w fun e w' => ∃ A c m, e = .returned (.tuple #[.slice A (σ.lineAt i j).length c, .int .i64 0]) ∧ Ints ((σ.lineAt i j).map Msg.told) (.slice A (σ.lineAt i j).length c) m ∧ NetAt Q (m + F) σ b w' ∧ Ext w w' := by
  obtain ⟨hok, Pl, ps, m, h1, h2⟩ := h
  obtain ⟨r, hr⟩ : ∃ r, σ.chan[i]? = some r := ⟨_, List.getElem?_eq_getElem (by rw [hok.rows]; exact hi)⟩
  have hrm := List.mem_of_getElem? hr
  have hrl := hok.cols r hrm
  have hl : r[j]? = some (σ.lineAt i j) := by
    simp only [Net.lineAt, getD_some hr]
    simp [List.getD, List.getElem?_eq_getElem (show j < r.length by rw [hrl]; exact hj)]
  have t := hok.totOk
  refine (waiting_yes (m + ((Pl + Q) + F)) σ b w (by rw [← MS.add_assoc]; exact h1.rd.less F) h2 i j hi hj hij r _ hr hl (t.line r hrm _ (List.mem_of_getElem? hl)) (t.msg r hrm _ (List.mem_of_getElem? hl))).mono ?_
  rintro e w' ⟨A, c, mr, rfl, k1, k2, k3⟩
  exact ⟨A, c, mr, rfl, k1, ⟨hok, Pl, ps, m, h1, k2.eq (by ac_rfl)⟩, k3⟩
theorem done_net {F : MS} {σ : Net} {b : Nat} {w : World} (h : NetAt Q F σ b w) (no : Int) :
    Calls Try.prog 17 #[.pointer (some ⟨b, 0, none⟩), .int .i64 no] w fun e w' => e = .returned (.tuple #[.bool (σ.doneR no).1, .int .i64 (σ.doneR no).2]) ∧ w = w' := by
  obtain ⟨hok, Pl, ps, m, h1, h2⟩ := h
  exact Done_any (Pl + Q) ((Pl + Q) + F) σ ps b m w hok h1 h2 no
theorem cut_none {F : MS} {σ : Net} {b : Nat} {w : World} (h : NetAt Q F σ b w) (no : Int) (he : σ.snapErr no ≠ 0) :
    Calls Try.prog 22 #[.pointer (some ⟨b, 0, none⟩), .int .i64 no] w fun e w' => e = .returned (.tuple #[.slice none 0 0, .int .i64 (σ.snapErr no)]) ∧ w = w' := by
  obtain ⟨hok, Pl, ps, m, h1, h2⟩ := h
  exact cut_no (Pl + Q) ((Pl + Q) + F) σ ps b m w hok h1 h2 no he
theorem cut_net {F : MS} {σ : Net} {b : Nat} {w : World} (h : NetAt Q F σ b w) {k : Nat} (hk : k < σ.shots.length) (he : σ.snapErr (k + 1) = 0) :
    Calls Try.prog 22 #[.pointer (some ⟨b, 0, none⟩), .int .i64 (k + 1)] w fun e w' => ∃ A c m, e = .returned (.tuple #[.slice A (σ.X k).cut.length c, .int .i64 0]) ∧ Ints (σ.X k).cut (.slice A (σ.X k).cut.length c) m ∧ NetAt Q (m + F) σ b w' ∧ Ext w w' := by
  obtain ⟨hok, Pl, ps, m, h1, h2⟩ := h
  refine (cut_yes (Pl + Q) ((Pl + Q) + F) σ ps b m w hok h1 h2 k _ (Net.X_some hk) he).mono ?_
  rintro e w' ⟨A, c, mr, rfl, k1, k2, k3⟩
  exact ⟨A, c, mr, rfl, k1, ⟨hok, Pl, ps, m, h1, k2.eq (by ac_rfl)⟩, k3⟩
theorem snapshot_none {F : MS} {σ : Net} {b : Nat} {w : World} (h : NetAt Q F σ b w) (no : Int) (he : σ.snapErr no ≠ 0) :
    Calls Try.prog 21 #[.pointer (some ⟨b, 0, none⟩), .int .i64 no] w fun e w' => e = .returned (.tuple #[.agg #[.slice none 0 0, .slice none 0 0], .int .i64 (σ.snapErr no)]) ∧ (∀ M, Has w M → Has w' M) ∧ Ext w w' := by
  obtain ⟨hok, Pl, ps, m, h1, h2⟩ := h
  exact snapshot_no (Pl + Q) ((Pl + Q) + F) σ ps b m w hok h1 h2 no he
theorem snapshot_net {F : MS} {σ : Net} {b : Nat} {w : World} (h : NetAt Q F σ b w) {k : Nat} (hk : k < σ.shots.length) (he : σ.snapErr (k + 1) = 0) :
    Calls Try.prog 21 #[.pointer (some ⟨b, 0, none⟩), .int .i64 (k + 1)] w fun e w' => ∃ A c A' c' mr mr', e = .returned (.tuple #[.agg #[.slice A (σ.X k).pieces.length c, .slice A' (σ.X k).under.length c'], .int .i64 0]) ∧
      Ints (σ.X k).pieces (.slice A (σ.X k).pieces.length c) mr ∧ Ints3 (σ.X k).under (.slice A' (σ.X k).under.length c') mr' ∧ NetAt Q (mr + (mr' + F)) σ b w' ∧ Ext w w' := by
  obtain ⟨hok, Pl, ps, m, h1, h2⟩ := h
  refine (snapshot_yes (Pl + Q) ((Pl + Q) + F) σ ps b m w hok h1 h2 k _ (Net.X_some hk) he).mono ?_
  rintro e w' ⟨A, c, A', c', mr, mr', rfl, k1, k2, k3, k4⟩
  exact ⟨A, c, A', c', mr, mr', rfl, k1, k2, ⟨hok, Pl, ps, m, h1, k3.eq (by ac_rfl)⟩, k4⟩
theorem snapErr_dec {σ : Net} (t : Nat) : σ.snapErr (t + 1) ≠ 0 ∨ (σ.snapErr (t + 1) = 0 ∧ t < σ.shots.length ∧ (σ.X t).fin σ.n = true) := by
  rcases snapErr_cases σ (t + 1) with ⟨_, h2⟩ | ⟨k, x, hk, hx, h2⟩
  · left; rw [h2]; decide
  · obtain rfl : k = t := by omega
    have hX := Net.X_of hx
    cases hf : x.fin σ.sta.length with
    | true => exact .inr ⟨by rw [h2, hf]; rfl, (List.getElem?_eq_some_iff.1 hx).1, by rw [hX]; exact hf⟩
    | false => left; rw [h2, hf]; decide
end Go.Proofs.Ytnkgfgkgepadhaa

namespace Go.Proofs.Ytnkgfgkgepadhaa
set_option linter.unusedVariables false
set_option linter.unusedSimpArgs false

theorem isum_zsum (f : Nat → Int) (n : Nat) : isum ((List.range n).map f) = zsum n f := by
  induction n with
  | zero => rfl
  | succ n ih => rw [range_map_more, isum_snoc, ih]; rfl
theorem isum_map_zsum {α : Type} (g : α → Int) (d : α) (l : List α) : isum (l.map g) = zsum l.length fun i => g (l.getD i d) := by
  rw [← zsum_isum, List.length_map]
  refine zsum_congr fun i hi => ?_
  simp [List.getD, hi]
theorem total_held {σ : Net} (h : NetOk σ) : σ.total = σ.held2 := by
  unfold Net.total Net.held2
  rw [isum_zsum, ← zsum_add]
  refine zsum_congr fun i hi => ?_
  have hi : i < σ.n := hi
  unfold totOf
  rw [S_of hi]
  simp only
  congr 1
  unfold totRow
  rw [isum_map_zsum totLine [], h.rowLen hi]
  rfl
theorem keeps_total {σ : Net} {p0 : Int} (h : KI σ p0) : σ.total = p0 + madeL (fun _ _ => true) σ.evs := by rw [total_held h.ok]; exact h.tot
def underSum (u : List (List (List Int))) : Int := isum (u.map fun r => isum (r.map isum))
theorem underSum_eq {x : Shot} {n : Nat} (d : Dim x n) : underSum x.under = zsum n fun i => zsum n fun j => isum (x.U i j) := by
  unfold underSum
  rw [isum_map_zsum (fun r => isum (r.map isum)) [], d.u]
  refine zsum_congr fun i hi => ?_
  rw [isum_map_zsum isum [], d.uu i hi]
  rfl
theorem fin_all {x : Shot} {n : Nat} (h : x.fin n = true) : (∀ i, i < n → x.R i = true ∨ n = 0) ∧ ∀ i j, i < n → j < n → x.R i = true ∧ (i ≠ j → x.C i j = true) := by
  have key : ∀ i j, i < n → j < n → x.R i = true ∧ (i ≠ j → x.C i j = true) := fun i j hi hj => by
    unfold Shot.fin at h
    rw [List.all_eq_true] at h
    have h1 := h i (List.mem_range.2 hi)
    rw [List.all_eq_true] at h1
    have h2 := h1 j (List.mem_range.2 hj)
    unfold cellOk at h2
    rw [Bool.and_eq_true, Bool.or_eq_true] at h2
    exact ⟨h2.1, fun hij => h2.2.resolve_left (fun h => hij (by simpa using h))⟩
  exact ⟨fun i hi => .inl (key i i hi hi).1, key⟩
theorem keeps_shot {σ : Net} {p0 : Int} (h : KI σ p0) {k : Nat} (hk : k < σ.shots.length) (hf : (σ.X k).fin σ.n = true) :
    isum (σ.X k).pieces + underSum (σ.X k).under = p0 + madeL (okCut (σ.X k).cut) σ.evs := by
  have s := h.sh k hk
  have d := h.ok.dim hk
  obtain ⟨_, hall⟩ := fin_all hf
  have hR : ∀ i, i < σ.n → (σ.X k).R i = true := fun i hi => (hall i i hi hi).1
  have h1 : zsum σ.n (Pst σ (σ.X k)) = isum (σ.X k).pieces := by
    rw [← zsum_isum, d.p]
    exact zsum_congr fun i hi => by unfold Pst; rw [if_pos (hR i hi)]; rfl
  have h2 : zsum σ.n (fun i => zsum σ.n (Cst σ (σ.X k) k i)) = underSum (σ.X k).under := by
    rw [underSum_eq d]
    refine zsum2_congr fun i j hi hj => ?_
    unfold Cst
    by_cases hij : i = j
    · subst hij
      rw [h.di i]
      split <;> simp [before, totLine, isum]
    · rw [if_pos ((hall i j hi hj).2 hij)]; omega
  have h3 : madeL (okT σ (σ.X k)) σ.evs = madeL (okCut (σ.X k).cut) σ.evs := madeL_congr fun s' c hc => by
    have hpos : 0 < cntE σ.evs s' := by omega
    unfold cntE at hpos
    obtain ⟨ev, hev, hs⟩ := List.countP_pos_iff.1 hpos
    obtain ⟨a, h5, ha⟩ := h.st ev hev
    have hs : ev.station = s' := by simpa using hs
    subst hs
    rw [h5]
    unfold okT okCut Tst
    rw [Int.toNat_natCast, if_pos (hR a ha)]
    rfl
  have := s.sum
  rw [h1, h2, h3] at this
  exact this
/-- The bounds that the sums of a snapshot need. -/
theorem keeps_bounds {σ : Net} {p0 : Int} (h : KI σ p0) {k : Nat} (hk : k < σ.shots.length) : (∀ a ∈ (σ.X k).pieces, 0 ≤ a ∧ a ≤ 1000000000) ∧ ∀ r ∈ (σ.X k).under, r.length ≤ 5 ∧ ∀ q ∈ r, q.length ≤ 400 ∧ ∀ a ∈ q, 0 ≤ a ∧ a ≤ 1000000 := by
  have s := h.sh k hk
  have d := h.ok.dim hk
  have hn5 := h.ok.n5
  have hev := h.ok.evs
  obtain ⟨_, _, _, _, _, a6, a7⟩ := h.ok.shot _ (List.mem_of_getElem? (Net.X_some hk))
  refine ⟨fun a ha => ?_, fun r hr => ⟨by have := (a7 r hr).1; omega, fun q hq => ⟨by have := (a7 r hr).2 q hq; omega, fun a ha => ?_⟩⟩⟩
  · obtain ⟨i, hi, rfl⟩ := List.mem_iff_getElem.1 ha
    have hi' := hi
    rw [d.p] at hi
    have := s.p i hi
    unfold Shot.P at this
    rw [getD_some (List.getElem?_eq_getElem hi')] at this
    exact this
  · obtain ⟨i, hi, rfl⟩ := List.mem_iff_getElem.1 hr
    obtain ⟨j, hj, rfl⟩ := List.mem_iff_getElem.1 hq
    have := s.ub i j a
    unfold Shot.U at this
    rw [getD_some (List.getElem?_eq_getElem hi), getD_some (List.getElem?_eq_getElem hj)] at this
    exact this ha

/-- The events of a net. -/
structure EvOk (n : Nat) (e : Ev) : Prop where
  st : ∃ k : Nat, e.station = k ∧ k < n
  ot : ∃ k : Nat, e.other = k ∧ k < n
  wh : e.what = 1 ∨ e.what = 2 ∨ e.what = 3
  pc : 1 ≤ e.pieces ∧ e.pieces ≤ 1000000
  cl : e.clock.length = n
def EvsOk (σ : Net) : Prop := ∀ e ∈ σ.evs, EvOk σ.n e
theorem mergeTo_len (c m : List Int) (j t : Nat) : (mergeTo c m j t).length = c.length := mergeTo_length c m j t
theorem tick_len (c : List Int) (k : Nat) : (tick c k).length = c.length := by simp [tick]
theorem S_clock {σ : Net} (h : NetOk σ) {i : Nat} (hi : i < σ.n) : (σ.S i).clock.length = σ.n := (h.sta _ (List.mem_of_getElem? (S_of hi))).1
theorem EvsOk.snoc {σ σ' : Net} {e : Ev} (h : EvsOk σ) (hE : σ'.evs = σ.evs ++ [e]) (hn : σ'.n = σ.n) (he : EvOk σ.n e) : EvsOk σ' := fun x hx => by
  rw [hE] at hx
  rw [hn]
  rcases List.mem_append.1 hx with hx | hx
  · exact h x hx
  · rw [List.mem_singleton.1 hx]; exact he
theorem EvsOk.work {σ : Net} (h : EvsOk σ) (hok : NetOk σ) (no p : Int) : EvsOk (σ.work no p).2 := by
  rcases work_cases hok no p with ⟨_, h2⟩ | ⟨_, k, _, hk, hp1, hp2, _, e⟩
  · rw [h2]; exact h
  · exact h.snoc e.evs e.n ⟨⟨k, rfl, hk⟩, ⟨k, rfl, hk⟩, .inl rfl, ⟨hp1, hp2⟩, by rw [tick_len]; exact S_clock hok hk⟩
theorem EvsOk.send {σ : Net} (h : EvsOk σ) (hok : NetOk σ) (x y p : Int) : EvsOk (σ.send x y p).2 := by
  rcases send_cases hok x y p with ⟨_, h2⟩ | ⟨_, i, j, _, _, hi, hj, _, hp1, hp2, _, _, e⟩
  · rw [h2]; exact h
  · exact h.snoc e.evs e.n ⟨⟨i, rfl, hi⟩, ⟨j, rfl, hj⟩, .inr (.inl rfl), ⟨hp1, hp2⟩, by rw [tick_len]; exact S_clock hok hi⟩
theorem EvsOk.recv {σ : Net} (h : EvsOk σ) (hok : NetOk σ) (x y : Int) : EvsOk (σ.recv x y).2 := by
  rcases recv_cases hok x y with ⟨_, h2, _⟩ | ⟨_, i, j, _, _, hi, hj, _, m, rest, _, ⟨h0, h1, _, _, e⟩ | ⟨q, _, _, e⟩⟩
  · rw [h2]; exact h
  · exact h.snoc e.evs e.n ⟨⟨j, rfl, hj⟩, ⟨i, rfl, hi⟩, .inr (.inr rfl), ⟨by simp only; omega, h1⟩, by rw [joined, tick_len, mergeTo_len]; exact S_clock hok hj⟩
  · intro x hx; rw [e.evs] at hx; rw [e.n]; exact h x hx
theorem EvsOk.start {σ : Net} (h : EvsOk σ) (hok : NetOk σ) (x : Int) : EvsOk (σ.start x).2.2 := by
  rcases start_cases hok x with ⟨_, _, h2⟩ | ⟨_, _, q, _, _, _, e⟩
  · rw [h2]; exact h
  · intro x hx; rw [e.evs] at hx; rw [e.n]; exact h x hx
theorem EvsOk.act {σ : Net} (h : EvsOk σ) (hok : NetOk σ) (x : ActD) : EvsOk (σ.act x) := by
  unfold Net.act
  split
  · exact h.work hok _ _
  · split
    · exact h.send hok _ _ _
    · split
      · exact h.start hok _
      · exact h.recv hok _ _
theorem NetOk.act {σ : Net} (h : NetOk σ) (x : ActD) : NetOk (σ.act x) := by
  unfold Net.act
  split
  · exact h.work _ _
  · split
    · exact h.send _ _ _
    · split
      · exact h.start _
      · exact h.recv _ _
theorem EvsOk.acts : ∀ (l : List ActD) {σ : Net}, EvsOk σ → NetOk σ → EvsOk (σ.acts l) ∧ NetOk (σ.acts l)
  | [], _, h, hok => ⟨h, hok⟩
  | x :: l, _, h, hok => EvsOk.acts l (h.act hok x) (hok.act x)
theorem EvsOk.new (l : List Int) : EvsOk (Net.new l) := fun e he => by simp [Net.new] at he
end Go.Proofs.Ytnkgfgkgepadhaa

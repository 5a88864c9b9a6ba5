/-
  Plain: what SnapKeeps compares is equal.
-/
import Derived.Test.YtnkgfgkgepadhaaNetCalls
namespace Go.Proofs.Ytnkgfgkgepadhaa
set_option linter.unusedVariables false
set_option linter.unusedSimpArgs false

theorem isum_zsum (f : Nat → Int) (n : Nat) : isum ((List.range n).map f) = zsum n f := by
  induction n with
  | zero => rfl
  | succ n ih => rw [range_map_more, isum_snoc, ih]; rfl
theorem isum_map_zsum {α : Type} (g : α → Int) (d : α) (l : List α) : isum (l.map g) = zsum l.length fun i => g (l.getD i d) := by
  rw [← zsum_isum, List.length_map]
  refine zsum_congr fun i hi => ?_
  simp [List.getD, hi]
theorem total_held {σ : Net} (h : NetOk σ) : σ.total = σ.held2 := by
  unfold Net.total Net.held2
  rw [isum_zsum, ← zsum_add]
  refine zsum_congr fun i hi => ?_
  have hi : i < σ.n := hi
  unfold totOf
  rw [S_of hi]
  simp only
  congr 1
  unfold totRow
  rw [isum_map_zsum totLine [], h.rowLen hi]
  rfl
theorem keeps_total {σ : Net} {p0 : Int} (h : KI σ p0) : σ.total = p0 + madeL (fun _ _ => true) σ.evs := by rw [total_held h.ok]; exact h.tot
def underSum (u : List (List (List Int))) : Int := isum (u.map fun r => isum (r.map isum))
theorem underSum_eq {x : Shot} {n : Nat} (d : Dim x n) : underSum x.under = zsum n fun i => zsum n fun j => isum (x.U i j) := by
  unfold underSum
  rw [isum_map_zsum (fun r => isum (r.map isum)) [], d.u]
  refine zsum_congr fun i hi => ?_
  rw [isum_map_zsum isum [], d.uu i hi]
  rfl
theorem fin_all {x : Shot} {n : Nat} (h : x.fin n = true) : (∀ i, i < n → x.R i = true ∨ n = 0) ∧ ∀ i j, i < n → j < n → x.R i = true ∧ (i ≠ j → x.C i j = true) := by
  have key : ∀ i j, i < n → j < n → x.R i = true ∧ (i ≠ j → x.C i j = true) := fun i j hi hj => by
    unfold Shot.fin at h
    rw [List.all_eq_true] at h
    have h1 := h i (List.mem_range.2 hi)
    rw [List.all_eq_true] at h1
    have h2 := h1 j (List.mem_range.2 hj)
    unfold cellOk at h2
    rw [Bool.and_eq_true, Bool.or_eq_true] at h2
    exact ⟨h2.1, fun hij => h2.2.resolve_left (fun h => hij (by simpa using h))⟩
  exact ⟨fun i hi => .inl (key i i hi hi).1, key⟩
theorem keeps_shot {σ : Net} {p0 : Int} (h : KI σ p0) {k : Nat} (hk : k < σ.shots.length) (hf : (σ.X k).fin σ.n = true) :
    isum (σ.X k).pieces + underSum (σ.X k).under = p0 + madeL (okCut (σ.X k).cut) σ.evs := by
  have s := h.sh k hk
  have d := h.ok.dim hk
  obtain ⟨_, hall⟩ := fin_all hf
  have hR : ∀ i, i < σ.n → (σ.X k).R i = true := fun i hi => (hall i i hi hi).1
  have h1 : zsum σ.n (Pst σ (σ.X k)) = isum (σ.X k).pieces := by
    rw [← zsum_isum, d.p]
    exact zsum_congr fun i hi => by unfold Pst; rw [if_pos (hR i hi)]; rfl
  have h2 : zsum σ.n (fun i => zsum σ.n (Cst σ (σ.X k) k i)) = underSum (σ.X k).under := by
    rw [underSum_eq d]
    refine zsum2_congr fun i j hi hj => ?_
    unfold Cst
    by_cases hij : i = j
    · subst hij
      rw [h.di i]
      split <;> simp [before, totLine, isum]
    · rw [if_pos ((hall i j hi hj).2 hij)]; omega
  have h3 : madeL (okT σ (σ.X k)) σ.evs = madeL (okCut (σ.X k).cut) σ.evs := madeL_congr fun s' c hc => by
    have hpos : 0 < cntE σ.evs s' := by omega
    unfold cntE at hpos
    obtain ⟨ev, hev, hs⟩ := List.countP_pos_iff.1 hpos
    obtain ⟨a, h5, ha⟩ := h.st ev hev
    have hs : ev.station = s' := by simpa using hs
    subst hs
    rw [h5]
    unfold okT okCut Tst
    rw [Int.toNat_natCast, if_pos (hR a ha)]
    rfl
  have := s.sum
  rw [h1, h2, h3] at this
  exact this
/-- The bounds that the sums of a snapshot need. -/
theorem keeps_bounds {σ : Net} {p0 : Int} (h : KI σ p0) {k : Nat} (hk : k < σ.shots.length) : (∀ a ∈ (σ.X k).pieces, 0 ≤ a ∧ a ≤ 1000000000) ∧ ∀ r ∈ (σ.X k).under, r.length ≤ 5 ∧ ∀ q ∈ r, q.length ≤ 400 ∧ ∀ a ∈ q, 0 ≤ a ∧ a ≤ 1000000 := by
  have s := h.sh k hk
  have d := h.ok.dim hk
  have hn5 := h.ok.n5
  have hev := h.ok.evs
  obtain ⟨_, _, _, _, _, a6, a7⟩ := h.ok.shot _ (List.mem_of_getElem? (Net.X_some hk))
  refine ⟨fun a ha => ?_, fun r hr => ⟨by have := (a7 r hr).1; omega, fun q hq => ⟨by have := (a7 r hr).2 q hq; omega, fun a ha => ?_⟩⟩⟩
  · obtain ⟨i, hi, rfl⟩ := List.mem_iff_getElem.1 ha
    have hi' := hi
    rw [d.p] at hi
    have := s.p i hi
    unfold Shot.P at this
    rw [getD_some (List.getElem?_eq_getElem hi')] at this
    exact this
  · obtain ⟨i, hi, rfl⟩ := List.mem_iff_getElem.1 hr
    obtain ⟨j, hj, rfl⟩ := List.mem_iff_getElem.1 hq
    have := s.ub i j a
    unfold Shot.U at this
    rw [getD_some (List.getElem?_eq_getElem hi), getD_some (List.getElem?_eq_getElem hj)] at this
    exact this ha

/-- The events of a net. -/
structure EvOk (n : Nat) (e : Ev) : Prop where
  st : ∃ k : Nat, e.station = k ∧ k < n
  ot : ∃ k : Nat, e.other = k ∧ k < n
  wh : e.what = 1 ∨ e.what = 2 ∨ e.what = 3
  pc : 1 ≤ e.pieces ∧ e.pieces ≤ 1000000
  cl : e.clock.length = n
def EvsOk (σ : Net) : Prop := ∀ e ∈ σ.evs, EvOk σ.n e
theorem mergeTo_len (c m : List Int) (j t : Nat) : (mergeTo c m j t).length = c.length := mergeTo_length c m j t
theorem tick_len (c : List Int) (k : Nat) : (tick c k).length = c.length := by simp [tick]
theorem S_clock {σ : Net} (h : NetOk σ) {i : Nat} (hi : i < σ.n) : (σ.S i).clock.length = σ.n := (h.sta _ (List.mem_of_getElem? (S_of hi))).1
theorem EvsOk.snoc {σ σ' : Net} {e : Ev} (h : EvsOk σ) (hE : σ'.evs = σ.evs ++ [e]) (hn : σ'.n = σ.n) (he : EvOk σ.n e) : EvsOk σ' := fun x hx => by
  rw [hE] at hx
  rw [hn]
  rcases List.mem_append.1 hx with hx | hx
  · exact h x hx
  · rw [List.mem_singleton.1 hx]; exact he
theorem EvsOk.work {σ : Net} (h : EvsOk σ) (hok : NetOk σ) (no p : Int) : EvsOk (σ.work no p).2 := by
  rcases work_cases hok no p with ⟨_, h2⟩ | ⟨_, k, _, hk, hp1, hp2, _, e⟩
  · rw [h2]; exact h
  · exact h.snoc e.evs e.n ⟨⟨k, rfl, hk⟩, ⟨k, rfl, hk⟩, .inl rfl, ⟨hp1, hp2⟩, by rw [tick_len]; exact S_clock hok hk⟩
theorem EvsOk.send {σ : Net} (h : EvsOk σ) (hok : NetOk σ) (x y p : Int) : EvsOk (σ.send x y p).2 := by
  rcases send_cases hok x y p with ⟨_, h2⟩ | ⟨_, i, j, _, _, hi, hj, _, hp1, hp2, _, _, e⟩
  · rw [h2]; exact h
  · exact h.snoc e.evs e.n ⟨⟨i, rfl, hi⟩, ⟨j, rfl, hj⟩, .inr (.inl rfl), ⟨hp1, hp2⟩, by rw [tick_len]; exact S_clock hok hi⟩
theorem EvsOk.recv {σ : Net} (h : EvsOk σ) (hok : NetOk σ) (x y : Int) : EvsOk (σ.recv x y).2 := by
  rcases recv_cases hok x y with ⟨_, h2, _⟩ | ⟨_, i, j, _, _, hi, hj, _, m, rest, _, ⟨h0, h1, _, _, e⟩ | ⟨q, _, _, e⟩⟩
  · rw [h2]; exact h
  · exact h.snoc e.evs e.n ⟨⟨j, rfl, hj⟩, ⟨i, rfl, hi⟩, .inr (.inr rfl), ⟨by simp only; omega, h1⟩, by rw [joined, tick_len, mergeTo_len]; exact S_clock hok hj⟩
  · intro x hx; rw [e.evs] at hx; rw [e.n]; exact h x hx
theorem EvsOk.start {σ : Net} (h : EvsOk σ) (hok : NetOk σ) (x : Int) : EvsOk (σ.start x).2.2 := by
  rcases start_cases hok x with ⟨_, _, h2⟩ | ⟨_, _, q, _, _, _, e⟩
  · rw [h2]; exact h
  · intro x hx; rw [e.evs] at hx; rw [e.n]; exact h x hx
theorem EvsOk.act {σ : Net} (h : EvsOk σ) (hok : NetOk σ) (x : ActD) : EvsOk (σ.act x) := by
  unfold Net.act
  split
  · exact h.work hok _ _
  · split
    · exact h.send hok _ _ _
    · split
      · exact h.start hok _
      · exact h.recv hok _ _
theorem NetOk.act {σ : Net} (h : NetOk σ) (x : ActD) : NetOk (σ.act x) := by
  unfold Net.act
  split
  · exact h.work _ _
  · split
    · exact h.send _ _ _
    · split
      · exact h.start _
      · exact h.recv _ _
theorem EvsOk.acts : ∀ (l : List ActD) {σ : Net}, EvsOk σ → NetOk σ → EvsOk (σ.acts l) ∧ NetOk (σ.acts l)
  | [], _, h, hok => ⟨h, hok⟩
  | x :: l, _, h, hok => EvsOk.acts l (h.act hok x) (hok.act x)
theorem EvsOk.new (l : List Int) : EvsOk (Net.new l) := fun e he => by simp [Net.new] at he
end Go.Proofs.Ytnkgfgkgepadhaa

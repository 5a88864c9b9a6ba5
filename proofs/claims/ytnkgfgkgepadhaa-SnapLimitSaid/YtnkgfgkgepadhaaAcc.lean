/-
  Plain: what the calls do to a net, place by place.
-/
import Derived.Test.YtnkgfgkgepadhaaKeep
namespace Go.Proofs.Ytnkgfgkgepadhaa
set_option linter.unusedVariables false
set_option linter.unusedSimpArgs false

theorem getD_set {α : Type} (l : List α) (i k : Nat) (x d : α) : (l.set i x).getD k d = if i = k ∧ k < l.length then x else l.getD k d := by
  simp only [List.getD, List.getElem?_set]
  by_cases h : i = k
  · subst h
    by_cases h' : i < l.length
    · simp [h']
    · simp [h']
  · simp [h]
theorem getD_of_ge {α : Type} (l : List α) (k : Nat) (d : α) (h : l.length ≤ k) : l.getD k d = d := by simp [List.getD, List.getElem?_eq_none h]
def dfSta : Sta := ⟨0, 0, []⟩
def dfShot : Shot := ⟨[], [], [], [], []⟩
def Net.n (σ : Net) : Nat := σ.sta.length
def Net.S (σ : Net) (k : Nat) : Sta := σ.sta.getD k dfSta
def Net.X (σ : Net) (k : Nat) : Shot := σ.shots.getD k dfShot
def Shot.R (x : Shot) (j : Nat) : Bool := x.recorded.getD j false
def Shot.C (x : Shot) (i j : Nat) : Bool := (x.closed.getD i []).getD j false
def Shot.U (x : Shot) (i j : Nat) : List Int := (x.under.getD i []).getD j []
def Shot.P (x : Shot) (j : Nat) : Int := x.pieces.getD j 0
def Shot.T (x : Shot) (j : Nat) : Int := x.cut.getD j 0

theorem NetOk.rowLen {σ : Net} (h : NetOk σ) {i : Nat} (hi : i < σ.n) : (σ.chan.getD i []).length = σ.n := by
  obtain ⟨r, hr⟩ : ∃ r, σ.chan[i]? = some r := ⟨_, List.getElem?_eq_getElem (by rw [h.rows]; exact hi)⟩
  rw [getD_some hr]
  exact h.cols r (List.mem_of_getElem? hr)
theorem NetOk.S_mem {σ : Net} (h : NetOk σ) {k : Nat} (hk : k < σ.n) : σ.sta[k]? = some (σ.S k) := by simp [Net.S, List.getD, List.getElem?_eq_getElem hk]
theorem Net.X_some {σ : Net} {k : Nat} (hk : k < σ.shots.length) : σ.shots[k]? = some (σ.X k) := by simp [Net.X, List.getD, List.getElem?_eq_getElem hk]
theorem Net.X_of {σ : Net} {k : Nat} {x : Shot} (hx : σ.shots[k]? = some x) : σ.X k = x := getD_some hx _
/-- The sizes of a snapshot. -/
structure Dim (x : Shot) (n : Nat) : Prop where
  r : x.recorded.length = n
  c : x.closed.length = n
  cc : ∀ i, i < n → (x.closed.getD i []).length = n
  t : x.cut.length = n
  p : x.pieces.length = n
  u : x.under.length = n
  uu : ∀ i, i < n → (x.under.getD i []).length = n
theorem NetOk.dim {σ : Net} (h : NetOk σ) {k : Nat} (hk : k < σ.shots.length) : Dim (σ.X k) σ.n := by
  obtain ⟨a1, a2, a3, a4, a5, a6, a7⟩ := h.shot _ (List.mem_of_getElem? (Net.X_some hk))
  have g : ∀ {α : Type} {l : List α} {i : Nat} {d : α}, i < l.length → l.getD i d ∈ l := fun {α l i d} hi => by simp [List.getD, List.getElem?_eq_getElem hi]
  have e : σ.n = σ.sta.length := rfl
  exact ⟨a1, a2, fun i hi => a3 _ (g (by omega)), a4, a5, a6, fun i hi => (a7 _ (g (by omega))).1⟩

/-! ### Channels -/
theorem lineAt_set {σ : Net} (h : NetOk σ) {i j : Nat} (hi : i < σ.n) (hj : j < σ.n) {r : List (List Msg)} (hr : σ.chan[i]? = some r) (l : List Msg) (a b : Nat) :
    Net.lineAt { σ with chan := σ.chan.set i (r.set j l) } a b = if a = i ∧ b = j then l else σ.lineAt a b := by
  have hil : i < σ.chan.length := by rw [h.rows]; exact hi
  have hrl := h.cols r (List.mem_of_getElem? hr)
  have hjl : j < r.length := by rw [hrl]; exact hj
  simp only [Net.lineAt]
  rw [getD_set]
  by_cases hai : a = i
  · subst hai
    rw [if_pos ⟨rfl, hil⟩, getD_set, getD_some hr]
    by_cases hbj : b = j
    · subst hbj; rw [if_pos ⟨rfl, hjl⟩, if_pos ⟨rfl, rfl⟩]
    · rw [if_neg (fun h => hbj h.1.symm), if_neg (fun h => hbj h.2)]
  · rw [if_neg (fun h => hai h.1.symm), if_neg (fun h => hai h.1)]
theorem lineAt_push {σ : Net} (h : NetOk σ) {i j : Nat} (hi : i < σ.n) (hj : j < σ.n) (x : Msg) (a b : Nat) :
    (σ.push i j x).lineAt a b = if a = i ∧ b = j then σ.lineAt i j ++ [x] else σ.lineAt a b := by
  obtain ⟨r, hr⟩ : ∃ r, σ.chan[i]? = some r := ⟨_, List.getElem?_eq_getElem (by rw [h.rows]; exact hi)⟩
  unfold Net.push
  rw [hr]
  simp only
  rw [lineAt_set h hi hj hr]
  simp only [Net.lineAt, getD_some hr]
theorem lineAt_drop {σ : Net} (h : NetOk σ) {i j : Nat} (hi : i < σ.n) (hj : j < σ.n) (a b : Nat) :
    (σ.drop i j).lineAt a b = if a = i ∧ b = j then (σ.lineAt i j).drop 1 else σ.lineAt a b := by
  obtain ⟨r, hr⟩ : ∃ r, σ.chan[i]? = some r := ⟨_, List.getElem?_eq_getElem (by rw [h.rows]; exact hi)⟩
  unfold Net.drop
  rw [hr]
  simp only
  rw [lineAt_set h hi hj hr]
  simp only [Net.lineAt, getD_some hr]
theorem Net.push_keeps (σ : Net) (i j : Nat) (x : Msg) : (σ.push i j x).sta = σ.sta ∧ (σ.push i j x).shots = σ.shots ∧ (σ.push i j x).evs = σ.evs := by
  unfold Net.push; split <;> exact ⟨rfl, rfl, rfl⟩
/-- The dimensions of the channels alone. -/
def ChOk (σ : Net) : Prop := σ.chan.length = σ.sta.length ∧ ∀ r ∈ σ.chan, r.length = σ.sta.length
theorem NetOk.ch {σ : Net} (h : NetOk σ) : ChOk σ := ⟨h.rows, h.cols⟩
theorem ChOk.push {σ : Net} (h : ChOk σ) (i j : Nat) (x : Msg) : ChOk (σ.push i j x) := by
  unfold Net.push
  split
  · rename_i r hr
    refine ⟨by simpa using h.1, fun q hq => ?_⟩
    rcases List.mem_or_eq_of_mem_set hq with h' | rfl
    · exact h.2 q h'
    · rw [List.length_set]; exact h.2 r (List.mem_of_getElem? hr)
  · exact h
theorem ChOk.lineAt_push {σ : Net} (h : ChOk σ) {i j : Nat} (hi : i < σ.n) (hj : j < σ.n) (x : Msg) (a b : Nat) :
    (σ.push i j x).lineAt a b = if a = i ∧ b = j then σ.lineAt i j ++ [x] else σ.lineAt a b := by
  have hil : i < σ.chan.length := by rw [h.1]; exact hi
  obtain ⟨r, hr⟩ : ∃ r, σ.chan[i]? = some r := ⟨_, List.getElem?_eq_getElem hil⟩
  have hrl := h.2 r (List.mem_of_getElem? hr)
  have hjl : j < r.length := by rw [hrl]; exact hj
  unfold Net.push
  rw [hr]
  simp only [Net.lineAt]
  rw [getD_set]
  by_cases hai : a = i
  · subst hai
    rw [if_pos ⟨rfl, hil⟩, getD_set, getD_some hr]
    by_cases hbj : b = j
    · subst hbj; rw [if_pos ⟨rfl, hjl⟩, if_pos ⟨rfl, rfl⟩]
    · rw [if_neg (fun h => hbj h.1.symm), if_neg (fun h => hbj h.2)]
  · rw [if_neg (fun h => hai h.1.symm), if_neg (fun h => hai h.1)]
theorem ChOk.mark {σ : Net} (h : ChOk σ) (k : Nat) (no : Int) : ∀ t, ChOk (σ.mark k no t)
  | 0 => h
  | t + 1 => by
    unfold Net.mark
    split
    · exact ChOk.mark h k no t
    · exact (ChOk.mark h k no t).push _ _ _
theorem lineAt_mark {σ : Net} (h : ChOk σ) {k : Nat} (no : Int) (hk : k < σ.n) : ∀ t, t ≤ σ.n → ∀ a b, (σ.mark k no t).lineAt a b = if a = k ∧ b < t ∧ b ≠ k then σ.lineAt a b ++ [⟨-no, []⟩] else σ.lineAt a b
  | 0, _, a, b => by rw [if_neg (by omega)]; rfl
  | t + 1, ht, a, b => by
    have ih := lineAt_mark h no hk t (by omega)
    unfold Net.mark
    by_cases htk : t = k
    · rw [if_pos htk, ih]
      by_cases hc : a = k ∧ b < t ∧ b ≠ k
      · rw [if_pos hc, if_pos ⟨hc.1, by omega, hc.2.2⟩]
      · rw [if_neg hc, if_neg (fun h => hc ⟨h.1, by omega, h.2.2⟩)]
    · have hn : (σ.mark k no t).n = σ.n := by unfold Net.n; rw [(Net.mark_keeps σ k no t).1]
      rw [if_neg htk, ChOk.lineAt_push (h.mark k no t) (by rw [hn]; exact hk) (by rw [hn]; omega), ih, ih]
      by_cases hc : a = k ∧ b = t
      · obtain ⟨rfl, rfl⟩ := hc
        rw [if_pos ⟨rfl, rfl⟩, if_neg (by omega), if_pos ⟨rfl, by omega, htk⟩]
      · rw [if_neg hc]
        by_cases hc2 : a = k ∧ b < t ∧ b ≠ k
        · rw [if_pos hc2, if_pos ⟨hc2.1, by omega, hc2.2.2⟩]
        · rw [if_neg hc2, if_neg (fun h => by
            rcases Nat.lt_or_ge b t with h' | h'
            · exact hc2 ⟨h.1, h', h.2.2⟩
            · exact hc ⟨h.1, by omega⟩)]

/-! ### Snapshots -/
theorem X_set {σ : Net} {i : Nat} (hi : i < σ.shots.length) (x : Shot) (k : Nat) : Net.X { σ with shots := σ.shots.set i x } k = if k = i then x else σ.X k := by
  simp only [Net.X]
  rw [getD_set]
  by_cases h : k = i
  · subst h; rw [if_pos ⟨rfl, hi⟩, if_pos rfl]
  · rw [if_neg (fun h' => h h'.1.symm), if_neg h]
/-- What recording does to a snapshot. -/
def Shot.note (x : Shot) (k : Nat) (s : Sta) : Shot := { x with recorded := x.recorded.set k true, pieces := x.pieces.set k s.pieces, cut := x.cut.set k s.events }
def Shot.shut (x : Shot) (i j : Nat) : Shot := { x with closed := x.closed.set i ((x.closed.getD i []).set j true) }
def Shot.more (x : Shot) (i j : Nat) (p : Int) : Shot := { x with under := x.under.set i ((x.under.getD i []).set j ((x.under.getD i []).getD j [] ++ [p])) }
section
variable {x : Shot} {n : Nat} (d : Dim x n)
include d
theorem note_R {k : Nat} (hk : k < n) (s : Sta) (j : Nat) : (x.note k s).R j = if j = k then true else x.R j := by
  have := d.r
  simp only [Shot.note, Shot.R]; rw [getD_set]
  by_cases h : j = k
  · subst h; rw [if_pos ⟨rfl, by omega⟩, if_pos rfl]
  · rw [if_neg (fun h' => h h'.1.symm), if_neg h]
theorem note_P {k : Nat} (hk : k < n) (s : Sta) (j : Nat) : (x.note k s).P j = if j = k then s.pieces else x.P j := by
  have := d.p
  simp only [Shot.note, Shot.P]; rw [getD_set]
  by_cases h : j = k
  · subst h; rw [if_pos ⟨rfl, by omega⟩, if_pos rfl]
  · rw [if_neg (fun h' => h h'.1.symm), if_neg h]
theorem note_T {k : Nat} (hk : k < n) (s : Sta) (j : Nat) : (x.note k s).T j = if j = k then s.events else x.T j := by
  have := d.t
  simp only [Shot.note, Shot.T]; rw [getD_set]
  by_cases h : j = k
  · subst h; rw [if_pos ⟨rfl, by omega⟩, if_pos rfl]
  · rw [if_neg (fun h' => h h'.1.symm), if_neg h]
theorem shut_C {i j : Nat} (hi : i < n) (hj : j < n) (a b : Nat) : (x.shut i j).C a b = if a = i ∧ b = j then true else x.C a b := by
  have h1 := d.c
  have h2 := d.cc i hi
  simp only [Shot.shut, Shot.C]; rw [getD_set]
  by_cases h : a = i
  · subst h
    rw [if_pos ⟨rfl, by omega⟩, getD_set]
    by_cases h' : b = j
    · subst h'; rw [if_pos ⟨rfl, by omega⟩, if_pos ⟨rfl, rfl⟩]
    · rw [if_neg (fun h'' => h' h''.1.symm), if_neg (fun h'' => h' h''.2)]
  · rw [if_neg (fun h' => h h'.1.symm), if_neg (fun h' => h h'.1)]
theorem more_U {i j : Nat} (hi : i < n) (hj : j < n) (p : Int) (a b : Nat) : (x.more i j p).U a b = if a = i ∧ b = j then x.U i j ++ [p] else x.U a b := by
  have h1 := d.u
  have h2 := d.uu i hi
  simp only [Shot.more, Shot.U]; rw [getD_set]
  by_cases h : a = i
  · subst h
    rw [if_pos ⟨rfl, by omega⟩, getD_set]
    by_cases h' : b = j
    · subst h'; rw [if_pos ⟨rfl, by omega⟩, if_pos ⟨rfl, rfl⟩]
    · rw [if_neg (fun h'' => h' h''.1.symm), if_neg (fun h'' => h' h''.2)]
  · rw [if_neg (fun h' => h h'.1.symm), if_neg (fun h' => h h'.1)]
end
theorem Net.record_eq {σ : Net} {k i : Nat} (hk : k < σ.n) (hi : i < σ.shots.length) :
    σ.record k i = Net.mark { σ with shots := σ.shots.set i ((σ.X i).note k (σ.S k)) } k (i + 1) σ.n := by
  unfold Net.record
  rw [show σ.sta[k]? = some (σ.S k) by simp [Net.S, List.getD, List.getElem?_eq_getElem hk], Net.X_some hi]
  rfl
/-- What recording does. -/
theorem record_eff {σ : Net} (h : NetOk σ) {k i : Nat} (hk : k < σ.n) (hi : i < σ.shots.length) :
    (σ.record k i).sta = σ.sta ∧ (σ.record k i).evs = σ.evs ∧ (σ.record k i).shots.length = σ.shots.length ∧ (∀ q, (σ.record k i).X q = if q = i then (σ.X i).note k (σ.S k) else σ.X q) ∧
      ∀ a b, (σ.record k i).lineAt a b = if a = k ∧ b < σ.n ∧ b ≠ k then σ.lineAt a b ++ [⟨-((i : Int) + 1), []⟩] else σ.lineAt a b := by
  rw [Net.record_eq hk hi]
  obtain ⟨k1, k2, k3, k4⟩ := Net.mark_keeps { σ with shots := σ.shots.set i ((σ.X i).note k (σ.S k)) } k (i + 1) σ.n
  refine ⟨k1, k3, by rw [k2]; simp, fun q => ?_, fun a b => ?_⟩
  · rw [← X_set hi]
    exact congrArg (fun l : List Shot => l.getD q dfShot) k2
  · exact lineAt_mark (σ := { σ with shots := σ.shots.set i ((σ.X i).note k (σ.S k)) }) h.ch ((i : Int) + 1) hk σ.n (Nat.le_refl _) a b
theorem close_eff {σ : Net} {i j k : Nat} (hk : k < σ.shots.length) :
    (σ.close i j k).sta = σ.sta ∧ (σ.close i j k).evs = σ.evs ∧ (σ.close i j k).chan = σ.chan ∧ (σ.close i j k).shots.length = σ.shots.length ∧ (∀ q, (σ.close i j k).X q = if q = k then (σ.X k).shut i j else σ.X q) := by
  unfold Net.close
  rw [Net.X_some hk]
  exact ⟨rfl, rfl, rfl, by simp, fun q => X_set hk _ q⟩
theorem X_underTo {σ : Net} (i j : Nat) (p : Int) : ∀ t q, (σ.underTo i j p t).X q = if q < t ∧ q < σ.shots.length ∧ (σ.X q).R j = true ∧ (σ.X q).C i j = false then (σ.X q).more i j p else σ.X q
  | 0, q => by rw [if_neg (by omega)]; rfl
  | t + 1, q => by
    have ih := X_underTo (σ := σ) i j p t
    obtain ⟨k1, k2, k3, k4, k5⟩ := Net.underTo_keeps σ i j p t
    by_cases hl : t < σ.shots.length
    · have hx : (σ.underTo i j p t).shots[t]? = some (σ.X t) := by rw [k5 t (Nat.le_refl _)]; exact Net.X_some hl
      unfold Net.underTo
      rw [hx]
      simp only
      by_cases hc : (σ.X t).recorded.getD j false = true ∧ ((σ.X t).closed.getD i []).getD j false = false
      · rw [if_pos hc]
        have := X_set (σ := σ.underTo i j p t) (i := t) (by rw [k4]; exact hl) ((σ.X t).more i j p) q
        refine Eq.trans this ?_
        by_cases hq : q = t
        · subst hq; rw [if_pos rfl, if_pos ⟨by omega, hl, hc⟩]
        · rw [if_neg hq, ih]
          by_cases hc2 : q < t ∧ q < σ.shots.length ∧ (σ.X q).R j = true ∧ (σ.X q).C i j = false
          · rw [if_pos hc2, if_pos ⟨by omega, hc2.2⟩]
          · rw [if_neg hc2, if_neg (fun h => hc2 ⟨by omega, h.2⟩)]
      · rw [if_neg hc, ih]
        by_cases hc2 : q < t ∧ q < σ.shots.length ∧ (σ.X q).R j = true ∧ (σ.X q).C i j = false
        · rw [if_pos hc2, if_pos ⟨by omega, hc2.2⟩]
        · rw [if_neg hc2, if_neg (fun h => by
            rcases Nat.lt_or_ge q t with h' | h'
            · exact hc2 ⟨h', h.2⟩
            · obtain rfl : q = t := by omega
              exact hc h.2.2)]
    · have hx : (σ.underTo i j p t).shots[t]? = none := by rw [k5 t (Nat.le_refl _)]; exact List.getElem?_eq_none (by omega)
      unfold Net.underTo
      rw [hx]
      simp only
      rw [ih]
      by_cases hc2 : q < t ∧ q < σ.shots.length ∧ (σ.X q).R j = true ∧ (σ.X q).C i j = false
      · rw [if_pos hc2, if_pos ⟨by omega, hc2.2⟩]
      · rw [if_neg hc2, if_neg (fun h => hc2 ⟨by omega, h.2⟩)]
end Go.Proofs.Ytnkgfgkgepadhaa

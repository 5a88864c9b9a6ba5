/-
  Plain: what the calls do to a net, place by place. Plain: each call of a net, as a whole: an error and nothing changed, or what has changed.
-/
import Derived.Test.YtnkgfgkgepadhaaKeep
namespace Go.Proofs.Ytnkgfgkgepadhaa
set_option linter.unusedVariables false
set_option linter.unusedSimpArgs false

theorem getD_set {α : Type} (l : List α) (i k : Nat) (x d : α) : (l.set i x).getD k d = if i = k ∧ k < l.length then x else l.getD k d := by
  simp only [List.getD, List.getElem?_set]
  by_cases h : i = k
  · subst h
    by_cases h' : i < l.length
    · simp [h']
    · simp [h']
  · simp [h]
theorem getD_of_ge {α : Type} (l : List α) (k : Nat) (d : α) (h : l.length ≤ k) : l.getD k d = d := by simp [List.getD, List.getElem?_eq_none h]
def dfSta : Sta := ⟨0, 0, []⟩
def dfShot : Shot := ⟨[], [], [], [], []⟩
def Net.n (σ : Net) : Nat := σ.sta.length
def Net.S (σ : Net) (k : Nat) : Sta := σ.sta.getD k dfSta
def Net.X (σ : Net) (k : Nat) : Shot := σ.shots.getD k dfShot
def Shot.R (x : Shot) (j : Nat) : Bool := x.recorded.getD j false
def Shot.C (x : Shot) (i j : Nat) : Bool := (x.closed.getD i []).getD j false
def Shot.U (x : Shot) (i j : Nat) : List Int := (x.under.getD i []).getD j []
def Shot.P (x : Shot) (j : Nat) : Int := x.pieces.getD j 0
def Shot.T (x : Shot) (j : Nat) : Int := x.cut.getD j 0

theorem NetOk.rowLen {σ : Net} (h : NetOk σ) {i : Nat} (hi : i < σ.n) : (σ.chan.getD i []).length = σ.n := by
  obtain ⟨r, hr⟩ : ∃ r, σ.chan[i]? = some r := ⟨_, List.getElem?_eq_getElem (by rw [h.rows]; exact hi)⟩
  rw [getD_some hr]
  exact h.cols r (List.mem_of_getElem? hr)
theorem NetOk.S_mem {σ : Net} (h : NetOk σ) {k : Nat} (hk : k < σ.n) : σ.sta[k]? = some (σ.S k) := by simp [Net.S, List.getD, List.getElem?_eq_getElem hk]
theorem Net.X_some {σ : Net} {k : Nat} (hk : k < σ.shots.length) : σ.shots[k]? = some (σ.X k) := by simp [Net.X, List.getD, List.getElem?_eq_getElem hk]
theorem Net.X_of {σ : Net} {k : Nat} {x : Shot} (hx : σ.shots[k]? = some x) : σ.X k = x := getD_some hx _
/-- The sizes of a snapshot. -/
structure Dim (x : Shot) (n : Nat) : Prop where
  r : x.recorded.length = n
  c : x.closed.length = n
  cc : ∀ i, i < n → (x.closed.getD i []).length = n
  t : x.cut.length = n
  p : x.pieces.length = n
  u : x.under.length = n
  uu : ∀ i, i < n → (x.under.getD i []).length = n
theorem NetOk.dim {σ : Net} (h : NetOk σ) {k : Nat} (hk : k < σ.shots.length) : Dim (σ.X k) σ.n := by
  obtain ⟨a1, a2, a3, a4, a5, a6, a7⟩ := h.shot _ (List.mem_of_getElem? (Net.X_some hk))
  have g : ∀ {α : Type} {l : List α} {i : Nat} {d : α}, i < l.length → l.getD i d ∈ l := fun {α l i d} hi => by simp [List.getD, List.getElem?_eq_getElem hi]
  have e : σ.n = σ.sta.length := rfl
  exact ⟨a1, a2, fun i hi => a3 _ (g (by omega)), a4, a5, a6, fun i hi => (a7 _ (g (by omega))).1⟩

/-! ### Channels -/
theorem lineAt_set {σ : Net} (h : NetOk σ) {i j : Nat} (hi : i < σ.n) (hj : j < σ.n) {r : List (List Msg)} (hr : σ.chan[i]? = some r) (l : List Msg) (a b : Nat) :
    Net.lineAt { σ with chan := σ.chan.set i (r.set j l) } a b = if a = i ∧ b = j then l else σ.lineAt a b := by
  have hil : i < σ.chan.length := by rw [h.rows]; exact hi
  have hrl := h.cols r (List.mem_of_getElem? hr)
  have hjl : j < r.length := by rw [hrl]; exact hj
  simp only [Net.lineAt]
  rw [getD_set]
  by_cases hai : a = i
  · subst hai
    rw [if_pos ⟨rfl, hil⟩, getD_set, getD_some hr]
    by_cases hbj : b = j
    · subst hbj; rw [if_pos ⟨rfl, hjl⟩, if_pos ⟨rfl, rfl⟩]
    · rw [if_neg (fun h => hbj h.1.symm), if_neg (fun h => hbj h.2)]
  · rw [if_neg (fun h => hai h.1.symm), if_neg (fun h => hai h.1)]
theorem lineAt_push {σ : Net} (h : NetOk σ) {i j : Nat} (hi : i < σ.n) (hj : j < σ.n) (x : Msg) (a b : Nat) :
    (σ.push i j x).lineAt a b = if a = i ∧ b = j then σ.lineAt i j ++ [x] else σ.lineAt a b := by
  obtain ⟨r, hr⟩ : ∃ r, σ.chan[i]? = some r := ⟨_, List.getElem?_eq_getElem (by rw [h.rows]; exact hi)⟩
  unfold Net.push
  rw [hr]
  simp only
  rw [lineAt_set h hi hj hr]
  simp only [Net.lineAt, getD_some hr]
theorem lineAt_drop {σ : Net} (h : NetOk σ) {i j : Nat} (hi : i < σ.n) (hj : j < σ.n) (a b : Nat) :
    (σ.drop i j).lineAt a b = if a = i ∧ b = j then (σ.lineAt i j).drop 1 else σ.lineAt a b := by
  obtain ⟨r, hr⟩ : ∃ r, σ.chan[i]? = some r := ⟨_, List.getElem?_eq_getElem (by rw [h.rows]; exact hi)⟩
  unfold Net.drop
  rw [hr]
  simp only
  rw [lineAt_set h hi hj hr]
  simp only [Net.lineAt, getD_some hr]
theorem Net.push_keeps (σ : Net) (i j : Nat) (x : Msg) : (σ.push i j x).sta = σ.sta ∧ (σ.push i j x).shots = σ.shots ∧ (σ.push i j x).evs = σ.evs := by
  unfold Net.push; split <;> exact ⟨rfl, rfl, rfl⟩
/-- The dimensions of the channels alone. -/
def ChOk (σ : Net) : Prop := σ.chan.length = σ.sta.length ∧ ∀ r ∈ σ.chan, r.length = σ.sta.length
theorem NetOk.ch {σ : Net} (h : NetOk σ) : ChOk σ := ⟨h.rows, h.cols⟩
theorem ChOk.push {σ : Net} (h : ChOk σ) (i j : Nat) (x : Msg) : ChOk (σ.push i j x) := by
  unfold Net.push
  split
  · rename_i r hr
    refine ⟨by simpa using h.1, fun q hq => ?_⟩
    rcases List.mem_or_eq_of_mem_set hq with h' | rfl
    · exact h.2 q h'
    · rw [List.length_set]; exact h.2 r (List.mem_of_getElem? hr)
  · exact h
theorem ChOk.lineAt_push {σ : Net} (h : ChOk σ) {i j : Nat} (hi : i < σ.n) (hj : j < σ.n) (x : Msg) (a b : Nat) :
    (σ.push i j x).lineAt a b = if a = i ∧ b = j then σ.lineAt i j ++ [x] else σ.lineAt a b := by
  have hil : i < σ.chan.length := by rw [h.1]; exact hi
  obtain ⟨r, hr⟩ : ∃ r, σ.chan[i]? = some r := ⟨_, List.getElem?_eq_getElem hil⟩
  have hrl := h.2 r (List.mem_of_getElem? hr)
  have hjl : j < r.length := by rw [hrl]; exact hj
  unfold Net.push
  rw [hr]
  simp only [Net.lineAt]
  rw [getD_set]
  by_cases hai : a = i
  · subst hai
    rw [if_pos ⟨rfl, hil⟩, getD_set, getD_some hr]
    by_cases hbj : b = j
    · subst hbj; rw [if_pos ⟨rfl, hjl⟩, if_pos ⟨rfl, rfl⟩]
    · rw [if_neg (fun h => hbj h.1.symm), if_neg (fun h => hbj h.2)]
  · rw [if_neg (fun h => hai h.1.symm), if_neg (fun h => hai h.1)]
theorem ChOk.mark {σ : Net} (h : ChOk σ) (k : Nat) (no : Int) : ∀ t, ChOk (σ.mark k no t)
  | 0 => h
  | t + 1 => by
    unfold Net.mark
    split
    · exact ChOk.mark h k no t
    · exact (ChOk.mark h k no t).push _ _ _
theorem lineAt_mark {σ : Net} (h : ChOk σ) {k : Nat} (no : Int) (hk : k < σ.n) : ∀ t, t ≤ σ.n → ∀ a b, (σ.mark k no t).lineAt a b = if a = k ∧ b < t ∧ b ≠ k then σ.lineAt a b ++ [⟨-no, []⟩] else σ.lineAt a b
  | 0, _, a, b => by rw [if_neg (by omega)]; rfl
  | t + 1, ht, a, b => by
    have ih := lineAt_mark h no hk t (by omega)
    unfold Net.mark
    by_cases htk : t = k
    · rw [if_pos htk, ih]
      by_cases hc : a = k ∧ b < t ∧ b ≠ k
      · rw [if_pos hc, if_pos ⟨hc.1, by omega, hc.2.2⟩]
      · rw [if_neg hc, if_neg (fun h => hc ⟨h.1, by omega, h.2.2⟩)]
    · have hn : (σ.mark k no t).n = σ.n := by unfold Net.n; rw [(Net.mark_keeps σ k no t).1]
      rw [if_neg htk, ChOk.lineAt_push (h.mark k no t) (by rw [hn]; exact hk) (by rw [hn]; omega), ih, ih]
      by_cases hc : a = k ∧ b = t
      · obtain ⟨rfl, rfl⟩ := hc
        rw [if_pos ⟨rfl, rfl⟩, if_neg (by omega), if_pos ⟨rfl, by omega, htk⟩]
      · rw [if_neg hc]
        by_cases hc2 : a = k ∧ b < t ∧ b ≠ k
        · rw [if_pos hc2, if_pos ⟨hc2.1, by omega, hc2.2.2⟩]
        · rw [if_neg hc2, if_neg (fun h => by
            rcases Nat.lt_or_ge b t with h' | h'
            · exact hc2 ⟨h.1, h', h.2.2⟩
            · exact hc ⟨h.1, by omega⟩)]

/-! ### Snapshots -/
theorem X_set {σ : Net} {i : Nat} (hi : i < σ.shots.length) (x : Shot) (k : Nat) : Net.X { σ with shots := σ.shots.set i x } k = if k = i then x else σ.X k := by
  simp only [Net.X]
  rw [getD_set]
  by_cases h : k = i
  · subst h; rw [if_pos ⟨rfl, hi⟩, if_pos rfl]
  · rw [if_neg (fun h' => h h'.1.symm), if_neg h]
/-- What recording does to a snapshot. -/
def Shot.note (x : Shot) (k : Nat) (s : Sta) : Shot := { x with recorded := x.recorded.set k true, pieces := x.pieces.set k s.pieces, cut := x.cut.set k s.events }
def Shot.shut (x : Shot) (i j : Nat) : Shot := { x with closed := x.closed.set i ((x.closed.getD i []).set j true) }
def Shot.more (x : Shot) (i j : Nat) (p : Int) : Shot := { x with under := x.under.set i ((x.under.getD i []).set j ((x.under.getD i []).getD j [] ++ [p])) }
section
variable {x : Shot} {n : Nat} (d : Dim x n)
include d
theorem note_R {k : Nat} (hk : k < n) (s : Sta) (j : Nat) : (x.note k s).R j = if j = k then true else x.R j := by
  have := d.r
  simp only [Shot.note, Shot.R]; rw [getD_set]
  by_cases h : j = k
  · subst h; rw [if_pos ⟨rfl, by omega⟩, if_pos rfl]
  · rw [if_neg (fun h' => h h'.1.symm), if_neg h]
theorem note_P {k : Nat} (hk : k < n) (s : Sta) (j : Nat) : (x.note k s).P j = if j = k then s.pieces else x.P j := by
  have := d.p
  simp only [Shot.note, Shot.P]; rw [getD_set]
  by_cases h : j = k
  · subst h; rw [if_pos ⟨rfl, by omega⟩, if_pos rfl]
  · rw [if_neg (fun h' => h h'.1.symm), if_neg h]
theorem note_T {k : Nat} (hk : k < n) (s : Sta) (j : Nat) : (x.note k s).T j = if j = k then s.events else x.T j := by
  have := d.t
  simp only [Shot.note, Shot.T]; rw [getD_set]
  by_cases h : j = k
  · subst h; rw [if_pos ⟨rfl, by omega⟩, if_pos rfl]
  · rw [if_neg (fun h' => h h'.1.symm), if_neg h]
theorem shut_C {i j : Nat} (hi : i < n) (hj : j < n) (a b : Nat) : (x.shut i j).C a b = if a = i ∧ b = j then true else x.C a b := by
  have h1 := d.c
  have h2 := d.cc i hi
  simp only [Shot.shut, Shot.C]; rw [getD_set]
  by_cases h : a = i
  · subst h
    rw [if_pos ⟨rfl, by omega⟩, getD_set]
    by_cases h' : b = j
    · subst h'; rw [if_pos ⟨rfl, by omega⟩, if_pos ⟨rfl, rfl⟩]
    · rw [if_neg (fun h'' => h' h''.1.symm), if_neg (fun h'' => h' h''.2)]
  · rw [if_neg (fun h' => h h'.1.symm), if_neg (fun h' => h h'.1)]
theorem more_U {i j : Nat} (hi : i < n) (hj : j < n) (p : Int) (a b : Nat) : (x.more i j p).U a b = if a = i ∧ b = j then x.U i j ++ [p] else x.U a b := by
  have h1 := d.u
  have h2 := d.uu i hi
  simp only [Shot.more, Shot.U]; rw [getD_set]
  by_cases h : a = i
  · subst h
    rw [if_pos ⟨rfl, by omega⟩, getD_set]
    by_cases h' : b = j
    · subst h'; rw [if_pos ⟨rfl, by omega⟩, if_pos ⟨rfl, rfl⟩]
    · rw [if_neg (fun h'' => h' h''.1.symm), if_neg (fun h'' => h' h''.2)]
  · rw [if_neg (fun h' => h h'.1.symm), if_neg (fun h' => h h'.1)]
end
theorem Net.record_eq {σ : Net} {k i : Nat} (hk : k < σ.n) (hi : i < σ.shots.length) :
    σ.record k i = Net.mark { σ with shots := σ.shots.set i ((σ.X i).note k (σ.S k)) } k (i + 1) σ.n := by
  unfold Net.record
  rw [show σ.sta[k]? = some (σ.S k) by simp [Net.S, List.getD, List.getElem?_eq_getElem hk], Net.X_some hi]
  rfl
/-- What recording does. -/
theorem record_eff {σ : Net} (h : NetOk σ) {k i : Nat} (hk : k < σ.n) (hi : i < σ.shots.length) :
    (σ.record k i).sta = σ.sta ∧ (σ.record k i).evs = σ.evs ∧ (σ.record k i).shots.length = σ.shots.length ∧ (∀ q, (σ.record k i).X q = if q = i then (σ.X i).note k (σ.S k) else σ.X q) ∧
      ∀ a b, (σ.record k i).lineAt a b = if a = k ∧ b < σ.n ∧ b ≠ k then σ.lineAt a b ++ [⟨-((i : Int) + 1), []⟩] else σ.lineAt a b := by
  rw [Net.record_eq hk hi]
  obtain ⟨k1, k2, k3, k4⟩ := Net.mark_keeps { σ with shots := σ.shots.set i ((σ.X i).note k (σ.S k)) } k (i + 1) σ.n
  refine ⟨k1, k3, by rw [k2]; simp, fun q => ?_, fun a b => ?_⟩
  · rw [← X_set hi]
    exact congrArg (fun l : List Shot => l.getD q dfShot) k2
  · exact lineAt_mark (σ := { σ with shots := σ.shots.set i ((σ.X i).note k (σ.S k)) }) h.ch ((i : Int) + 1) hk σ.n (Nat.le_refl _) a b
theorem close_eff {σ : Net} {i j k : Nat} (hk : k < σ.shots.length) :
    (σ.close i j k).sta = σ.sta ∧ (σ.close i j k).evs = σ.evs ∧ (σ.close i j k).chan = σ.chan ∧ (σ.close i j k).shots.length = σ.shots.length ∧ (∀ q, (σ.close i j k).X q = if q = k then (σ.X k).shut i j else σ.X q) := by
  unfold Net.close
  rw [Net.X_some hk]
  exact ⟨rfl, rfl, rfl, by simp, fun q => X_set hk _ q⟩
theorem X_underTo {σ : Net} (i j : Nat) (p : Int) : ∀ t q, (σ.underTo i j p t).X q = if q < t ∧ q < σ.shots.length ∧ (σ.X q).R j = true ∧ (σ.X q).C i j = false then (σ.X q).more i j p else σ.X q
  | 0, q => by rw [if_neg (by omega)]; rfl
  | t + 1, q => by
    have ih := X_underTo (σ := σ) i j p t
    obtain ⟨k1, k2, k3, k4, k5⟩ := Net.underTo_keeps σ i j p t
    by_cases hl : t < σ.shots.length
    · have hx : (σ.underTo i j p t).shots[t]? = some (σ.X t) := by rw [k5 t (Nat.le_refl _)]; exact Net.X_some hl
      unfold Net.underTo
      rw [hx]
      simp only
      by_cases hc : (σ.X t).recorded.getD j false = true ∧ ((σ.X t).closed.getD i []).getD j false = false
      · rw [if_pos hc]
        have := X_set (σ := σ.underTo i j p t) (i := t) (by rw [k4]; exact hl) ((σ.X t).more i j p) q
        refine Eq.trans this ?_
        by_cases hq : q = t
        · subst hq; rw [if_pos rfl, if_pos ⟨by omega, hl, hc⟩]
        · rw [if_neg hq, ih]
          by_cases hc2 : q < t ∧ q < σ.shots.length ∧ (σ.X q).R j = true ∧ (σ.X q).C i j = false
          · rw [if_pos hc2, if_pos ⟨by omega, hc2.2⟩]
          · rw [if_neg hc2, if_neg (fun h => hc2 ⟨by omega, h.2⟩)]
      · rw [if_neg hc, ih]
        by_cases hc2 : q < t ∧ q < σ.shots.length ∧ (σ.X q).R j = true ∧ (σ.X q).C i j = false
        · rw [if_pos hc2, if_pos ⟨by omega, hc2.2⟩]
        · rw [if_neg hc2, if_neg (fun h => by
            rcases Nat.lt_or_ge q t with h' | h'
            · exact hc2 ⟨h', h.2⟩
            · obtain rfl : q = t := by omega
              exact hc h.2.2)]
    · have hx : (σ.underTo i j p t).shots[t]? = none := by rw [k5 t (Nat.le_refl _)]; exact List.getElem?_eq_none (by omega)
      unfold Net.underTo
      rw [hx]
      simp only
      rw [ih]
      by_cases hc2 : q < t ∧ q < σ.shots.length ∧ (σ.X q).R j = true ∧ (σ.X q).C i j = false
      · rw [if_pos hc2, if_pos ⟨by omega, hc2.2⟩]
      · rw [if_neg hc2, if_neg (fun h => hc2 ⟨by omega, h.2⟩)]
end Go.Proofs.Ytnkgfgkgepadhaa

namespace Go.Proofs.Ytnkgfgkgepadhaa
set_option linter.unusedVariables false
set_option linter.unusedSimpArgs false

/-- The clock of station k goes on. -/
def tick (c : List Int) (k : Nat) : List Int := c.set k (c.getD k 0 + 1)
structure WorkEff (σ σ' : Net) (k : Nat) (p : Int) : Prop where
  n : σ'.n = σ.n
  S : ∀ q, σ'.S q = if q = k then ⟨(σ.S k).pieces + p, (σ.S k).events + 1, tick (σ.S k).clock k⟩ else σ.S q
  evs : σ'.evs = σ.evs ++ [⟨k, 1, k, p, tick (σ.S k).clock k⟩]
  L : ∀ a b, σ'.lineAt a b = σ.lineAt a b
  shots : σ'.shots = σ.shots
structure SendEff (σ σ' : Net) (i j : Nat) (p : Int) : Prop where
  n : σ'.n = σ.n
  S : ∀ q, σ'.S q = if q = i then ⟨(σ.S i).pieces - p, (σ.S i).events + 1, tick (σ.S i).clock i⟩ else σ.S q
  evs : σ'.evs = σ.evs ++ [⟨i, 2, j, p, tick (σ.S i).clock i⟩]
  L : ∀ a b, σ'.lineAt a b = if a = i ∧ b = j then σ.lineAt i j ++ [⟨p, tick (σ.S i).clock i⟩] else σ.lineAt a b
  shots : σ'.shots = σ.shots
/-- What a parcel's clock does. -/
def joined (c m : List Int) (j : Nat) : List Int := tick (mergeTo c m j m.length) j
structure TakeEff (σ σ' : Net) (i j : Nat) (m : Msg) (rest : List Msg) : Prop where
  n : σ'.n = σ.n
  S : ∀ q, σ'.S q = if q = j then ⟨(σ.S j).pieces + m.told, (σ.S j).events + 1, joined (σ.S j).clock m.clock j⟩ else σ.S q
  evs : σ'.evs = σ.evs ++ [⟨j, 3, i, m.told, joined (σ.S j).clock m.clock j⟩]
  L : ∀ a b, σ'.lineAt a b = if a = i ∧ b = j then rest else σ.lineAt a b
  len : σ'.shots.length = σ.shots.length
  X : ∀ q, σ'.X q = if q < σ.shots.length ∧ (σ.X q).R j = true ∧ (σ.X q).C i j = false then (σ.X q).more i j m.told else σ.X q
structure HeardEff (σ σ' : Net) (i j k : Nat) (rest : List Msg) : Prop where
  n : σ'.n = σ.n
  sta : σ'.sta = σ.sta
  evs : σ'.evs = σ.evs
  len : σ'.shots.length = σ.shots.length
  L : ∀ a b, σ'.lineAt a b = if a = i ∧ b = j then rest else if (σ.X k).R j = false ∧ a = j ∧ b < σ.n ∧ b ≠ j then σ.lineAt a b ++ [⟨-((k : Int) + 1), []⟩] else σ.lineAt a b
  X : ∀ q, σ'.X q = if q = k then (if (σ.X k).R j = true then σ.X k else (σ.X k).note j (σ.S j)).shut i j else σ.X q
structure StartEff (σ σ' : Net) (k : Nat) : Prop where
  n : σ'.n = σ.n
  sta : σ'.sta = σ.sta
  evs : σ'.evs = σ.evs
  len : σ'.shots.length = σ.shots.length + 1
  L : ∀ a b, σ'.lineAt a b = if a = k ∧ b < σ.n ∧ b ≠ k then σ.lineAt a b ++ [⟨-((σ.shots.length : Int) + 1), []⟩] else σ.lineAt a b
  X : ∀ q, σ'.X q = if q = σ.shots.length then (Shot.new σ.n).note k (σ.S k) else σ.X q

theorem S_of {σ : Net} {k : Nat} (hk : k < σ.n) : σ.sta[k]? = some (σ.S k) := by simp [Net.S, List.getD, List.getElem?_eq_getElem (show k < σ.sta.length from hk)]
theorem S_set {σ : Net} {k : Nat} (hk : k < σ.n) (s : Sta) (ch : List (List (List Msg))) (sh : List Shot) (ev : List Ev) (q : Nat) : Net.S ⟨σ.sta.set k s, ch, sh, ev⟩ q = if q = k then s else σ.S q := by
  have hk : k < σ.sta.length := hk
  simp only [Net.S]; rw [getD_set]
  by_cases h : q = k
  · subst h; rw [if_pos ⟨rfl, hk⟩, if_pos rfl]
  · rw [if_neg (fun h' => h h'.1.symm), if_neg h]

theorem work_cases {σ : Net} (h : NetOk σ) (no p : Int) : ((σ.work no p).1 ≠ 0 ∧ (σ.work no p).2 = σ) ∨ ((σ.work no p).1 = 0 ∧ ∃ k : Nat, no = k ∧ k < σ.n ∧ 1 ≤ p ∧ p ≤ 1000000 ∧ σ.evs.length < 400 ∧ WorkEff σ (σ.work no p).2 k p) := by
  unfold Net.work
  split
  · exact .inl ⟨by simp, rfl⟩
  · split
    · exact .inl ⟨by simp, rfl⟩
    · rename_i h1 h2
      have h1 : (0 ≤ no ∧ no < σ.sta.length) ∧ 1 ≤ p ∧ p ≤ 1000000 := Decidable.not_not.1 h1
      obtain ⟨k, rfl⟩ := Int.eq_ofNat_of_zero_le h1.1.1
      have hk : k < σ.n := by show k < σ.sta.length; omega
      refine .inr ⟨rfl, k, rfl, hk, h1.2.1, h1.2.2, by omega, ?_⟩
      simp only [Int.toNat_natCast]
      rw [Net.gain_did (S_of hk)]
      exact ⟨by simp [Net.n], fun q => S_set hk _ _ _ _ q, rfl, fun a b => rfl, rfl⟩
theorem send_cases {σ : Net} (h : NetOk σ) (x y p : Int) : ((σ.send x y p).1 ≠ 0 ∧ (σ.send x y p).2 = σ) ∨
    ((σ.send x y p).1 = 0 ∧ ∃ i j : Nat, x = i ∧ y = j ∧ i < σ.n ∧ j < σ.n ∧ i ≠ j ∧ 1 ≤ p ∧ p ≤ 1000000 ∧ p ≤ (σ.S i).pieces ∧ σ.evs.length < 400 ∧ SendEff σ (σ.send x y p).2 i j p) := by
  unfold Net.send
  split
  · exact .inl ⟨by simp, rfl⟩
  · split
    · exact .inl ⟨by simp, rfl⟩
    · split
      · exact .inl ⟨by simp, rfl⟩
      · split
        · exact .inl ⟨by simp, rfl⟩
        · rename_i h1 h2 h3 h4
          rcases pairErr_cases σ.sta.length x y with h5 | ⟨_, i, j, rfl, rfl, hi, hj, hij⟩
          · exact absurd (by rw [h5]; decide) h1
          · have h2 := parcB_range (by simpa using h2)
            have hs := S_of (σ := σ) hi
            have hheld : σ.held i = (σ.S i).pieces := by simp [Net.held, hs]
            simp only [Int.toNat_natCast] at h3 ⊢
            rw [hheld] at h3
            refine .inr ⟨by first | rfl | trivial, i, j, rfl, rfl, hi, hj, hij, h2.1, h2.2, by omega, by omega, ?_⟩
            have hg := Net.gain_did hs (-p) 2 j p
            have hok := h.workD (by omega) hs (-p) 2 j p (by omega) (by omega)
            rw [hg] at hok ⊢
            have hclk : Net.clockOf { σ with sta := σ.sta.set i ⟨(σ.S i).pieces + -p, (σ.S i).events + 1, (σ.S i).clock.set i ((σ.S i).clock.getD i 0 + 1)⟩, evs := σ.evs ++ [⟨i, 2, j, p, (σ.S i).clock.set i ((σ.S i).clock.getD i 0 + 1)⟩] } i = tick (σ.S i).clock i := by
              have hi' : i < σ.sta.length := hi
              simp [Net.clockOf, hi', tick]
            rw [hclk]
            have hn : Net.n { σ with sta := σ.sta.set i ⟨(σ.S i).pieces + -p, (σ.S i).events + 1, (σ.S i).clock.set i ((σ.S i).clock.getD i 0 + 1)⟩, evs := σ.evs ++ [⟨i, 2, j, p, (σ.S i).clock.set i ((σ.S i).clock.getD i 0 + 1)⟩] } = σ.n := by simp [Net.n]
            obtain ⟨k1, k2, k3⟩ := Net.push_keeps { σ with sta := σ.sta.set i ⟨(σ.S i).pieces + -p, (σ.S i).events + 1, (σ.S i).clock.set i ((σ.S i).clock.getD i 0 + 1)⟩, evs := σ.evs ++ [⟨i, 2, j, p, (σ.S i).clock.set i ((σ.S i).clock.getD i 0 + 1)⟩] } i j ⟨p, tick (σ.S i).clock i⟩
            refine ⟨by unfold Net.n; rw [k1]; simp, fun q => ?_, k3, fun a b => ?_, k2⟩
            · have e := S_set (σ := σ) hi ⟨(σ.S i).pieces + -p, (σ.S i).events + 1, (σ.S i).clock.set i ((σ.S i).clock.getD i 0 + 1)⟩ [] [] [] q
              have e2 : Net.S (Net.push { σ with sta := σ.sta.set i ⟨(σ.S i).pieces + -p, (σ.S i).events + 1, (σ.S i).clock.set i ((σ.S i).clock.getD i 0 + 1)⟩, evs := σ.evs ++ [⟨i, 2, j, p, (σ.S i).clock.set i ((σ.S i).clock.getD i 0 + 1)⟩] } i j ⟨p, tick (σ.S i).clock i⟩) q = Net.S ⟨σ.sta.set i ⟨(σ.S i).pieces + -p, (σ.S i).events + 1, (σ.S i).clock.set i ((σ.S i).clock.getD i 0 + 1)⟩, [], [], []⟩ q := congrArg (fun l : List Sta => l.getD q dfSta) k1
              rw [e2, e]
              rfl
            · exact lineAt_push hok (by rw [hn]; exact hi) (by rw [hn]; exact hj) _ a b

theorem recv_cases {σ : Net} (h : NetOk σ) (x y : Int) : ((σ.recv x y).1 ≠ 0 ∧ (σ.recv x y).2 = σ ∧ ∀ i j : Nat, x = i → y = j → i < σ.n → j < σ.n → i ≠ j → σ.evs.length < 400 → σ.lineAt i j = []) ∨
    ((σ.recv x y).1 = 0 ∧ ∃ i j : Nat, x = i ∧ y = j ∧ i < σ.n ∧ j < σ.n ∧ i ≠ j ∧ ∃ m rest, σ.lineAt i j = m :: rest ∧
      ((0 < m.told ∧ m.told ≤ 1000000 ∧ m.clock.length = σ.n ∧ σ.evs.length < 400 ∧ TakeEff σ (σ.recv x y).2 i j m rest) ∨ (∃ k : Nat, m.told = -((k : Int) + 1) ∧ k < σ.shots.length ∧ HeardEff σ (σ.recv x y).2 i j k rest))) := by
  unfold Net.recv
  rcases pairErr_cases σ.sta.length x y with h5 | ⟨h5, i, j, rfl, rfl, hi, hj, hij⟩
  · rw [if_pos (by rw [h5]; decide)]
    refine .inl ⟨by simp, rfl, fun i j hx hy hi hj hij => ?_⟩
    subst hx; subst hy
    have hi : i < σ.sta.length := hi
    have hj : j < σ.sta.length := hj
    unfold pairErr at h5
    rw [if_pos ⟨by omega, by omega, by omega⟩] at h5
    cases h5
  · rw [if_neg (by rw [h5]; decide)]
    simp only [Int.toNat_natCast]
    obtain ⟨d1, d2, d3⟩ := Net.drop_keeps σ i j
    have hdn : (σ.drop i j).n = σ.n := by unfold Net.n; rw [d1]
    have hdok := h.drop i j
    have hX : ∀ q, (σ.drop i j).X q = σ.X q := fun q => by unfold Net.X; rw [d2]
    have hS : ∀ q, (σ.drop i j).S q = σ.S q := fun q => by unfold Net.S; rw [d1]
    cases hl : σ.lineAt i j with
    | nil =>
      simp only
      refine .inl ⟨by simp, by first | rfl | trivial, fun a b ha hb _ _ _ _ => ?_⟩
      obtain rfl : i = a := by omega
      obtain rfl : j = b := by omega
      exact hl
    | cons m rest =>
      simp only
      have hL : ∀ a b, (σ.drop i j).lineAt a b = if a = i ∧ b = j then rest else σ.lineAt a b := fun a b => by rw [lineAt_drop h hi hj, hl]; rfl
      have hmsg : (0 < m.told ∧ m.told ≤ 1000000 ∧ m.clock.length = σ.sta.length ∧ ∀ t ∈ m.clock, 0 ≤ t ∧ t ≤ σ.evs.length) ∨ (m.told < 0 ∧ -m.told ≤ σ.shots.length ∧ m.clock = []) := by
        obtain ⟨r, hr⟩ : ∃ r, σ.chan[i]? = some r := ⟨_, List.getElem?_eq_getElem (by rw [h.rows]; exact hi)⟩
        have hrm := List.mem_of_getElem? hr
        refine h.msg r hrm (σ.lineAt i j) ?_ m (by rw [hl]; simp)
        have hrl := h.cols r hrm
        simp only [Net.lineAt, getD_some hr]
        simp [List.getD, List.getElem?_eq_getElem (show j < r.length by rw [hrl]; exact hj)]
      by_cases h0 : 0 < m.told
      · rw [if_pos h0]
        by_cases h4 : 400 ≤ σ.evs.length
        · rw [if_pos h4]
          exact .inl ⟨by simp, rfl, fun _ _ _ _ _ _ _ h6 => by omega⟩
        · rw [if_neg h4]
          obtain ⟨m1, m2, m3, m4⟩ := hmsg.resolve_right (by omega)
          refine .inr ⟨by first | rfl | trivial, i, j, rfl, rfl, hi, hj, hij, m, rest, hl, .inl ⟨h0, m2, m3, by omega, ?_⟩⟩
          have hs := S_of (σ := σ.drop i j) (k := j) (by rw [hdn]; exact hj)
          unfold Net.take
          rw [Net.take3 hs, hS]
          simp only
          have hk := fun t => Net.underTo_keeps { σ.drop i j with sta := (σ.drop i j).sta.set j ⟨(σ.S j).pieces + m.told, (σ.S j).events + 1, (mergeTo (σ.S j).clock m.clock j m.clock.length).set j ((mergeTo (σ.S j).clock m.clock j m.clock.length).getD j 0 + 1)⟩, evs := (σ.drop i j).evs ++ [⟨j, 3, i, m.told, (mergeTo (σ.S j).clock m.clock j m.clock.length).set j ((mergeTo (σ.S j).clock m.clock j m.clock.length).getD j 0 + 1)⟩] } i j m.told t
          obtain ⟨k1, k2, k3, k4, k5⟩ := hk (σ.drop i j).shots.length
          refine ⟨?_, fun q => ?_, ?_, fun a b => ?_, ?_, fun q => ?_⟩
          · unfold Net.n; rw [k1]; simp [d1]
          · refine Eq.trans (congrArg (fun l : List Sta => l.getD q dfSta) k1) ?_
            have e := S_set (σ := σ.drop i j) (k := j) (by rw [hdn]; exact hj) ⟨(σ.S j).pieces + m.told, (σ.S j).events + 1, joined (σ.S j).clock m.clock j⟩ [] [] [] q
            rw [hS] at e
            exact e
          · rw [k3, d3]; rfl
          · rw [← hL]; unfold Net.lineAt; rw [k2]
          · rw [k4, d2]
          · rw [X_underTo]
            have e : ∀ q, Net.X { σ.drop i j with sta := (σ.drop i j).sta.set j ⟨(σ.S j).pieces + m.told, (σ.S j).events + 1, (mergeTo (σ.S j).clock m.clock j m.clock.length).set j ((mergeTo (σ.S j).clock m.clock j m.clock.length).getD j 0 + 1)⟩, evs := (σ.drop i j).evs ++ [⟨j, 3, i, m.told, (mergeTo (σ.S j).clock m.clock j m.clock.length).set j ((mergeTo (σ.S j).clock m.clock j m.clock.length).getD j 0 + 1)⟩] } q = σ.X q := hX
            rw [e, d2]
            by_cases hc : q < σ.shots.length ∧ (σ.X q).R j = true ∧ (σ.X q).C i j = false
            · rw [if_pos ⟨hc.1, hc⟩, if_pos hc]
            · rw [if_neg (fun h => hc h.2), if_neg hc]
      · rw [if_neg h0]
        obtain ⟨m1, m2, m3⟩ := hmsg.resolve_left (fun h => h0 h.1)
        obtain ⟨k, hk⟩ : ∃ k : Nat, m.told = -((k : Int) + 1) := ⟨(-m.told - 1).toNat, by omega⟩
        have hkl : k < σ.shots.length := by omega
        rw [show (-m.told - 1).toNat = k by omega]
        refine .inr ⟨by first | rfl | trivial, i, j, rfl, rfl, hi, hj, hij, m, rest, hl, .inr ⟨k, hk, hkl, ?_⟩⟩
        have hkd : k < (σ.drop i j).shots.length := by rw [d2]; exact hkl
        unfold Net.heard
        rw [Net.X_some hkd, hX]
        simp only
        cases hR : (σ.X k).R j with
        | true =>
          have hR' : (σ.X k).recorded.getD j false = true := hR
          rw [if_pos hR']
          obtain ⟨c1, c2, c3, c4, c5⟩ := close_eff (σ := σ.drop i j) (i := i) (j := j) hkd
          refine ⟨by unfold Net.n; rw [c1, d1], by rw [c1, d1], by rw [c2, d3], by rw [c4, d2], fun a b => ?_, fun q => ?_⟩
          · rw [if_neg (c := _ ∧ _ ∧ _ ∧ _) (fun h => by rw [hR] at h; cases h.1), ← hL]
            unfold Net.lineAt; rw [c3]
          · rw [c5, hX, hX, if_pos hR]
        | false =>
          have hR' : ¬ (σ.X k).recorded.getD j false = true := by
            have : (σ.X k).recorded.getD j false = false := hR
            rw [this]; decide
          rw [if_neg hR']
          obtain ⟨r1, r2, r3, r4, r5⟩ := record_eff hdok (k := j) (i := k) (by rw [hdn]; exact hj) hkd
          obtain ⟨c1, c2, c3, c4, c5⟩ := close_eff (σ := (σ.drop i j).record j k) (i := i) (j := j) (k := k) (by rw [r3]; exact hkd)
          refine ⟨by unfold Net.n; rw [c1, r1, d1], by rw [c1, r1, d1], by rw [c2, r2, d3], by rw [c4, r3, d2], fun a b => ?_, fun q => ?_⟩
          · have e : (((σ.drop i j).record j k).close i j k).lineAt a b = ((σ.drop i j).record j k).lineAt a b := by unfold Net.lineAt; rw [c3]
            rw [e, r5, hL, hdn]
            by_cases hc : a = i ∧ b = j
            · rw [if_neg (c := a = j ∧ b < σ.n ∧ b ≠ j) (fun h => hij (hc.1.symm.trans h.1)), if_pos hc, if_pos hc]
            · rw [if_neg hc, if_neg hc]
              by_cases hc2 : a = j ∧ b < σ.n ∧ b ≠ j
              · rw [if_pos hc2, if_pos ⟨hR, hc2⟩]
              · rw [if_neg hc2, if_neg (fun h => hc2 h.2)]
          · rw [c5, r4, r4, hX, hX, hS, if_pos rfl, if_neg (c := (σ.X k).R j = true) (by rw [hR]; decide)]
            by_cases hq : q = k
            · rw [if_pos hq, if_pos hq]
            · rw [if_neg hq, if_neg hq, if_neg hq]

theorem start_cases {σ : Net} (h : NetOk σ) (x : Int) : ((σ.start x).2.1 ≠ 0 ∧ (σ.start x).1 = 0 ∧ (σ.start x).2.2 = σ) ∨
    ((σ.start x).2.1 = 0 ∧ (σ.start x).1 = σ.shots.length + 1 ∧ ∃ k : Nat, x = k ∧ k < σ.n ∧ σ.shots.length < 8 ∧ StartEff σ (σ.start x).2.2 k) := by
  unfold Net.start
  split
  · exact .inl ⟨by simp, rfl, rfl⟩
  · split
    · exact .inl ⟨by simp, rfl, rfl⟩
    · rename_i h1 h2
      have h1 : 0 ≤ x ∧ x < σ.sta.length := Decidable.not_not.1 h1
      obtain ⟨k, rfl⟩ := Int.eq_ofNat_of_zero_le h1.1
      have hk : k < σ.n := by show k < σ.sta.length; omega
      refine .inr ⟨rfl, rfl, k, rfl, hk, by omega, ?_⟩
      simp only [Int.toNat_natCast]
      have hok := h.addShot (by omega)
      have hn : σ.addShot.n = σ.n := rfl
      obtain ⟨r1, r2, r3, r4, r5⟩ := record_eff hok (k := k) (i := σ.shots.length) hk (by simp [Net.addShot])
      have hX : ∀ q, σ.addShot.X q = if q = σ.shots.length then Shot.new σ.n else σ.X q := fun q => by
        unfold Net.X Net.addShot
        simp only [List.getD, List.getElem?_append]
        by_cases hq : q < σ.shots.length
        · rw [if_pos hq, if_neg (by omega)]
        · rw [if_neg hq]
          by_cases hq2 : q = σ.shots.length
          · subst hq2; rw [if_pos rfl]; simp; rfl
          · rw [if_neg hq2, List.getElem?_eq_none (by simp; omega), List.getElem?_eq_none (by omega)]
      refine ⟨by unfold Net.n; rw [r1]; rfl, by rw [r1]; rfl, by rw [r2]; rfl, by rw [r3]; simp [Net.addShot], fun a b => ?_, fun q => ?_⟩
      · rw [r5]; rfl
      · rw [r4, hX, hX, if_pos rfl]
        by_cases hq : q = σ.shots.length
        · rw [if_pos hq, if_pos hq]; rfl
        · rw [if_neg hq, if_neg hq, if_neg hq]
end Go.Proofs.Ytnkgfgkgepadhaa

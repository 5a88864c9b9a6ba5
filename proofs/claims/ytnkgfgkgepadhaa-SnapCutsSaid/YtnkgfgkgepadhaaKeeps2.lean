/-
  Plain: nothing is lost (the sums of SnapKeeps). Plain: nothing is lost: the invariant of SnapKeeps, kept by every call.
-/
import Derived.Test.YtnkgfgkgepadhaaEnds
import Derived.Test.YtnkgfgkgepadhaaWalk15
namespace Go.Proofs.Ytnkgfgkgepadhaa
set_option linter.unusedVariables false
set_option linter.unusedSimpArgs false

/-! ### Sums of integers -/
def zsum : Nat → (Nat → Int) → Int
  | 0, _ => 0
  | n + 1, f => zsum n f + f n
theorem zsum_congr {f g : Nat → Int} : ∀ {n : Nat}, (∀ q, q < n → f q = g q) → zsum n f = zsum n g
  | 0, _ => rfl
  | n + 1, h => by unfold zsum; rw [zsum_congr (fun q hq => h q (by omega)), h n (by omega)]
theorem zsum_upd {f g : Nat → Int} {k : Nat} : ∀ {n : Nat}, k < n → (∀ q, q < n → q ≠ k → f q = g q) → zsum n f + g k = zsum n g + f k
  | 0, h, _ => by omega
  | n + 1, h, hq => by
    unfold zsum
    by_cases hk : k = n
    · subst hk
      rw [zsum_congr (f := f) (g := g) (n := k) (fun q h => hq q (by omega) (by omega))]; omega
    · have := zsum_upd (f := f) (g := g) (n := n) (k := k) (by omega) (fun q h h' => hq q (by omega) h')
      rw [hq n (by omega) (by omega)]; omega
theorem zsum_add (n : Nat) (f g : Nat → Int) : zsum n (fun q => f q + g q) = zsum n f + zsum n g := by
  induction n with
  | zero => rfl
  | succ n ih => simp only [zsum, ih]; omega
/-- One place of a square turns. -/
theorem zsum2_upd {n i j : Nat} {f g : Nat → Nat → Int} (hi : i < n) (hj : j < n) (h : ∀ a b, a < n → b < n → ¬ (a = i ∧ b = j) → f a b = g a b) :
    zsum n (fun a => zsum n (f a)) + g i j = zsum n (fun a => zsum n (g a)) + f i j := by
  have h1 := zsum_upd (f := f i) (g := g i) hj (fun b hb hbj => h i b hi hb (fun h' => hbj h'.2))
  have h2 := zsum_upd (f := fun a => zsum n (f a)) (g := fun a => zsum n (g a)) hi (fun a ha hai => zsum_congr fun b hb => h a b ha hb (fun h' => hai h'.1))
  omega
theorem zsum2_congr {n : Nat} {f g : Nat → Nat → Int} (h : ∀ a b, a < n → b < n → f a b = g a b) : zsum n (fun a => zsum n (f a)) = zsum n (fun a => zsum n (g a)) :=
  zsum_congr fun a ha => zsum_congr fun b hb => h a b ha hb

/-! ### What was made -/
def cntE (l : List Ev) (s : Int) : Nat := l.countP fun e => e.station == s
theorem cntE_snoc (l : List Ev) (e : Ev) (s : Int) : cntE (l ++ [e]) s = cntE l s + if e.station = s then 1 else 0 := by
  unfold cntE
  rw [List.countP_append]
  by_cases h : e.station = s <;> simp [h]
def madeF (ok : Int → Nat → Bool) : List Ev → List Ev → Int
  | _, [] => 0
  | pre, e :: r => (if e.what = 1 ∧ ok e.station (cntE pre e.station) = true then e.pieces else 0) + madeF ok (pre ++ [e]) r
def madeL (ok : Int → Nat → Bool) (l : List Ev) : Int := madeF ok [] l
theorem madeF_append (ok : Int → Nat → Bool) : ∀ (l r pre : List Ev), madeF ok pre (l ++ r) = madeF ok pre l + madeF ok (pre ++ l) r
  | [], r, pre => by simp [madeF]
  | e :: l, r, pre => by
    simp only [List.cons_append, madeF, madeF_append ok l r]
    rw [List.append_assoc]
    simp only [List.cons_append, List.nil_append]
    omega
theorem madeL_snoc (ok : Int → Nat → Bool) (l : List Ev) (e : Ev) : madeL ok (l ++ [e]) = madeL ok l + if e.what = 1 ∧ ok e.station (cntE l e.station) = true then e.pieces else 0 := by
  unfold madeL
  rw [madeF_append]
  simp [madeF]
theorem cntE_append_le (l r : List Ev) (s : Int) : cntE l s ≤ cntE (l ++ r) s := by unfold cntE; rw [List.countP_append]; omega
theorem madeF_congr {ok ok' : Int → Nat → Bool} : ∀ (l pre : List Ev), (∀ s c, c < cntE (pre ++ l) s → ok s c = ok' s c) → madeF ok pre l = madeF ok' pre l
  | [], _, _ => rfl
  | e :: l, pre, h => by
    simp only [madeF]
    have h1 : cntE pre e.station < cntE (pre ++ e :: l) e.station := by
      have := cntE_append_le (pre ++ [e]) l e.station
      rw [cntE_snoc] at this
      simp at this
      omega
    rw [h _ _ h1, madeF_congr l (pre ++ [e]) (fun s c hc => h s c (by simpa using hc))]
theorem madeL_congr {ok ok' : Int → Nat → Bool} {l : List Ev} (h : ∀ s c, c < cntE l s → ok s c = ok' s c) : madeL ok l = madeL ok' l := madeF_congr l [] (by simpa using h)

/-! ### Parcels of a channel ahead of a marker -/
def isMark (k : Nat) (m : Msg) : Bool := m.told == -((k : Int) + 1)
def before (k : Nat) (l : List Msg) : Int := totLine (l.takeWhile fun m => !isMark k m)
theorem totLine_append (a b : List Msg) : totLine (a ++ b) = totLine a + totLine b := by unfold totLine; rw [List.map_append, isum_append]
theorem totLine_one (m : Msg) : totLine [m] = max m.told 0 := by simp [totLine, isum]
theorem totLine_cons (m : Msg) (l : List Msg) : totLine (m :: l) = max m.told 0 + totLine l := rfl
theorem tw_all {p : Msg → Bool} : ∀ {l : List Msg}, (∀ m ∈ l, p m = true) → l.takeWhile p = l
  | [], _ => rfl
  | x :: l, h => by rw [List.takeWhile_cons, h x (by simp)]; simp only [if_true]; rw [tw_all (fun m hm => h m (by simp [hm]))]
theorem before_none {k : Nat} {l : List Msg} (h : ∀ m ∈ l, isMark k m = false) : before k l = totLine l := by
  unfold before
  rw [tw_all (l := l) (fun m hm => by simp [h m hm])]
theorem takeWhile_append_stop {p : Msg → Bool} : ∀ {a b : List Msg}, (∃ m ∈ a, p m = false) → (a ++ b).takeWhile p = a.takeWhile p
  | [], _, ⟨_, h, _⟩ => by cases h
  | x :: a, b, ⟨m, hm, hp⟩ => by
    rw [List.cons_append, List.takeWhile_cons, List.takeWhile_cons]
    cases hx : p x with
    | false => rfl
    | true =>
      rcases List.mem_cons.1 hm with rfl | hm
      · rw [hx] at hp; cases hp
      · simp only [if_true]; rw [takeWhile_append_stop ⟨m, hm, hp⟩]
theorem before_append_stop {k : Nat} {a b : List Msg} (h : ∃ m ∈ a, isMark k m = true) : before k (a ++ b) = before k a := by
  unfold before
  rw [takeWhile_append_stop]
  obtain ⟨m, hm, hp⟩ := h
  exact ⟨m, hm, by simp [hp]⟩
/-- Something behind a channel that is no parcel. -/
theorem before_snoc (k : Nat) (a : List Msg) {m : Msg} (hm : m.told < 0) : before k (a ++ [m]) = before k a := by
  by_cases h : ∃ m ∈ a, isMark k m = true
  · exact before_append_stop h
  · have hn : ∀ m ∈ a, isMark k m = false := fun m hm => by
      cases hc : isMark k m with
      | false => rfl
      | true => exact absurd ⟨m, hm, hc⟩ h
    cases hc : isMark k m with
    | false =>
      rw [before_none (l := a ++ [m]) (fun x hx => by
        rcases List.mem_append.1 hx with hx | hx
        · exact hn x hx
        · obtain rfl : x = m := by simpa using hx
          exact hc), totLine_append, totLine_one, before_none hn]
      omega
    | true =>
      unfold before
      rw [List.takeWhile_append_of_pos (fun x hx => by simp [hn x hx])]
      simp [hc, totLine_append, totLine, isum]
      rw [tw_all (l := a) (fun m hm => by simp [hn m hm])]
theorem before_cons_mark {k : Nat} {m : Msg} (l : List Msg) (h : isMark k m = true) : before k (m :: l) = 0 := by
  unfold before; rw [List.takeWhile_cons]; simp [h, totLine, isum]
theorem before_cons {k : Nat} {m : Msg} (l : List Msg) (h : isMark k m = false) : before k (m :: l) = max m.told 0 + before k l := by
  unfold before; rw [List.takeWhile_cons]; simp [h]; rfl
end Go.Proofs.Ytnkgfgkgepadhaa

namespace Go.Proofs.Ytnkgfgkgepadhaa
set_option linter.unusedVariables false
set_option linter.unusedSimpArgs false

def Pst (σ : Net) (x : Shot) (i : Nat) : Int := if x.R i = true then x.P i else (σ.S i).pieces
def Tst (σ : Net) (x : Shot) (i : Nat) : Int := if x.R i = true then x.T i else (σ.S i).events
def Cst (σ : Net) (x : Shot) (k i j : Nat) : Int := isum (x.U i j) + if x.C i j = true then 0 else before k (σ.lineAt i j)
def okT (σ : Net) (x : Shot) (s : Int) (c : Nat) : Bool := decide ((c : Int) < Tst σ x s.toNat)
def Net.held2 (σ : Net) : Int := zsum σ.n (fun i => (σ.S i).pieces) + zsum σ.n fun i => zsum σ.n fun j => totLine (σ.lineAt i j)
/-- What is known of one snapshot. -/
structure KS (σ : Net) (p0 : Int) (k : Nat) (x : Shot) : Prop where
  t : ∀ i, i < σ.n → x.R i = true → 0 ≤ x.T i ∧ x.T i ≤ (σ.S i).events
  c : ∀ i j, i < σ.n → j < σ.n → x.C i j = true → x.R i = true ∧ x.R j = true
  m : ∀ i j, i < σ.n → j < σ.n → (∃ m ∈ σ.lineAt i j, isMark k m = true) → x.R i = true
  d : ∀ i j, i < σ.n → j < σ.n → i ≠ j → x.R i = true → x.C i j = true ∨ ∃ m ∈ σ.lineAt i j, isMark k m = true
  u : ∀ i, x.U i i = []
  p : ∀ i, i < σ.n → 0 ≤ x.P i ∧ x.P i ≤ 1000000000
  ub : ∀ i j, ∀ a ∈ x.U i j, 0 ≤ a ∧ a ≤ 1000000
  sum : zsum σ.n (Pst σ x) + zsum σ.n (fun i => zsum σ.n (Cst σ x k i)) = p0 + madeL (okT σ x) σ.evs
structure KI (σ : Net) (p0 : Int) : Prop where
  ok : NetOk σ
  ev : ∀ i, i < σ.n → (σ.S i).events = cntE σ.evs i
  st : ∀ e ∈ σ.evs, ∃ k : Nat, e.station = k ∧ k < σ.n
  di : ∀ i, σ.lineAt i i = []
  tot : σ.held2 = p0 + madeL (fun _ _ => true) σ.evs
  sh : ∀ k, k < σ.shots.length → KS σ p0 k (σ.X k)

/-- An event more: what was made within a snapshot's cut. -/
theorem made_step {σ σ' : Net} {x x' : Shot} {p0 : Int} {q : Nat} {e : Ev} (hq : q < σ.n) (hev : ∀ i, i < σ.n → (σ.S i).events = cntE σ.evs i) (hst : ∀ e ∈ σ.evs, ∃ k : Nat, e.station = k ∧ k < σ.n) (he : e.station = q) (hE : σ'.evs = σ.evs ++ [e])
    (hS : ∀ i, (σ'.S i).events = if i = q then (σ.S q).events + 1 else (σ.S i).events) (hR : ∀ i, x'.R i = x.R i) (hT : ∀ i, x'.T i = x.T i) (ht : ∀ i, i < σ.n → x.R i = true → x.T i ≤ (σ.S i).events) :
    madeL (okT σ' x') σ'.evs = madeL (okT σ x) σ.evs + if e.what = 1 ∧ x.R q = false then e.pieces else 0 := by
  have hcnt0 : ∀ s : Int, 0 < cntE σ.evs s → ∃ k : Nat, s = k ∧ k < σ.n := fun s hs => by
    unfold cntE at hs
    obtain ⟨e, he, h⟩ := List.countP_pos_iff.1 hs
    obtain ⟨k, h1, h2⟩ := hst e he
    exact ⟨k, by rw [← h1]; simpa using Eq.symm (by simpa using h : e.station = s), h2⟩
  rw [hE, madeL_snoc]
  have h1 : madeL (okT σ' x') σ.evs = madeL (okT σ x) σ.evs := madeL_congr fun s c hc => by
    obtain ⟨k, rfl, hk⟩ := hcnt0 s (by omega)
    have h2 := hev k hk
    unfold okT Tst
    rw [Int.toNat_natCast, hR, hT, hS]
    by_cases hRk : x.R k = true
    · rw [if_pos hRk, if_pos hRk]
    · rw [if_neg hRk, if_neg hRk]
      by_cases hkq : k = q
      · subst hkq
        rw [if_pos rfl]
        have a1 : ((c : Int) < (σ.S k).events + 1) := by omega
        have a2 : ((c : Int) < (σ.S k).events) := by omega
        rw [decide_eq_true a1, decide_eq_true a2]
      · rw [if_neg hkq]
  rw [h1]
  congr 1
  have h2 := hev q hq
  have e1 : okT σ' x' e.station (cntE σ.evs e.station) = !x.R q := by
    unfold okT Tst
    rw [he, Int.toNat_natCast, hR, hT, hS, if_pos (rfl : q = q)]
    cases hRq : x.R q with
    | true =>
      rw [if_pos rfl]
      have := ht q hq hRq
      exact decide_eq_false (by omega)
    | false =>
      rw [if_neg (by decide)]
      exact decide_eq_true (by omega)
  rw [e1]
  cases x.R q <;> simp
theorem ev_step {σ σ' : Net} {q : Nat} {e : Ev} (hev : ∀ i, i < σ.n → (σ.S i).events = cntE σ.evs i) (he : e.station = q) (hE : σ'.evs = σ.evs ++ [e]) (hn : σ'.n = σ.n)
    (hS : ∀ i, (σ'.S i).events = if i = q then (σ.S q).events + 1 else (σ.S i).events) : ∀ i, i < σ'.n → (σ'.S i).events = cntE σ'.evs i := fun i hi => by
  rw [hn] at hi
  rw [hE, cntE_snoc, hS, he]
  have := hev i hi
  by_cases h : i = q
  · subst h; rw [if_pos rfl, if_pos rfl]; omega
  · rw [if_neg h, if_neg (by omega)]; omega
theorem st_step {σ σ' : Net} {q : Nat} {e : Ev} (hst : ∀ e ∈ σ.evs, ∃ k : Nat, e.station = k ∧ k < σ.n) (hq : q < σ.n) (he : e.station = q) (hE : σ'.evs = σ.evs ++ [e]) (hn : σ'.n = σ.n) : ∀ e ∈ σ'.evs, ∃ k : Nat, e.station = k ∧ k < σ'.n := fun x hx => by
  rw [hE] at hx
  rw [hn]
  rcases List.mem_append.1 hx with hx | hx
  · exact hst x hx
  · obtain rfl : x = e := by simpa using hx
    exact ⟨q, he, hq⟩
theorem S_bound {σ : Net} (h : NetOk σ) {i : Nat} (hi : i < σ.n) : 0 ≤ (σ.S i).pieces ∧ (σ.S i).pieces ≤ 1000000000 ∧ 0 ≤ (σ.S i).events := by
  obtain ⟨a1, a2, a3, a4, _⟩ := h.sta _ (List.mem_of_getElem? (S_of hi))
  have := h.evs
  exact ⟨a2, by omega, a4⟩
theorem told_ge {σ : Net} (h : NetOk σ) {i j : Nat} (hi : i < σ.n) (hj : j < σ.n) {m : Msg} (hm : m ∈ σ.lineAt i j) : (0 < m.told ∧ m.told ≤ 1000000) ∨ (m.told < 0 ∧ -m.told ≤ σ.shots.length) := by
  obtain ⟨r, hr⟩ : ∃ r, σ.chan[i]? = some r := ⟨_, List.getElem?_eq_getElem (by rw [h.rows]; exact hi)⟩
  have hrm := List.mem_of_getElem? hr
  have hrl := h.cols r hrm
  have hl : σ.lineAt i j ∈ r := by
    simp only [Net.lineAt, getD_some hr]
    simp [List.getD, List.getElem?_eq_getElem (show j < r.length by rw [hrl]; exact hj)]
  rcases h.msg r hrm _ hl m hm with a | a
  · exact .inl ⟨a.1, a.2.1⟩
  · exact .inr ⟨a.1, a.2.1⟩

theorem KI.work {σ : Net} {p0 : Int} (h : KI σ p0) (no p : Int) : KI (σ.work no p).2 p0 := by
  have hok := h.ok.work no p
  rcases work_cases h.ok no p with ⟨_, h2⟩ | ⟨_, q, _, hq, hp1, hp2, _, e⟩
  · rw [h2]; exact h
  generalize (σ.work no p).2 = σ' at *
  have hSe : ∀ i, (σ'.S i).events = if i = q then (σ.S q).events + 1 else (σ.S i).events := fun i => by rw [e.S]; split <;> rfl
  have hSp : ∀ i, (σ'.S i).pieces = if i = q then (σ.S q).pieces + p else (σ.S i).pieces := fun i => by rw [e.S]; split <;> rfl
  refine ⟨hok, ev_step h.ev rfl e.evs e.n hSe, st_step h.st hq rfl e.evs e.n, fun i => by rw [e.L]; exact h.di i, ?_, fun k hk => ?_⟩
  · have h1 := zsum_upd (f := fun i => (σ'.S i).pieces) (g := fun i => (σ.S i).pieces) hq (fun i _ hi => by rw [hSp, if_neg hi])
    rw [hSp, if_pos rfl] at h1
    have := h.tot
    unfold Net.held2 at this ⊢
    rw [e.n, e.evs, madeL_snoc]
    simp only [e.L, true_and, and_true, if_true]
    omega
  · have hX : σ'.X k = σ.X k := by unfold Net.X; rw [e.shots]
    rw [e.shots] at hk
    have s := h.sh k hk
    rw [hX]
    refine ⟨fun i hi hR => ?_, by rw [e.n]; exact s.c, by rw [e.n]; intro i j hi hj; rw [e.L]; exact s.m i j hi hj, by rw [e.n]; intro i j hi hj; rw [e.L]; exact s.d i j hi hj, s.u, by rw [e.n]; exact s.p, s.ub, ?_⟩
    · rw [e.n] at hi
      have := s.t i hi hR
      rw [hSe]
      split
      · rename_i h; subst h; omega
      · exact this
    · have h1 := made_step (x := σ.X k) (x' := σ.X k) (p0 := p0) hq h.ev h.st rfl e.evs hSe (fun _ => rfl) (fun _ => rfl) (fun i hi hR => (s.t i hi hR).2)
      have h2 := zsum_upd (f := Pst σ' (σ.X k)) (g := Pst σ (σ.X k)) hq (fun i _ hi => by unfold Pst; rw [hSp, if_neg hi])
      have h3 : zsum σ.n (fun i => zsum σ.n (Cst σ' (σ.X k) k i)) = zsum σ.n (fun i => zsum σ.n (Cst σ (σ.X k) k i)) := zsum2_congr fun a b _ _ => by unfold Cst; rw [e.L]
      have h4 := s.sum
      rw [e.n, h1, h3]
      simp only [true_and]
      unfold Pst at h2 h4 ⊢
      rw [hSp, if_pos rfl] at h2
      cases hR : (σ.X k).R q with
      | true =>
        rw [hR] at h2
        simp only [if_true] at h2
        simp only [Bool.true_eq_false, if_false]
        omega
      | false =>
        rw [hR] at h2
        simp only [Bool.false_eq_true, if_false] at h2
        simp only [if_true]
        omega

theorem KI.send {σ : Net} {p0 : Int} (h : KI σ p0) (x y p : Int) : KI (σ.send x y p).2 p0 := by
  have hok := h.ok.send x y p
  rcases send_cases h.ok x y p with ⟨_, h2⟩ | ⟨_, i, j, _, _, hi, hj, hij, hp1, hp2, hp3, _, e⟩
  · rw [h2]; exact h
  generalize (σ.send x y p).2 = σ' at *
  have hSe : ∀ a, (σ'.S a).events = if a = i then (σ.S i).events + 1 else (σ.S a).events := fun a => by rw [e.S]; split <;> rfl
  have hSp : ∀ a, (σ'.S a).pieces = if a = i then (σ.S i).pieces - p else (σ.S a).pieces := fun a => by rw [e.S]; split <;> rfl
  have hmax : max p 0 = p := by omega
  have hLn : ∀ (a b : Nat) (m : Msg), m ∈ σ.lineAt a b → m ∈ σ'.lineAt a b := fun a b m hm => by
    rw [e.L]; split
    · rename_i h; obtain ⟨rfl, rfl⟩ := h; exact List.mem_append_left _ hm
    · exact hm
  refine ⟨hok, ev_step h.ev rfl e.evs e.n hSe, st_step h.st hi rfl e.evs e.n, fun a => by rw [e.L, if_neg (fun h => hij (h.1.symm.trans h.2))]; exact h.di a, ?_, fun k hk => ?_⟩
  · have h1 := zsum_upd (f := fun a => (σ'.S a).pieces) (g := fun a => (σ.S a).pieces) hi (fun a _ ha => by rw [hSp, if_neg ha])
    rw [hSp, if_pos rfl] at h1
    have h2 := zsum2_upd (f := fun a b => totLine (σ'.lineAt a b)) (g := fun a b => totLine (σ.lineAt a b)) hi hj (fun a b _ _ hab => by rw [e.L, if_neg hab])
    rw [e.L, if_pos ⟨rfl, rfl⟩, totLine_append, totLine_one] at h2
    simp only [hmax] at h2
    have := h.tot
    unfold Net.held2 at this ⊢
    rw [e.n, e.evs, madeL_snoc]
    simp only [show ((2 : Int) = 1) = False by simp, false_and, if_false]
    omega
  · have hX : σ'.X k = σ.X k := by unfold Net.X; rw [e.shots]
    rw [e.shots] at hk
    have s := h.sh k hk
    rw [hX]
    refine ⟨fun a ha hR => ?_, by rw [e.n]; exact s.c, ?_, ?_, s.u, by rw [e.n]; exact s.p, s.ub, ?_⟩
    · rw [e.n] at ha
      have := s.t a ha hR
      rw [hSe]
      split
      · rename_i h; subst h; omega
      · exact this
    · rw [e.n]
      intro a b ha hb hm
      refine s.m a b ha hb ?_
      obtain ⟨m, hm, hk⟩ := hm
      rw [e.L] at hm
      split at hm
      · rename_i hc
        obtain ⟨rfl, rfl⟩ := hc
        rcases List.mem_append.1 hm with hm | hm
        · exact ⟨m, hm, hk⟩
        · obtain rfl := List.mem_singleton.1 hm
          simp [isMark] at hk
          omega
      · exact ⟨m, hm, hk⟩
    · rw [e.n]
      intro a b ha hb hab hR
      rcases s.d a b ha hb hab hR with h1 | ⟨m, hm, hk⟩
      · exact .inl h1
      · exact .inr ⟨m, hLn a b m hm, hk⟩
    · have h1 := made_step (x := σ.X k) (x' := σ.X k) (p0 := p0) hi h.ev h.st rfl e.evs hSe (fun _ => rfl) (fun _ => rfl) (fun i hi hR => (s.t i hi hR).2)
      have h2 := zsum_upd (f := Pst σ' (σ.X k)) (g := Pst σ (σ.X k)) hi (fun a _ ha => by unfold Pst; rw [hSp, if_neg ha])
      have h3 := zsum2_upd (f := Cst σ' (σ.X k) k) (g := Cst σ (σ.X k) k) hi hj (fun a b _ _ hab => by unfold Cst; rw [e.L, if_neg hab])
      have h4 := s.sum
      rw [e.n, h1]
      simp only [show ((2 : Int) = 1) = False by simp, false_and, if_false]
      have h5 : Cst σ' (σ.X k) k i j = Cst σ (σ.X k) k i j + if (σ.X k).R i = true then 0 else p := by
        have hLij : σ'.lineAt i j = σ.lineAt i j ++ [⟨p, tick (σ.S i).clock i⟩] := by rw [e.L, if_pos ⟨rfl, rfl⟩]
        unfold Cst
        rw [hLij]
        by_cases hR : (σ.X k).R i = true
        · rw [if_pos hR]
          rcases s.d i j hi hj hij hR with hc | hm
          · rw [if_pos hc, if_pos hc]; omega
          · rw [before_append_stop hm]; omega
        · rw [if_neg hR]
          have hc : ¬ (σ.X k).C i j = true := fun hc => hR (s.c i j hi hj hc).1
          have hn : ∀ m ∈ σ.lineAt i j, isMark k m = false := fun m hm => by
            cases hmk : isMark k m with
            | false => rfl
            | true => exact absurd (s.m i j hi hj ⟨m, hm, hmk⟩) hR
          have hn2 : ∀ m ∈ σ.lineAt i j ++ [⟨p, tick (σ.S i).clock i⟩], isMark k m = false := fun m hm => by
            rcases List.mem_append.1 hm with hm | hm
            · exact hn m hm
            · obtain rfl := List.mem_singleton.1 hm
              simp [isMark]; omega
          rw [if_neg hc, if_neg hc, before_none hn, before_none hn2, totLine_append, totLine_one]
          simp only [hmax]
          omega
      rw [h5] at h3
      have h6 : Pst σ' (σ.X k) i = Pst σ (σ.X k) i - if (σ.X k).R i = true then 0 else p := by
        unfold Pst
        rw [hSp, if_pos rfl]
        split <;> omega
      rw [h6] at h2
      omega
end Go.Proofs.Ytnkgfgkgepadhaa

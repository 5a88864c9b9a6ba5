/-
  Plain: nothing is lost (the sums of SnapKeeps).
-/
import Derived.Test.YtnkgfgkgepadhaaEnds
import Derived.Test.YtnkgfgkgepadhaaWalk15
namespace Go.Proofs.Ytnkgfgkgepadhaa
set_option linter.unusedVariables false
set_option linter.unusedSimpArgs false

/-! ### Sums of integers -/
def zsum : Nat → (Nat → Int) → Int
  | 0, _ => 0
  | n + 1, f => zsum n f + f n
theorem zsum_congr {f g : Nat → Int} : ∀ {n : Nat}, (∀ q, q < n → f q = g q) → zsum n f = zsum n g
  | 0, _ => rfl
  | n + 1, h => by unfold zsum; rw [zsum_congr (fun q hq => h q (by omega)), h n (by omega)]
theorem zsum_upd {f g : Nat → Int} {k : Nat} : ∀ {n : Nat}, k < n → (∀ q, q < n → q ≠ k → f q = g q) → zsum n f + g k = zsum n g + f k
  | 0, h, _ => by omega
  | n + 1, h, hq => by
    unfold zsum
    by_cases hk : k = n
    · subst hk
      rw [zsum_congr (f := f) (g := g) (n := k) (fun q h => hq q (by omega) (by omega))]; omega
    · have := zsum_upd (f := f) (g := g) (n := n) (k := k) (by omega) (fun q h h' => hq q (by omega) h')
      rw [hq n (by omega) (by omega)]; omega
theorem zsum_add (n : Nat) (f g : Nat → Int) : zsum n (fun q => f q + g q) = zsum n f + zsum n g := by
  induction n with
  | zero => rfl
  | succ n ih => simp only [zsum, ih]; omega
/-- One place of a square turns. -/
theorem zsum2_upd {n i j : Nat} {f g : Nat → Nat → Int} (hi : i < n) (hj : j < n) (h : ∀ a b, a < n → b < n → ¬ (a = i ∧ b = j) → f a b = g a b) :
    zsum n (fun a => zsum n (f a)) + g i j = zsum n (fun a => zsum n (g a)) + f i j := by
  have h1 := zsum_upd (f := f i) (g := g i) hj (fun b hb hbj => h i b hi hb (fun h' => hbj h'.2))
  have h2 := zsum_upd (f := fun a => zsum n (f a)) (g := fun a => zsum n (g a)) hi (fun a ha hai => zsum_congr fun b hb => h a b ha hb (fun h' => hai h'.1))
  omega
theorem zsum2_congr {n : Nat} {f g : Nat → Nat → Int} (h : ∀ a b, a < n → b < n → f a b = g a b) : zsum n (fun a => zsum n (f a)) = zsum n (fun a => zsum n (g a)) :=
  zsum_congr fun a ha => zsum_congr fun b hb => h a b ha hb

/-! ### What was made -/
def cntE (l : List Ev) (s : Int) : Nat := l.countP fun e => e.station == s
theorem cntE_snoc (l : List Ev) (e : Ev) (s : Int) : cntE (l ++ [e]) s = cntE l s + if e.station = s then 1 else 0 := by
  unfold cntE
  rw [List.countP_append]
  by_cases h : e.station = s <;> simp [h]
def madeF (ok : Int → Nat → Bool) : List Ev → List Ev → Int
  | _, [] => 0
  | pre, e :: r => (if e.what = 1 ∧ ok e.station (cntE pre e.station) = true then e.pieces else 0) + madeF ok (pre ++ [e]) r
def madeL (ok : Int → Nat → Bool) (l : List Ev) : Int := madeF ok [] l
theorem madeF_append (ok : Int → Nat → Bool) : ∀ (l r pre : List Ev), madeF ok pre (l ++ r) = madeF ok pre l + madeF ok (pre ++ l) r
  | [], r, pre => by simp [madeF]
  | e :: l, r, pre => by
    simp only [List.cons_append, madeF, madeF_append ok l r]
    rw [List.append_assoc]
    simp only [List.cons_append, List.nil_append]
    omega
theorem madeL_snoc (ok : Int → Nat → Bool) (l : List Ev) (e : Ev) : madeL ok (l ++ [e]) = madeL ok l + if e.what = 1 ∧ ok e.station (cntE l e.station) = true then e.pieces else 0 := by
  unfold madeL
  rw [madeF_append]
  simp [madeF]
theorem cntE_append_le (l r : List Ev) (s : Int) : cntE l s ≤ cntE (l ++ r) s := by unfold cntE; rw [List.countP_append]; omega
theorem madeF_congr {ok ok' : Int → Nat → Bool} : ∀ (l pre : List Ev), (∀ s c, c < cntE (pre ++ l) s → ok s c = ok' s c) → madeF ok pre l = madeF ok' pre l
  | [], _, _ => rfl
  | e :: l, pre, h => by
    simp only [madeF]
    have h1 : cntE pre e.station < cntE (pre ++ e :: l) e.station := by
      have := cntE_append_le (pre ++ [e]) l e.station
      rw [cntE_snoc] at this
      simp at this
      omega
    rw [h _ _ h1, madeF_congr l (pre ++ [e]) (fun s c hc => h s c (by simpa using hc))]
theorem madeL_congr {ok ok' : Int → Nat → Bool} {l : List Ev} (h : ∀ s c, c < cntE l s → ok s c = ok' s c) : madeL ok l = madeL ok' l := madeF_congr l [] (by simpa using h)

/-! ### Parcels of a channel ahead of a marker -/
def isMark (k : Nat) (m : Msg) : Bool := m.told == -((k : Int) + 1)
def before (k : Nat) (l : List Msg) : Int := totLine (l.takeWhile fun m => !isMark k m)
theorem totLine_append (a b : List Msg) : totLine (a ++ b) = totLine a + totLine b := by unfold totLine; rw [List.map_append, isum_append]
theorem totLine_one (m : Msg) : totLine [m] = max m.told 0 := by simp [totLine, isum]
theorem totLine_cons (m : Msg) (l : List Msg) : totLine (m :: l) = max m.told 0 + totLine l := rfl
theorem tw_all {p : Msg → Bool} : ∀ {l : List Msg}, (∀ m ∈ l, p m = true) → l.takeWhile p = l
  | [], _ => rfl
  | x :: l, h => by rw [List.takeWhile_cons, h x (by simp)]; simp only [if_true]; rw [tw_all (fun m hm => h m (by simp [hm]))]
theorem before_none {k : Nat} {l : List Msg} (h : ∀ m ∈ l, isMark k m = false) : before k l = totLine l := by
  unfold before
  rw [tw_all (l := l) (fun m hm => by simp [h m hm])]
theorem takeWhile_append_stop {p : Msg → Bool} : ∀ {a b : List Msg}, (∃ m ∈ a, p m = false) → (a ++ b).takeWhile p = a.takeWhile p
  | [], _, ⟨_, h, _⟩ => by cases h
  | x :: a, b, ⟨m, hm, hp⟩ => by
    rw [List.cons_append, List.takeWhile_cons, List.takeWhile_cons]
    cases hx : p x with
    | false => rfl
    | true =>
      rcases List.mem_cons.1 hm with rfl | hm
      · rw [hx] at hp; cases hp
      · simp only [if_true]; rw [takeWhile_append_stop ⟨m, hm, hp⟩]
theorem before_append_stop {k : Nat} {a b : List Msg} (h : ∃ m ∈ a, isMark k m = true) : before k (a ++ b) = before k a := by
  unfold before
  rw [takeWhile_append_stop]
  obtain ⟨m, hm, hp⟩ := h
  exact ⟨m, hm, by simp [hp]⟩
/-- Something behind a channel that is no parcel. -/
theorem before_snoc (k : Nat) (a : List Msg) {m : Msg} (hm : m.told < 0) : before k (a ++ [m]) = before k a := by
  by_cases h : ∃ m ∈ a, isMark k m = true
  · exact before_append_stop h
  · have hn : ∀ m ∈ a, isMark k m = false := fun m hm => by
      cases hc : isMark k m with
      | false => rfl
      | true => exact absurd ⟨m, hm, hc⟩ h
    cases hc : isMark k m with
    | false =>
      rw [before_none (l := a ++ [m]) (fun x hx => by
        rcases List.mem_append.1 hx with hx | hx
        · exact hn x hx
        · obtain rfl : x = m := by simpa using hx
          exact hc), totLine_append, totLine_one, before_none hn]
      omega
    | true =>
      unfold before
      rw [List.takeWhile_append_of_pos (fun x hx => by simp [hn x hx])]
      simp [hc, totLine_append, totLine, isum]
      rw [tw_all (l := a) (fun m hm => by simp [hn m hm])]
theorem before_cons_mark {k : Nat} {m : Msg} (l : List Msg) (h : isMark k m = true) : before k (m :: l) = 0 := by
  unfold before; rw [List.takeWhile_cons]; simp [h, totLine, isum]
theorem before_cons {k : Nat} {m : Msg} (l : List Msg) (h : isMark k m = false) : before k (m :: l) = max m.told 0 + before k l := by
  unfold before; rw [List.takeWhile_cons]; simp [h]; rfl
end Go.Proofs.Ytnkgfgkgepadhaa

/-
  Reading: what a claim on memory lets one read; copies of it stand for it in every later world that bears the claim. Plain theorems over any program.
-/
import Derived.Test.YtnkgfgkgepadhaaDraw2
namespace Go.Proofs.Ytnkgfgkgepadhaa
open Go.RowKit
set_option linter.unusedVariables false

/-- The claim knows that cell i of block b holds u. -/
def MS.at (F : MS) (b i : Nat) (u : Value) : Prop := ∃ cs e fz, F.g b (.cells cs e fz) ∧ cs[i]? = some u
theorem MS.at.more {F : MS} {b i : Nat} {u : Value} (h : F.at b i u) (X : MS) : (X + F).at b i u := by
  obtain ⟨cs, e, fz, h1, h2⟩ := h
  exact ⟨cs, e, fz, Or.inr h1, h2⟩
theorem MS.at.less {F : MS} {b i : Nat} {u : Value} (h : F.at b i u) (X : MS) : (F + X).at b i u := by
  rw [MS.add_comm]; exact h.more X
theorem MS.at.cell {F X : MS} {b i : Nat} {u : Value} {w : World} (h : F.at b i u) (hH : Has w (X + F)) : w.cell? ⟨b, i, none⟩ = some u := by
  obtain ⟨cs, e, fz, h1, h2⟩ := h
  have h3 := (hH b).2.2 _ (Or.inr h1)
  simp only [World.cell?, h3, Option.isSome_none, Bool.false_eq_true, if_false, h2]
theorem blk_at {b i : Nat} {cs : Array Value} {e : TypeId} {u : Value} (h : cs[i]? = some u) : (blk b cs e).at b i u := ⟨cs, e, (0, 0), ⟨rfl, rfl⟩, h⟩
theorem all_at {w : World} {a : Addr} {u : Value} (h : w.cell? a = some u) : a.spot = none ∧ (MS.all w).at a.block a.off u := by
  unfold World.cell? at h
  cases hb : w.heap[a.block]? with
  | none => rw [hb] at h; cases h
  | some o =>
    rw [hb] at h
    cases o with
    | cells c e fz =>
      simp only at h
      cases hs : a.spot with
      | some s => rw [hs] at h; simp at h
      | none =>
        rw [hs] at h
        simp only [Option.isSome_none, Bool.false_eq_true, if_false] at h
        exact ⟨rfl, c, e, fz, hb, h⟩
    | _ => cases h

/-- Cells that can be read from an address on. -/
def RdC (F : MS) (A : Option Addr) (xs : List Value) : Prop := xs ≠ [] → ∃ b o, A = some ⟨b, o, none⟩ ∧ ∀ (j : Nat) u, xs[j]? = some u → F.at b (o + j) u
theorem RdC.more {F : MS} {A : Option Addr} {xs : List Value} (h : RdC F A xs) (X : MS) : RdC (X + F) A xs := fun hne => by
  obtain ⟨b, o, h1, h2⟩ := h hne
  exact ⟨b, o, h1, fun j u hu => (h2 j u hu).more X⟩
theorem RdC.less {F : MS} {A : Option Addr} {xs : List Value} (h : RdC F A xs) (X : MS) : RdC (F + X) A xs := by rw [MS.add_comm]; exact h.more X
theorem RdC.nil (F : MS) (A : Option Addr) : RdC F A [] := fun h => absurd rfl h
/-- As the laws on append ask for it. -/
theorem RdC.news {F X : MS} {w : World} {A : Option Addr} {xs : List Value} (h : RdC F A xs) (hH : Has w (X + F)) : ∀ a, A = some a → ∀ j u, xs[j]? = some u → w.cell? (a.add j) = some u := fun a ha j u hu => by
  obtain ⟨b, o, h1, h2⟩ := h (fun e => by rw [e] at hu; simp at hu)
  rw [ha] at h1
  injection h1 with h1
  subst h1
  rw [Addr.add_lit]
  exact (h2 j u hu).cell hH
theorem Sl.rdc {e sz n c : Nat} {A : Option Addr} {xs : List Value} {m : MS} (h : Sl e sz (.slice A n c) n xs m) : RdC m A xs := fun hne => by
  rcases h.2 with ⟨hv, h1, h2⟩ | ⟨b, off, c', cur, hv, rfl, h1, h2, h3, h4⟩
  · have := h.1
    rw [h1, Nat.zero_mul] at this
    exact absurd (List.eq_nil_of_length_eq_zero this) hne
  · injection hv with hv
    subst hv
    refine ⟨b, off, rfl, fun j u hu => blk_at ?_⟩
    have hj := (List.getElem?_eq_some_iff.1 hu).1
    rw [h4 j (by rw [← h.1]; exact hj), hu]

/-- The things of a list, one behind the other, as they are read. -/
def RowsQ {α : Type} (R : α → List Value → Prop) : List α → List Value → Prop
  | [], cs => cs = []
  | a :: l, cs => ∃ c1 c2, R a c1 ∧ RowsQ R l c2 ∧ cs = c1 ++ c2
/-- How a thing is read: how many cells it takes, what they hold. -/
structure RT (α : Type) where
  sz : Nat
  rel : MS → α → List Value → Prop
  len : ∀ F a cs, rel F a cs → cs.length = sz
  more : ∀ F a cs X, rel F a cs → rel (X + F) a cs
section
variable {α : Type}
theorem RowsQ.mono {R R' : α → List Value → Prop} (hR : ∀ a cs, R a cs → R' a cs) : ∀ {l : List α} {cs : List Value}, RowsQ R l cs → RowsQ R' l cs
  | [], _, h => h
  | _ :: _, _, ⟨c1, c2, h1, h2, h3⟩ => ⟨c1, c2, hR _ _ h1, h2.mono hR, h3⟩
theorem RowsQ.length {R : α → List Value → Prop} {sz : Nat} (hR : ∀ a cs, R a cs → cs.length = sz) : ∀ {l : List α} {cs : List Value}, RowsQ R l cs → cs.length = l.length * sz
  | [], _, h => by rw [h]; simp
  | a :: l, _, ⟨c1, c2, h1, h2, h3⟩ => by rw [h3, List.length_append, hR _ _ h1, h2.length hR, List.length_cons, Nat.succ_mul, Nat.add_comm]
theorem RowsQ.get {R : α → List Value → Prop} {sz : Nat} (hR : ∀ a cs, R a cs → cs.length = sz) : ∀ {l : List α} {cs : List Value} {i : Nat} {a : α}, RowsQ R l cs → l[i]? = some a → ∃ c, R a c ∧ ∀ j u, c[j]? = some u → cs[i * sz + j]? = some u
  | x :: l, _, 0, a, ⟨c1, c2, h1, h2, h3⟩, ha => by
    have : x = a := by simpa using ha
    subst this
    refine ⟨c1, h1, fun j u hu => ?_⟩
    have hj := (List.getElem?_eq_some_iff.1 hu).1
    rw [h3, Nat.zero_mul, Nat.zero_add, List.getElem?_append_left hj]
    exact hu
  | x :: l, _, i + 1, a, ⟨c1, c2, h1, h2, h3⟩, ha => by
    obtain ⟨c, h4, h5⟩ := h2.get hR (i := i) (a := a) (by simpa using ha)
    refine ⟨c, h4, fun j u hu => ?_⟩
    have hl := hR _ _ h1
    rw [h3, List.getElem?_append_right (by rw [Nat.succ_mul]; omega), Nat.succ_mul, show i * sz + sz + j - c1.length = i * sz + j by omega]
    exact h5 j u hu
theorem RowsQ.append {R : α → List Value → Prop} : ∀ {l l' : List α} {cs cs' : List Value}, RowsQ R l cs → RowsQ R l' cs' → RowsQ R (l ++ l') (cs ++ cs')
  | [], _, _, _, h, h' => by rw [h]; exact h'
  | a :: l, _, _, cs', ⟨c1, c2, h1, h2, h3⟩, h' => ⟨c1, c2 ++ cs', h1, h2.append h', by rw [h3, List.append_assoc]⟩
theorem RowsQ.take {R : α → List Value → Prop} {sz : Nat} (hR : ∀ a cs, R a cs → cs.length = sz) : ∀ {l : List α} {cs : List Value} (k : Nat), RowsQ R l cs → RowsQ R (l.take k) (cs.take (k * sz))
  | [], _, k, h => by rw [h]; simp [RowsQ]
  | a :: l, _, 0, h => by simp [RowsQ]
  | a :: l, _, k + 1, ⟨c1, c2, h1, h2, h3⟩ => by
    have hl := hR _ _ h1
    rw [List.take_succ_cons, h3, Nat.succ_mul, List.take_append, List.take_of_length_le (l := c1) (by omega), show k * sz + sz - c1.length = k * sz by omega]
    exact ⟨c1, _, h1, RowsQ.take hR k h2, rfl⟩
theorem RowsQ.drop {R : α → List Value → Prop} {sz : Nat} (hR : ∀ a cs, R a cs → cs.length = sz) : ∀ {l : List α} {cs : List Value} (k : Nat), RowsQ R l cs → RowsQ R (l.drop k) (cs.drop (k * sz))
  | [], _, k, h => by rw [h]; simp [RowsQ]
  | a :: l, _, 0, h => by simpa using h
  | a :: l, _, k + 1, ⟨c1, c2, h1, h2, h3⟩ => by
    have hl := hR _ _ h1
    rw [List.drop_succ_cons, h3, Nat.succ_mul, List.drop_append, List.drop_eq_nil_of_le (as := c1) (by omega), List.nil_append, show k * sz + sz - c1.length = k * sz by omega]
    exact RowsQ.drop hR k h2

/-- A slice that reads as a list. -/
def RdS (F : MS) (T : RT α) (l : List α) (v : Value) : Prop := ∃ A c xs, v = .slice A l.length c ∧ l.length ≤ c ∧ c ≤ maxLen ∧ RdC F A xs ∧ RowsQ (T.rel F) l xs
theorem RdS.more {F : MS} {T : RT α} {l : List α} {v : Value} (h : RdS F T l v) (X : MS) : RdS (X + F) T l v := by
  obtain ⟨A, c, xs, h1, h2, h3, h4, h5⟩ := h
  exact ⟨A, c, xs, h1, h2, h3, h4.more X, h5.mono fun a cs h => T.more F a cs X h⟩
theorem RdS.less {F : MS} {T : RT α} {l : List α} {v : Value} (h : RdS F T l v) (X : MS) : RdS (F + X) T l v := by rw [MS.add_comm]; exact h.more X
theorem RdS.nil (F : MS) (T : RT α) : RdS F T [] (.slice none 0 0) := ⟨none, 0, [], rfl, Nat.le_refl _, by simp [maxLen], RdC.nil _ _, rfl⟩
theorem RdS.form {F : MS} {T : RT α} {l : List α} {v : Value} (h : RdS F T l v) : ∃ A c, v = .slice A l.length c ∧ l.length ≤ c ∧ c ≤ maxLen := by
  obtain ⟨A, c, xs, h1, h2, h3, _⟩ := h
  exact ⟨A, c, h1, h2, h3⟩
/-- The cells of a slice that reads as a list. -/
theorem RdS.cells {F : MS} {T : RT α} {l : List α} {A : Option Addr} {n c : Nat} (h : RdS F T l (.slice A n c)) : n = l.length ∧ l.length ≤ c ∧ c ≤ maxLen ∧ ∃ xs, RdC F A xs ∧ RowsQ (T.rel F) l xs ∧ xs.length = l.length * T.sz := by
  obtain ⟨A', c', xs, h1, h2, h3, h4, h5⟩ := h
  injection h1 with h1 h1' h1''
  subst h1; subst h1''
  exact ⟨h1', h2, h3, xs, h4, h5, h5.length fun a cs h => T.len F a cs h⟩
/-- One thing. -/
theorem RdS.get {F : MS} {T : RT α} {l : List α} {A : Option Addr} {n c : Nat} (h : RdS F T l (.slice A n c)) {i : Nat} {a : α} (ha : l[i]? = some a) (hsz : 0 < T.sz) :
    ∃ b o cs, A = some ⟨b, o, none⟩ ∧ T.rel F a cs ∧ ∀ j u, cs[j]? = some u → F.at b (o + i * T.sz + j) u := by
  obtain ⟨_, _, _, xs, h4, h5, h6⟩ := h.cells
  obtain ⟨cs, k1, k2⟩ := h5.get (fun a cs h => T.len F a cs h) ha
  have hne : xs ≠ [] := fun e => by
    rw [e] at h6
    have := (List.getElem?_eq_some_iff.1 ha).1
    have : 0 < l.length * T.sz := Nat.mul_pos (by omega) hsz
    simp at h6
    omega
  obtain ⟨b, o, g1, g2⟩ := h4 hne
  exact ⟨b, o, cs, g1, k1, fun j u hu => by rw [Nat.add_assoc]; exact g2 _ u (k2 j u hu)⟩
end

/-! ### The kinds of things -/
def RT.int : RT Int := ⟨1, fun _ n cs => cs = [.int .i64 n], fun _ _ _ h => by rw [h]; rfl, fun _ _ _ _ h => h⟩
def RT.bool : RT Bool := ⟨1, fun _ q cs => cs = [.bool q], fun _ _ _ h => by rw [h]; rfl, fun _ _ _ _ h => h⟩
def RT.sl {α : Type} (T : RT α) : RT (List α) := ⟨1, fun F l cs => ∃ v, cs = [v] ∧ RdS F T l v, fun _ _ _ ⟨v, h, _⟩ => by rw [h]; rfl, fun F l cs X ⟨v, h, h'⟩ => ⟨v, h, h'.more X⟩⟩
theorem RT.sl_sz {α : Type} (T : RT α) : (RT.sl T).sz = 1 := rfl
theorem RT.int_sz : RT.int.sz = 1 := rfl
theorem RT.bool_sz : RT.bool.sz = 1 := rfl
/-- A cell of a slice of ints, bools. -/
theorem RdS.getInt {F : MS} {l : List Int} {A : Option Addr} {n c : Nat} (h : RdS F RT.int l (.slice A n c)) {i : Nat} {a : Int} (ha : l[i]? = some a) : ∃ b o, A = some ⟨b, o, none⟩ ∧ F.at b (o + i) (.int .i64 a) := by
  obtain ⟨b, o, cs, h1, h2, h3⟩ := h.get ha (Nat.one_pos)
  obtain rfl : cs = [.int .i64 a] := h2
  exact ⟨b, o, h1, by simpa [RT.int_sz] using h3 0 _ rfl⟩
theorem RdS.getBool {F : MS} {l : List Bool} {A : Option Addr} {n c : Nat} (h : RdS F RT.bool l (.slice A n c)) {i : Nat} {a : Bool} (ha : l[i]? = some a) : ∃ b o, A = some ⟨b, o, none⟩ ∧ F.at b (o + i) (.bool a) := by
  obtain ⟨b, o, cs, h1, h2, h3⟩ := h.get ha (Nat.one_pos)
  obtain rfl : cs = [.bool a] := h2
  exact ⟨b, o, h1, by simpa [RT.bool_sz] using h3 0 _ rfl⟩
theorem RdS.getSl {α : Type} {T : RT α} {F : MS} {l : List (List α)} {A : Option Addr} {n c : Nat} (h : RdS F (RT.sl T) l (.slice A n c)) {i : Nat} {a : List α} (ha : l[i]? = some a) :
    ∃ b o A' c', A = some ⟨b, o, none⟩ ∧ F.at b (o + i) (.slice A' a.length c') ∧ RdS F T a (.slice A' a.length c') ∧ a.length ≤ c' ∧ c' ≤ maxLen := by
  obtain ⟨b, o, cs, h1, ⟨v, rfl, h2⟩, h3⟩ := h.get ha (Nat.one_pos)
  obtain ⟨A', c', rfl, h4, h5⟩ := h2.form
  exact ⟨b, o, A', c', h1, by simpa [RT.sl_sz] using h3 0 _ rfl, h2, h4, h5⟩
/-- Cells of ints, bools. -/
theorem rowsQ_ints : ∀ (F : MS) (l : List Int), RowsQ (RT.int.rel F) l (l.map (Value.int .i64))
  | _, [] => rfl
  | F, a :: l => ⟨[.int .i64 a], _, rfl, rowsQ_ints F l, rfl⟩
theorem rowsQ_ints_eq : ∀ {F : MS} {l : List Int} {xs : List Value}, RowsQ (RT.int.rel F) l xs → xs = l.map (Value.int .i64)
  | _, [], _, h => h
  | F, a :: l, _, ⟨c1, c2, h1, h2, h3⟩ => by
    have e1 : c1 = [.int .i64 a] := h1
    rw [h3, e1, rowsQ_ints_eq h2]; rfl
theorem rowsQ_bools_eq : ∀ {F : MS} {l : List Bool} {xs : List Value}, RowsQ (RT.bool.rel F) l xs → xs = l.map Value.bool
  | _, [], _, h => h
  | F, a :: l, _, ⟨c1, c2, h1, h2, h3⟩ => by
    have e1 : c1 = [.bool a] := h1
    rw [h3, e1, rowsQ_bools_eq h2]; rfl
theorem rowsQ_bools : ∀ (F : MS) (l : List Bool), RowsQ (RT.bool.rel F) l (l.map Value.bool)
  | _, [] => rfl
  | F, a :: l => ⟨[.bool a], _, rfl, rowsQ_bools F l, rfl⟩

/-! ### What is owned can be read -/
section
variable {α : Type}
theorem RowsR.q {R : α → List Value → MS → Prop} {T : RT α} (hR : ∀ a cs m, R a cs m → T.rel m a cs) : ∀ {l : List α} {cs : List Value} {m : MS}, RowsR R l cs m → RowsQ (T.rel m) l cs
  | [], _, _, h => h.1
  | a :: l, _, _, ⟨c1, m1, c2, m2, h1, h2, h3, h4⟩ => by
    subst h4
    exact ⟨c1, c2, by rw [MS.add_comm]; exact T.more _ _ _ _ (hR _ _ _ h1), (RowsR.q hR h2).mono fun a cs h => T.more _ a cs m1 h, h3⟩
theorem SlR.rd {e sz : Nat} {R : α → List Value → MS → Prop} {T : RT α} (hR : ∀ a cs m, R a cs m → T.rel m a cs) {l : List α} {v : Value} {m : MS} (h : SlR e sz R l v m) : RdS m T l v := by
  obtain ⟨A, c, rfl, _, hc, hm⟩ := h.form
  obtain ⟨xs, ms, mr, h1, h2, rfl⟩ := h
  exact ⟨A, c, xs, rfl, hc, hm, by rw [MS.add_comm]; exact h1.rdc.more mr, (h2.q hR).mono fun a cs h => T.more _ a cs ms h⟩
theorem El.rd {S : α → Value → MS → Prop} {T : RT α} (hS : ∀ a v m, S a v m → T.rel m a [v]) : ∀ a cs m, El S a cs m → T.rel m a cs := fun a cs m ⟨v, h1, h2, _⟩ => by
  subst h1; exact hS a v m h2
end
end Go.Proofs.Ytnkgfgkgepadhaa

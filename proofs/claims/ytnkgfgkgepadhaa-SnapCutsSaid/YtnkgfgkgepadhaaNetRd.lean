/-
  Reading: what a claim on memory lets one read; copies of it stand for it in every later world that bears the claim. Plain theorems over any program. One thing more behind the others of a slice; ints, bools and slices of them as they are read. A net as it is read.
-/
import Derived.Test.YtnkgfgkgepadhaaDraw
import Derived.Test.YtnkgfgkgepadhaaWalk11
namespace Go.Proofs.Ytnkgfgkgepadhaa
open Go.RowKit
set_option linter.unusedVariables false

/-- The claim knows that cell i of block b holds u. -/
def MS.at (F : MS) (b i : Nat) (u : Value) : Prop := ∃ cs e fz, F.g b (.cells cs e fz) ∧ cs[i]? = some u
theorem MS.at.more {F : MS} {b i : Nat} {u : Value} (h : F.at b i u) (X : MS) : (X + F).at b i u := by
  obtain ⟨cs, e, fz, h1, h2⟩ := h
  exact ⟨cs, e, fz, Or.inr h1, h2⟩
theorem MS.at.less {F : MS} {b i : Nat} {u : Value} (h : F.at b i u) (X : MS) : (F + X).at b i u := by
  rw [MS.add_comm]; exact h.more X
theorem MS.at.cell {F X : MS} {b i : Nat} {u : Value} {w : World} (h : F.at b i u) (hH : Has w (X + F)) : w.cell? ⟨b, i, none⟩ = some u := by
  obtain ⟨cs, e, fz, h1, h2⟩ := h
  have h3 := (hH b).2.2 _ (Or.inl (Or.inr h1))
  simp only [World.cell?, h3, Option.isSome_none, Bool.false_eq_true, if_false, h2]
theorem blk_at {b i : Nat} {cs : Array Value} {e : TypeId} {u : Value} (h : cs[i]? = some u) : (blk b cs e).at b i u := ⟨cs, e, (0, 0), ⟨rfl, rfl⟩, h⟩
theorem all_at {w : World} {a : Addr} {u : Value} (h : w.cell? a = some u) : a.spot = none ∧ (MS.all w).at a.block a.off u := by
  unfold World.cell? at h
  cases hb : w.heap[a.block]? with
  | none => rw [hb] at h; cases h
  | some o =>
    rw [hb] at h
    cases o with
    | cells c e fz =>
      simp only at h
      cases hs : a.spot with
      | some s => rw [hs] at h; simp at h
      | none =>
        rw [hs] at h
        simp only [Option.isSome_none, Bool.false_eq_true, if_false] at h
        exact ⟨rfl, c, e, fz, hb, h⟩
    | _ => cases h

/-- Cells that can be read from an address on. -/
def RdC (F : MS) (A : Option Addr) (xs : List Value) : Prop := xs ≠ [] → ∃ b o, A = some ⟨b, o, none⟩ ∧ ∀ (j : Nat) u, xs[j]? = some u → F.at b (o + j) u
theorem RdC.more {F : MS} {A : Option Addr} {xs : List Value} (h : RdC F A xs) (X : MS) : RdC (X + F) A xs := fun hne => by
  obtain ⟨b, o, h1, h2⟩ := h hne
  exact ⟨b, o, h1, fun j u hu => (h2 j u hu).more X⟩
theorem RdC.less {F : MS} {A : Option Addr} {xs : List Value} (h : RdC F A xs) (X : MS) : RdC (F + X) A xs := by rw [MS.add_comm]; exact h.more X
theorem RdC.nil (F : MS) (A : Option Addr) : RdC F A [] := fun h => absurd rfl h
/-- As the laws on append ask for it. -/
theorem RdC.news {F X : MS} {w : World} {A : Option Addr} {xs : List Value} (h : RdC F A xs) (hH : Has w (X + F)) : ∀ a, A = some a → ∀ j u, xs[j]? = some u → w.cell? (a.add j) = some u := fun a ha j u hu => by
  obtain ⟨b, o, h1, h2⟩ := h (fun e => by rw [e] at hu; simp at hu)
  rw [ha] at h1
  injection h1 with h1
  subst h1
  rw [Addr.add_lit]
  exact (h2 j u hu).cell hH
theorem Sl.rdc {e sz n c : Nat} {A : Option Addr} {xs : List Value} {m : MS} (h : Sl e sz (.slice A n c) n xs m) : RdC m A xs := fun hne => by
  rcases h.2 with ⟨hv, h1, h2⟩ | ⟨b, off, c', cur, hv, rfl, h1, h2, h3, h4⟩
  · have := h.1
    rw [h1, Nat.zero_mul] at this
    exact absurd (List.eq_nil_of_length_eq_zero this) hne
  · injection hv with hv
    subst hv
    refine ⟨b, off, rfl, fun j u hu => blk_at ?_⟩
    have hj := (List.getElem?_eq_some_iff.1 hu).1
    rw [h4 j (by rw [← h.1]; exact hj), hu]

/-- The things of a list, one behind the other, as they are read. -/
def RowsQ {α : Type} (R : α → List Value → Prop) : List α → List Value → Prop
  | [], cs => cs = []
  | a :: l, cs => ∃ c1 c2, R a c1 ∧ RowsQ R l c2 ∧ cs = c1 ++ c2
/-- How a thing is read: how many cells it takes, what they hold. -/
structure RT (α : Type) where
  sz : Nat
  rel : MS → α → List Value → Prop
  len : ∀ F a cs, rel F a cs → cs.length = sz
  more : ∀ F a cs X, rel F a cs → rel (X + F) a cs
section
variable {α : Type}
theorem RowsQ.mono {R R' : α → List Value → Prop} (hR : ∀ a cs, R a cs → R' a cs) : ∀ {l : List α} {cs : List Value}, RowsQ R l cs → RowsQ R' l cs
  | [], _, h => h
  | _ :: _, _, ⟨c1, c2, h1, h2, h3⟩ => ⟨c1, c2, hR _ _ h1, h2.mono hR, h3⟩
theorem RowsQ.length {R : α → List Value → Prop} {sz : Nat} (hR : ∀ a cs, R a cs → cs.length = sz) : ∀ {l : List α} {cs : List Value}, RowsQ R l cs → cs.length = l.length * sz
  | [], _, h => by rw [h]; simp
  | a :: l, _, ⟨c1, c2, h1, h2, h3⟩ => by rw [h3, List.length_append, hR _ _ h1, h2.length hR, List.length_cons, Nat.succ_mul, Nat.add_comm]
theorem RowsQ.get {R : α → List Value → Prop} {sz : Nat} (hR : ∀ a cs, R a cs → cs.length = sz) : ∀ {l : List α} {cs : List Value} {i : Nat} {a : α}, RowsQ R l cs → l[i]? = some a → ∃ c, R a c ∧ ∀ j u, c[j]? = some u → cs[i * sz + j]? = some u
  | x :: l, _, 0, a, ⟨c1, c2, h1, h2, h3⟩, ha => by
    have : x = a := by simpa using ha
    subst this
    refine ⟨c1, h1, fun j u hu => ?_⟩
    have hj := (List.getElem?_eq_some_iff.1 hu).1
    rw [h3, Nat.zero_mul, Nat.zero_add, List.getElem?_append_left hj]
    exact hu
  | x :: l, _, i + 1, a, ⟨c1, c2, h1, h2, h3⟩, ha => by
    obtain ⟨c, h4, h5⟩ := h2.get hR (i := i) (a := a) (by simpa using ha)
    refine ⟨c, h4, fun j u hu => ?_⟩
    have hl := hR _ _ h1
    rw [h3, List.getElem?_append_right (by rw [Nat.succ_mul]; omega), Nat.succ_mul, show i * sz + sz + j - c1.length = i * sz + j by omega]
    exact h5 j u hu
theorem RowsQ.append {R : α → List Value → Prop} : ∀ {l l' : List α} {cs cs' : List Value}, RowsQ R l cs → RowsQ R l' cs' → RowsQ R (l ++ l') (cs ++ cs')
  | [], _, _, _, h, h' => by rw [h]; exact h'
  | a :: l, _, _, cs', ⟨c1, c2, h1, h2, h3⟩, h' => ⟨c1, c2 ++ cs', h1, h2.append h', by rw [h3, List.append_assoc]⟩
theorem RowsQ.take {R : α → List Value → Prop} {sz : Nat} (hR : ∀ a cs, R a cs → cs.length = sz) : ∀ {l : List α} {cs : List Value} (k : Nat), RowsQ R l cs → RowsQ R (l.take k) (cs.take (k * sz))
  | [], _, k, h => by rw [h]; simp [RowsQ]
  | a :: l, _, 0, h => by simp [RowsQ]
  | a :: l, _, k + 1, ⟨c1, c2, h1, h2, h3⟩ => by
    have hl := hR _ _ h1
    rw [List.take_succ_cons, h3, Nat.succ_mul, List.take_append, List.take_of_length_le (l := c1) (by omega), show k * sz + sz - c1.length = k * sz by omega]
    exact ⟨c1, _, h1, RowsQ.take hR k h2, rfl⟩
theorem RowsQ.drop {R : α → List Value → Prop} {sz : Nat} (hR : ∀ a cs, R a cs → cs.length = sz) : ∀ {l : List α} {cs : List Value} (k : Nat), RowsQ R l cs → RowsQ R (l.drop k) (cs.drop (k * sz))
  | [], _, k, h => by rw [h]; simp [RowsQ]
  | a :: l, _, 0, h => by simpa using h
  | a :: l, _, k + 1, ⟨c1, c2, h1, h2, h3⟩ => by
    have hl := hR _ _ h1
    rw [List.drop_succ_cons, h3, Nat.succ_mul, List.drop_append, @List.drop_eq_nil_of_le _ c1 _ (by omega), List.nil_append, show k * sz + sz - c1.length = k * sz by omega]
    exact RowsQ.drop hR k h2

/-- A slice that reads as a list. -/
def RdS (F : MS) (T : RT α) (l : List α) (v : Value) : Prop := ∃ A c xs, v = .slice A l.length c ∧ l.length ≤ c ∧ c ≤ maxLen ∧ RdC F A xs ∧ RowsQ (T.rel F) l xs
theorem RdS.more {F : MS} {T : RT α} {l : List α} {v : Value} (h : RdS F T l v) (X : MS) : RdS (X + F) T l v := by
  obtain ⟨A, c, xs, h1, h2, h3, h4, h5⟩ := h
  exact ⟨A, c, xs, h1, h2, h3, h4.more X, h5.mono fun a cs h => T.more F a cs X h⟩
theorem RdS.less {F : MS} {T : RT α} {l : List α} {v : Value} (h : RdS F T l v) (X : MS) : RdS (F + X) T l v := by rw [MS.add_comm]; exact h.more X
theorem RdS.nil (F : MS) (T : RT α) : RdS F T [] (.slice none 0 0) := ⟨none, 0, [], rfl, Nat.le_refl _, by simp [maxLen], RdC.nil _ _, rfl⟩
theorem RdS.form {F : MS} {T : RT α} {l : List α} {v : Value} (h : RdS F T l v) : ∃ A c, v = .slice A l.length c ∧ l.length ≤ c ∧ c ≤ maxLen := by
  obtain ⟨A, c, xs, h1, h2, h3, _⟩ := h
  exact ⟨A, c, h1, h2, h3⟩
/-- The cells of a slice that reads as a list. -/
theorem RdS.cells {F : MS} {T : RT α} {l : List α} {A : Option Addr} {n c : Nat} (h : RdS F T l (.slice A n c)) : n = l.length ∧ l.length ≤ c ∧ c ≤ maxLen ∧ ∃ xs, RdC F A xs ∧ RowsQ (T.rel F) l xs ∧ xs.length = l.length * T.sz := by
  obtain ⟨A', c', xs, h1, h2, h3, h4, h5⟩ := h
  injection h1 with h1 h1' h1''
  subst h1; subst h1''
  exact ⟨h1', h2, h3, xs, h4, h5, h5.length fun a cs h => T.len F a cs h⟩
/-- One thing. -/
theorem RdS.get {F : MS} {T : RT α} {l : List α} {A : Option Addr} {n c : Nat} (h : RdS F T l (.slice A n c)) {i : Nat} {a : α} (ha : l[i]? = some a) (hsz : 0 < T.sz) :
    ∃ b o cs, A = some ⟨b, o, none⟩ ∧ T.rel F a cs ∧ ∀ j u, cs[j]? = some u → F.at b (o + i * T.sz + j) u := by
  obtain ⟨_, _, _, xs, h4, h5, h6⟩ := h.cells
  obtain ⟨cs, k1, k2⟩ := h5.get (fun a cs h => T.len F a cs h) ha
  have hne : xs ≠ [] := fun e => by
    rw [e] at h6
    have := (List.getElem?_eq_some_iff.1 ha).1
    have : 0 < l.length * T.sz := Nat.mul_pos (by omega) hsz
    simp at h6
    omega
  obtain ⟨b, o, g1, g2⟩ := h4 hne
  exact ⟨b, o, cs, g1, k1, fun j u hu => by rw [Nat.add_assoc]; exact g2 _ u (k2 j u hu)⟩
end

/-! ### The kinds of things -/
def RT.int : RT Int := ⟨1, fun _ n cs => cs = [.int .i64 n], fun _ _ _ h => by rw [h]; rfl, fun _ _ _ _ h => h⟩
def RT.bool : RT Bool := ⟨1, fun _ q cs => cs = [.bool q], fun _ _ _ h => by rw [h]; rfl, fun _ _ _ _ h => h⟩
def RT.sl {α : Type} (T : RT α) : RT (List α) := ⟨1, fun F l cs => ∃ v, cs = [v] ∧ RdS F T l v, fun _ _ _ ⟨v, h, _⟩ => by rw [h]; rfl, fun F l cs X ⟨v, h, h'⟩ => ⟨v, h, h'.more X⟩⟩
theorem RT.sl_sz {α : Type} (T : RT α) : (RT.sl T).sz = 1 := rfl
theorem RT.int_sz : RT.int.sz = 1 := rfl
theorem RT.bool_sz : RT.bool.sz = 1 := rfl
/-- A cell of a slice of ints, bools. -/
theorem RdS.getInt {F : MS} {l : List Int} {A : Option Addr} {n c : Nat} (h : RdS F RT.int l (.slice A n c)) {i : Nat} {a : Int} (ha : l[i]? = some a) : ∃ b o, A = some ⟨b, o, none⟩ ∧ F.at b (o + i) (.int .i64 a) := by
  obtain ⟨b, o, cs, h1, h2, h3⟩ := h.get ha (Nat.one_pos)
  obtain rfl : cs = [.int .i64 a] := h2
  exact ⟨b, o, h1, by simpa [RT.int_sz] using h3 0 _ rfl⟩
theorem RdS.getBool {F : MS} {l : List Bool} {A : Option Addr} {n c : Nat} (h : RdS F RT.bool l (.slice A n c)) {i : Nat} {a : Bool} (ha : l[i]? = some a) : ∃ b o, A = some ⟨b, o, none⟩ ∧ F.at b (o + i) (.bool a) := by
  obtain ⟨b, o, cs, h1, h2, h3⟩ := h.get ha (Nat.one_pos)
  obtain rfl : cs = [.bool a] := h2
  exact ⟨b, o, h1, by simpa [RT.bool_sz] using h3 0 _ rfl⟩
theorem RdS.getSl {α : Type} {T : RT α} {F : MS} {l : List (List α)} {A : Option Addr} {n c : Nat} (h : RdS F (RT.sl T) l (.slice A n c)) {i : Nat} {a : List α} (ha : l[i]? = some a) :
    ∃ b o A' c', A = some ⟨b, o, none⟩ ∧ F.at b (o + i) (.slice A' a.length c') ∧ RdS F T a (.slice A' a.length c') ∧ a.length ≤ c' ∧ c' ≤ maxLen := by
  obtain ⟨b, o, cs, h1, ⟨v, rfl, h2⟩, h3⟩ := h.get ha (Nat.one_pos)
  obtain ⟨A', c', rfl, h4, h5⟩ := h2.form
  exact ⟨b, o, A', c', h1, by simpa [RT.sl_sz] using h3 0 _ rfl, h2, h4, h5⟩
/-- Cells of ints, bools. -/
theorem rowsQ_ints : ∀ (F : MS) (l : List Int), RowsQ (RT.int.rel F) l (l.map (Value.int .i64))
  | _, [] => rfl
  | F, a :: l => ⟨[.int .i64 a], _, rfl, rowsQ_ints F l, rfl⟩
theorem rowsQ_ints_eq : ∀ {F : MS} {l : List Int} {xs : List Value}, RowsQ (RT.int.rel F) l xs → xs = l.map (Value.int .i64)
  | _, [], _, h => h
  | F, a :: l, _, ⟨c1, c2, h1, h2, h3⟩ => by
    have e1 : c1 = [.int .i64 a] := h1
    rw [h3, e1, rowsQ_ints_eq h2]; rfl
theorem rowsQ_bools_eq : ∀ {F : MS} {l : List Bool} {xs : List Value}, RowsQ (RT.bool.rel F) l xs → xs = l.map Value.bool
  | _, [], _, h => h
  | F, a :: l, _, ⟨c1, c2, h1, h2, h3⟩ => by
    have e1 : c1 = [.bool a] := h1
    rw [h3, e1, rowsQ_bools_eq h2]; rfl
theorem rowsQ_bools : ∀ (F : MS) (l : List Bool), RowsQ (RT.bool.rel F) l (l.map Value.bool)
  | _, [] => rfl
  | F, a :: l => ⟨[.bool a], _, rfl, rowsQ_bools F l, rfl⟩

/-! ### What is owned can be read -/
section
variable {α : Type}
theorem RowsR.q {R : α → List Value → MS → Prop} {T : RT α} (hR : ∀ a cs m, R a cs m → T.rel m a cs) : ∀ {l : List α} {cs : List Value} {m : MS}, RowsR R l cs m → RowsQ (T.rel m) l cs
  | [], _, _, h => h.1
  | a :: l, _, _, ⟨c1, m1, c2, m2, h1, h2, h3, h4⟩ => by
    subst h4
    exact ⟨c1, c2, by rw [MS.add_comm]; exact T.more _ _ _ _ (hR _ _ _ h1), (RowsR.q hR h2).mono fun a cs h => T.more _ a cs m1 h, h3⟩
theorem SlR.rd {e sz : Nat} {R : α → List Value → MS → Prop} {T : RT α} (hR : ∀ a cs m, R a cs m → T.rel m a cs) {l : List α} {v : Value} {m : MS} (h : SlR e sz R l v m) : RdS m T l v := by
  obtain ⟨A, c, rfl, _, hc, hm⟩ := h.form
  obtain ⟨xs, ms, mr, h1, h2, rfl⟩ := h
  exact ⟨A, c, xs, rfl, hc, hm, by rw [MS.add_comm]; exact h1.rdc.more mr, (h2.q hR).mono fun a cs h => T.more _ a cs ms h⟩
theorem El.rd {S : α → Value → MS → Prop} {T : RT α} (hS : ∀ a v m, S a v m → T.rel m a [v]) : ∀ a cs m, El S a cs m → T.rel m a cs := fun a cs m ⟨v, h1, h2, _⟩ => by
  subst h1; exact hS a v m h2
end
end Go.Proofs.Ytnkgfgkgepadhaa

namespace Go.Proofs.Ytnkgfgkgepadhaa
open Go.RowKit
set_option linter.unusedVariables false

/-- What the table says of a slice type: its elements' type, their cells, their bytes, their zero. -/
structure RowTy (P : Program) (t e : TypeId) (z : Value) (sz bytes : Nat) : Prop where
  ht : P.underlying t = some (.slice e)
  hi : (P.info? e).map (fun i => (i.zero, i.size, i.bytes)) = some (some z, sz, bytes)
  hz : z.cells.size = sz
section
variable {P : Program} {W : World} {o : Oper} {a : Act} {K : Act → World → Prop} {Q : Exit → Act → World → Prop} {ops : Array Oper} {rest : List Oper} {α : Type}
theorem wp_push (s x : Operand) {t e : TypeId} {z : Value} {sz bytes : Nat} (row : RowTy P t e z sz bytes)
    (ho : o.op = .call { callee := .builtin .append, args := #[s, x], argTypes := #[t, t] })
    (v : Value) (hs : a.eval s = v) (cs : Array Value) {g : Nat} (hx : a.eval x = .slice (some ⟨g, 0, none⟩) 1 1) (hg : W.heap.size = g)
    (R : α → List Value → MS → Prop) (hR : ∀ a cs m, R a cs m → ∀ u ∈ cs, u.oneCell' = true) (hR2 : ∀ a cs m, R a cs m → cs.length = sz) (l : List α) (q : α) (m m2 F : MS) (hown : SlR e sz R l v m) (hnew : R q cs.toList m2) (hH : Has W (m + (m2 + F)))
    (n : Nat) (hn : l.length = n) (hl : n ≤ 1000000) (hb : bytes ≤ 1000)
    (h : ∀ A' c' w' m', SlR e sz R (l ++ [q]) (.slice A' (n + 1) c') m' → Has w' (m' + F) → Ext W w' → K (a.put o.dst (.slice A' (n + 1) c')) w') : o.wp P a (W.alloc (.cells cs e)) K Q := by
  subst hn
  subst hg
  obtain ⟨xs, ms, mr, h1, h2, rfl⟩ := hown
  have hcl := hR2 _ _ _ hnew
  have hbb : (l.length + 1) * bytes ≤ 1000001 * 1000 := Nat.mul_le_mul (by omega) hb
  refine wp_append_sl s x t ho e z sz bytes row.ht row.hi row.hz v hs (some ⟨W.heap.size, 0, none⟩) 1 1 hx l.length xs ms (mr + (m2 + F)) h1 ((hH.alloc (.cells cs e)).right.eq (by ac_rfl)) cs.toList (by rw [hcl]; simp) (by simp)
    (fun a ha => by injection ha with ha; subst ha; exact World.news_of_block (heap_alloc_new _ _)) (hR _ _ _ hnew) (by simp only [maxLen]; omega) (by omega) ?_
  intro v' w' m' k1 k2 k3
  obtain ⟨A', c', rfl, _⟩ := k1.form
  exact h A' c' w' (m' + (mr + m2)) (SlR.of (by simpa using k1) (h2.append (RowsR.one hnew))) (k2.eq (by ac_rfl)) ((Ext.alloc W _).trans k3)
theorem wpList_push (hgd : o.guard = none) (s x : Operand) {t e : TypeId} {z : Value} {sz bytes : Nat} (row : RowTy P t e z sz bytes)
    (ho : o.op = .call { callee := .builtin .append, args := #[s, x], argTypes := #[t, t] })
    (v : Value) (hs : a.eval s = v) (cs : Array Value) {g : Nat} (hx : a.eval x = .slice (some ⟨g, 0, none⟩) 1 1) (hg : W.heap.size = g)
    (R : α → List Value → MS → Prop) (hR : ∀ a cs m, R a cs m → ∀ u ∈ cs, u.oneCell' = true) (hR2 : ∀ a cs m, R a cs m → cs.length = sz) (l : List α) (q : α) (m m2 F : MS) (hown : SlR e sz R l v m) (hnew : R q cs.toList m2) (hH : Has W (m + (m2 + F)))
    (n : Nat) (hn : l.length = n) (hl : n ≤ 1000000) (hb : bytes ≤ 1000)
    (h : ∀ A' c' w' m', SlR e sz R (l ++ [q]) (.slice A' (n + 1) c') m' → Has w' (m' + F) → Ext W w' → wpList P ops Q rest (a.put o.dst (.slice A' (n + 1) c')) w') : wpList P ops Q (o :: rest) a (W.alloc (.cells cs e)) :=
  wpList_plain hgd fun _ hK => wp_push s x row ho v hs cs hx hg R hR hR2 l q m m2 F hown hnew hH n hn hl hb fun A' c' w' m' h1 h2 h3 => hK _ _ (h A' c' w' m' h1 h2 h3)
theorem op_push (s x : Operand) {t e : TypeId} {z : Value} {sz bytes : Nat} (row : RowTy P t e z sz bytes)
    (ho : o.op = .call { callee := .builtin .append, args := #[s, x], argTypes := #[t, t] })
    (v : Value) (hs : a.eval s = v) (cs : Array Value) {g : Nat} (hx : a.eval x = .slice (some ⟨g, 0, none⟩) 1 1) (hg : W.heap.size = g)
    (R : α → List Value → MS → Prop) (hR : ∀ a cs m, R a cs m → ∀ u ∈ cs, u.oneCell' = true) (hR2 : ∀ a cs m, R a cs m → cs.length = sz) (l : List α) (q : α) (m m2 F : MS) (hown : SlR e sz R l v m) (hnew : R q cs.toList m2) (hH : Has W (m + (m2 + F)))
    (n : Nat) (hn : l.length = n) (hl : n ≤ 1000000) (hb : bytes ≤ 1000)
    (h : ∀ A' c' w' m', SlR e sz R (l ++ [q]) (.slice A' (n + 1) c') m' → Has w' (m' + F) → Ext W w' → K (a.put o.dst (.slice A' (n + 1) c')) w') : opWp P o a (W.alloc (.cells cs e)) K Q :=
  op_of (wp_push s x row ho v hs cs hx hg R hR hR2 l q m m2 F hown hnew hH n hn hl hb h)
end

theorem row22 : RowTy Try.prog 22 3 (.int .i64 0) 1 8 := ⟨Try.underlying22, info3, rfl⟩
theorem row44 : RowTy Try.prog 44 22 (.slice none 0 0) 1 24 := ⟨Try.underlying44, info22, rfl⟩
theorem row36 : RowTy Try.prog 36 44 (.slice none 0 0) 1 24 := ⟨Try.underlying36, info44, rfl⟩
theorem row91 : RowTy Try.prog 91 94 .nilIface 1 16 := ⟨Try.underlying91, info94, rfl⟩
theorem row92 : RowTy Try.prog 92 91 (.slice none 0 0) 1 24 := ⟨Try.underlying92, info91, rfl⟩
theorem row32 : RowTy Try.prog 32 68 (.agg #[.int .i64 0, .int .i64 0, .int .i64 0, .int .i64 0, .slice none 0 0]) 5 56 := ⟨Try.underlying32, info68, rfl⟩

theorem SlR.empty {α : Type} (e sz : Nat) (R : α → List Value → MS → Prop) : SlR e sz R [] (.slice none 0 0) 0 := ⟨[], 0, 0, Sl.nil e sz, RowsR.nil, (MS.zero_add 0).symm⟩
theorem Ints.rdS {l : List Int} {v : Value} {m : MS} (h : Ints l v m) : RdS m RT.int l v := SlR.rd (T := RT.int) (fun a cs m ⟨v, h1, h2, _⟩ => by obtain ⟨rfl, _⟩ := h2; exact h1) h
theorem Bools.rdS {l : List Bool} {v : Value} {m : MS} (h : Bools l v m) : RdS m RT.bool l v := SlR.rd (T := RT.bool) (fun a cs m ⟨v, h1, h2, _⟩ => by obtain ⟨rfl, _⟩ := h2; exact h1) h
theorem Ints2.rdS {l : List (List Int)} {v : Value} {m : MS} (h : Ints2 l v m) : RdS m (RT.sl RT.int) l v := SlR.rd (T := RT.sl RT.int) (fun a cs m ⟨v, h1, h2, _⟩ => ⟨v, h1, h2.rdS⟩) h
theorem Ints3.rdS {l : List (List (List Int))} {v : Value} {m : MS} (h : Ints3 l v m) : RdS m (RT.sl (RT.sl RT.int)) l v := SlR.rd (T := RT.sl (RT.sl RT.int)) (fun a cs m ⟨v, h1, h2, _⟩ => ⟨v, h1, h2.rdS⟩) h
theorem Bools2.rdS {l : List (List Bool)} {v : Value} {m : MS} (h : Bools2 l v m) : RdS m (RT.sl RT.bool) l v := SlR.rd (T := RT.sl RT.bool) (fun a cs m ⟨v, h1, h2, _⟩ => ⟨v, h1, h2.rdS⟩) h
theorem El.ints {l : List Int} {v : Value} {m : MS} (h : Ints l v m) : El Ints l [v] m := ⟨v, rfl, h, h.one⟩
theorem El.ints2 {l : List (List Int)} {v : Value} {m : MS} (h : Ints2 l v m) : El Ints2 l [v] m := ⟨v, rfl, h, SlR.one h⟩

/-- Clone of ints that can be read. -/
theorem clone_rd {A : Option Addr} {n c : Nat} {l : List Int} {w : World} {F : MS} (hr : RdS F RT.int l (.slice A n c)) (hH : Has w F) (hl : l.length ≤ 1000000) :
    Calls Try.prog 58 #[.slice A n c] w fun e w' => ∃ A' c' m, e = .returned (.slice A' l.length c') ∧ Ints l (.slice A' l.length c') m ∧ Has w' (m + F) ∧ Ext w w' := by
  obtain ⟨rfl, _, _, xs, h4, h5, h6⟩ := hr.cells
  obtain rfl := rowsQ_ints_eq h5
  refine clone_ints A l.length c l rfl w F ⟨fun hA => ?_, h4.news (X := 0) (by rw [MS.zero_add]; exact hH)⟩ hH hl
  cases l with
  | nil => rfl
  | cons x l =>
    obtain ⟨b, o, h7, _⟩ := h4 (by simp)
    rw [hA] at h7; cases h7

/-- The relation of a loop that lays one thing more a round. -/
def BuildInv {α : Type} (e sz : Nat) (R : α → List Value → MS → Prop) (G : MS) (w : World) (l : List α) (vo v : Value) (wr : World) : Prop :=
  ∃ t : Nat, t ≤ l.length ∧ v = .int .i64 t ∧ ∃ mo, SlR e sz R (l.take t) vo mo ∧ Has wr (mo + G) ∧ Ext w wr
theorem BuildInv.start {α : Type} {e sz : Nat} {R : α → List Value → MS → Prop} {G : MS} {w wr : World} {l : List α} (hH : Has wr G) (hE : Ext w wr) : BuildInv e sz R G w l (.slice none 0 0) (.int .i64 0) wr :=
  ⟨0, Nat.zero_le _, rfl, 0, SlR.empty e sz R, by rw [MS.zero_add]; exact hH, hE⟩
theorem take_more {α : Type} {l : List α} {t : Nat} {a : α} (h : l[t]? = some a) : l.take (t + 1) = l.take t ++ [a] := by
  obtain ⟨hi, rfl⟩ := List.getElem?_eq_some_iff.1 h
  exact List.take_succ_eq_append_getElem hi

set_option maxHeartbeats 2000000 in
set_option maxRecDepth 100000 in
theorem deep_any (F : MS) (l : List (List (List Int))) (v : Value) (w : World) (hl : RdS F (RT.sl (RT.sl RT.int)) l v) (hH : Has w F) (b1 : l.length ≤ 1000) (b2 : ∀ r ∈ l, r.length ≤ 1000) (b3 : ∀ r ∈ l, ∀ q ∈ r, q.length ≤ 1000) :
    Calls Try.prog 60 #[v] w fun e w' => ∃ A c m', e = .returned (.slice A l.length c) ∧ Ints3 l (.slice A l.length c) m' ∧ Has w' (m' + F) ∧ Ext w w' := by
  obtain ⟨Al, cl, rfl, _, _⟩ := hl.form
  have Hl := hid hl
  have HH := hid hH
  have Hb := hid (And.intro b2 b3)
  have b1' : (l.length : Int) ≤ 1000 := by omega
  clear hl hH b2 b3
  go_enter Try.func60, Try.ntmps60
  go_wp2
  go_loopw [3, 11] (fun vo v wr => BuildInv 44 1 (El Ints2) F w l vo v wr) (fun _ v _ => l.length - (intOf v).toNat)
  case atStart => exact BuildInv.start HH.out (Ext.refl w)
  case round =>
    obtain ⟨t, ht, rfl, mo, ho, hHt, hEt⟩ := hrel
    obtain ⟨Ao, co, rfl, _, _⟩ := ho.form
    have hlen : (l.take t).length = t := by simp; omega
    rw [hlen] at ho ⊢
    by_cases hlt : t < l.length
    · obtain ⟨r, hr⟩ : ∃ r, l[t]? = some r := ⟨_, List.getElem?_eq_getElem hlt⟩
      obtain ⟨b1, o1, Ar, cr, rfl, e1, hr2, _, _⟩ := Hl.out.getSl hr
      have f1 := e1.cell hHt
      have hrl := Hb.out.1 r (List.mem_of_getElem? hr)
      have hrl' : (r.length : Int) ≤ 1000 := by omega
      have Hq := hid (Hb.out.2 r (List.mem_of_getElem? hr))
      have Hr2 := hid hr2
      have Ho := hid ho
      have HHt := hid hHt
      have HE := hid hEt
      have Hr := hid hr
      have Hlt := hid hlt
      have Hlen := hid hlen
      clear hr2 ho hHt hEt hr e1 hlen
      go_wp2
      go_loopw [6, 17] (fun vo v wr => BuildInv 22 1 (El Ints) (mo + F) w r vo v wr) (fun _ v _ => r.length - (intOf v).toNat)
      case atStart => exact BuildInv.start HHt.out HE.out
      case round =>
        obtain ⟨s, hs, rfl, mi, hi, hHs, hEs⟩ := hrel
        obtain ⟨Ai, ci, rfl, _, _⟩ := SlR.form hi
        have hlen2 : (r.take s).length = s := by simp; omega
        rw [hlen2] at hi ⊢
        by_cases hls : s < r.length
        · obtain ⟨q, hq⟩ : ∃ q, r[s]? = some q := ⟨_, List.getElem?_eq_getElem hls⟩
          obtain ⟨b2, o2, Aq, cq, rfl, e2, hq2, _, _⟩ := Hr2.out.getSl hq
          have f2 := (e2.more mo).cell hHs
          have hql := Hq.out q (List.mem_of_getElem? hq)
          have Hc := hid (clone_rd (w := wr) ((hq2.more mo).more mi) hHs (by omega))
          have Hi := hid hi
          have HHs := hid hHs
          have HEs := hid hEs
          have Htk := hid (take_more hq)
          have Hls := hid hls
          have Hlen2 := hid hlen2
          clear hi hHs hEs hq2 e2 hls hq hlen2
          go_wp2_with (first
            | (go_at_call 58; refine Hc.out.mono ?_; rintro e w1 ⟨A1, c1, m1, rfl, h1, h2, h3⟩; have g1 := hid h1; have g2 := hid h2; have g3 := hid h3; clear h1 h2 h3)
            | (at_builtin; refine wpList_push rfl (.tmp 21) (.tmp 24) row44 rfl _ rfl _ rfl rfl (El Ints) El.one El.len (r.take s) q mi m1 (mo + F) Hi.out (El.ints g1.out) (g2.out.eq (by ac_rfl)) s Hlen2.out (by omega) (by omega) ?_; intro A2 c2 w2 m2 k1 k2 k3; have K1 := hid k1; have K2 := hid k2; have K3 := hid k3; clear k1 k2 k3))
          go_roundw
          case rel => exact ⟨s + 1, Hls.out, by go_num, m2, by rw [Htk.out]; exact K1.out, K2.out, (HEs.out.trans g3.out).trans K3.out⟩
          case measure => have := Hls.out; simp [intOf]; omega
        · obtain rfl : s = r.length := by omega
          have Hi := hid (show Ints2 r (.slice Ai r.length ci) mi by rw [List.take_length] at hi; exact hi)
          have HHs := hid hHs
          have HEs := hid hEs
          have Htk := hid (take_more Hr.out)
          clear hi hHs hEs hlen2
          go_wp2_with (at_builtin; refine wpList_push rfl (.tmp 27) (.tmp 29) row36 rfl _ rfl _ rfl rfl (El Ints2) El.one El.len (l.take t) r mo mi F Ho.out (El.ints2 Hi.out) (HHs.out.eq (by ac_rfl)) t Hlen.out (by omega) (by omega) ?_; intro A2 c2 w2 m2 k1 k2 k3; have K1 := hid k1; have K2 := hid k2; have K3 := hid k3; clear k1 k2 k3)
          go_roundw
          case rel => exact ⟨t + 1, Hlt.out, by go_num, m2, by rw [Htk.out]; exact K1.out, K2.out, HEs.out.trans K3.out⟩
          case measure => have := Hlt.out; simp [intOf]; omega
    · obtain rfl : t = l.length := by omega
      have Ho := hid (show Ints3 l (.slice Ao l.length co) mo by rw [List.take_length] at ho; exact ho)
      have HHt := hid hHt
      have HEt := hid hEt
      clear ho hHt hEt hlen
      go_wp2
      go_ret
      exact ⟨_, _, mo, rfl, Ho.out, HHt.out, HEt.out⟩
end Go.Proofs.Ytnkgfgkgepadhaa

namespace Go.Proofs.Ytnkgfgkgepadhaa
open Go.RowKit
set_option linter.unusedVariables false

def RT.sta : RT Sta := ⟨3, fun F s cs => ∃ vc, cs = [.int .i64 s.pieces, .int .i64 s.events, vc] ∧ RdS F RT.int s.clock vc, fun _ _ _ ⟨_, h, _⟩ => by rw [h]; rfl, fun F s cs X ⟨vc, h, h'⟩ => ⟨vc, h, h'.more X⟩⟩
def RT.ev : RT Ev := ⟨5, fun F x cs => ∃ vc, cs = [.int .i64 x.station, .int .i64 x.what, .int .i64 x.other, .int .i64 x.pieces, vc] ∧ RdS F RT.int x.clock vc, fun _ _ _ ⟨_, h, _⟩ => by rw [h]; rfl, fun F s cs X ⟨vc, h, h'⟩ => ⟨vc, h, h'.more X⟩⟩
def RT.msg : RT Msg := ⟨1, fun F x cs => (0 < x.told ∧ ∃ vc, cs = [.iface 96 (.agg #[.int .i64 x.told, vc])] ∧ RdS F RT.int x.clock vc) ∨ (x.told < 0 ∧ cs = [.iface 99 (.int .i64 (-x.told))] ∧ x.clock = []),
  fun _ _ _ h => by rcases h with ⟨_, _, h, _⟩ | ⟨_, h, _⟩ <;> rw [h] <;> rfl, fun F s cs X h => by
    rcases h with ⟨h0, vc, h, h'⟩ | h
    · exact .inl ⟨h0, vc, h, h'.more X⟩
    · exact .inr h⟩
/-- A snapshot behind its address. -/
def RdShot (F : MS) (x : Shot) (p : Nat) : Prop := ∃ v0 v1 v2 v3 v4, F.at p 0 v0 ∧ F.at p 1 v1 ∧ F.at p 2 v2 ∧ F.at p 3 v3 ∧ F.at p 4 v4 ∧ RdS F RT.bool x.recorded v0 ∧ RdS F (RT.sl RT.bool) x.closed v1 ∧ RdS F RT.int x.cut v2 ∧ RdS F RT.int x.pieces v3 ∧ RdS F (RT.sl (RT.sl RT.int)) x.under v4
theorem RdShot.more {F : MS} {x : Shot} {p : Nat} (h : RdShot F x p) (X : MS) : RdShot (X + F) x p := by
  obtain ⟨v0, v1, v2, v3, v4, a0, a1, a2, a3, a4, b0, b1, b2, b3, b4⟩ := h
  exact ⟨v0, v1, v2, v3, v4, a0.more X, a1.more X, a2.more X, a3.more X, a4.more X, b0.more X, b1.more X, b2.more X, b3.more X, b4.more X⟩
def RT.shot : RT Shot := ⟨1, fun F x cs => ∃ p, cs = [.pointer (some ⟨p, 0, none⟩)] ∧ RdShot F x p, fun _ _ _ ⟨_, h, _⟩ => by rw [h]; rfl, fun F x cs X ⟨p, h, h'⟩ => ⟨p, h, h'.more X⟩⟩

theorem RdS.getSta {F : MS} {l : List Sta} {A : Option Addr} {n c : Nat} (h : RdS F RT.sta l (.slice A n c)) {i : Nat} {s : Sta} (hs : l[i]? = some s) :
    ∃ b o A' c', A = some ⟨b, o, none⟩ ∧ F.at b (o + i * 3) (.int .i64 s.pieces) ∧ F.at b (o + i * 3 + 1) (.int .i64 s.events) ∧ F.at b (o + i * 3 + 2) (.slice A' s.clock.length c') ∧ RdS F RT.int s.clock (.slice A' s.clock.length c') := by
  obtain ⟨b, o, cs, h1, ⟨vc, rfl, h2⟩, h3⟩ := h.get hs (show 0 < 3 by omega)
  obtain ⟨A', c', rfl, _⟩ := h2.form
  exact ⟨b, o, A', c', h1, h3 0 _ rfl, h3 1 _ rfl, h3 2 _ rfl, h2⟩
theorem RdS.getEv {F : MS} {l : List Ev} {A : Option Addr} {n c : Nat} (h : RdS F RT.ev l (.slice A n c)) {i : Nat} {x : Ev} (hs : l[i]? = some x) :
    ∃ b o A' c', A = some ⟨b, o, none⟩ ∧ F.at b (o + i * 5) (.int .i64 x.station) ∧ F.at b (o + i * 5 + 1) (.int .i64 x.what) ∧ F.at b (o + i * 5 + 2) (.int .i64 x.other) ∧ F.at b (o + i * 5 + 3) (.int .i64 x.pieces) ∧ F.at b (o + i * 5 + 4) (.slice A' x.clock.length c') ∧ RdS F RT.int x.clock (.slice A' x.clock.length c') := by
  obtain ⟨b, o, cs, h1, ⟨vc, rfl, h2⟩, h3⟩ := h.get hs (show 0 < 5 by omega)
  obtain ⟨A', c', rfl, _⟩ := h2.form
  exact ⟨b, o, A', c', h1, h3 0 _ rfl, h3 1 _ rfl, h3 2 _ rfl, h3 3 _ rfl, h3 4 _ rfl, h2⟩
theorem RdS.getMsg {F : MS} {l : List Msg} {A : Option Addr} {n c : Nat} (h : RdS F RT.msg l (.slice A n c)) {i : Nat} {x : Msg} (hs : l[i]? = some x) :
    ∃ b o v, A = some ⟨b, o, none⟩ ∧ F.at b (o + i) v ∧ RT.msg.rel F x [v] := by
  obtain ⟨b, o, cs, h1, h2, h3⟩ := h.get hs (show 0 < 1 by omega)
  have := RT.msg.len _ _ _ h2
  obtain ⟨v, rfl⟩ : ∃ v, cs = [v] := by
    cases cs with
    | nil => cases this
    | cons v t =>
      cases t with
      | nil => exact ⟨v, rfl⟩
      | cons _ _ => simp [RT.msg] at this
  exact ⟨b, o, v, h1, by simpa [RT.msg] using h3 0 _ rfl, h2⟩
theorem RdS.getShot {F : MS} {l : List Shot} {A : Option Addr} {n c : Nat} (h : RdS F RT.shot l (.slice A n c)) {i : Nat} {x : Shot} (hs : l[i]? = some x) :
    ∃ b o p, A = some ⟨b, o, none⟩ ∧ F.at b (o + i) (.pointer (some ⟨p, 0, none⟩)) ∧ RdShot F x p := by
  obtain ⟨b, o, cs, h1, ⟨p, rfl, h2⟩, h3⟩ := h.get hs (show 0 < 1 by omega)
  exact ⟨b, o, p, h1, by simpa [RT.shot] using h3 0 _ rfl, h2⟩

/-- The net at block b. -/
def RdNet (F : MS) (σ : Net) (b : Nat) : Prop := ∃ v0 v1 v2 v3, F.at b 0 v0 ∧ F.at b 1 v1 ∧ F.at b 2 v2 ∧ F.at b 3 v3 ∧ RdS F RT.sta σ.sta v0 ∧ RdS F (RT.sl (RT.sl RT.msg)) σ.chan v1 ∧ RdS F RT.shot σ.shots v2 ∧ RdS F RT.ev σ.evs v3
theorem RdNet.more {F : MS} {σ : Net} {b : Nat} (h : RdNet F σ b) (X : MS) : RdNet (X + F) σ b := by
  obtain ⟨v0, v1, v2, v3, a0, a1, a2, a3, b0, b1, b2, b3⟩ := h
  exact ⟨v0, v1, v2, v3, a0.more X, a1.more X, a2.more X, a3.more X, b0.more X, b1.more X, b2.more X, b3.more X⟩
theorem RdNet.less {F : MS} {σ : Net} {b : Nat} (h : RdNet F σ b) (X : MS) : RdNet (F + X) σ b := by rw [MS.add_comm]; exact h.more X

theorem StaR.rd (a : Sta) (cs : List Value) (m : MS) (h : StaR a cs m) : RT.sta.rel m a cs := by
  obtain ⟨vc, h1, h2, _⟩ := h
  exact ⟨vc, h1, h2.rdS⟩
theorem EvR.rd (a : Ev) (cs : List Value) (m : MS) (h : EvR a cs m) : RT.ev.rel m a cs := by
  obtain ⟨vc, h1, h2, _⟩ := h
  exact ⟨vc, h1, h2.rdS⟩
/-- A row of messages: its cells; the clocks in the pool. -/
theorem RowsR.qPool {α : Type} {R : α → List Value → MS → Prop} {T : RT α} {Pl : MS} (hR : ∀ a cs m, R a cs m → T.rel (m + Pl) a cs) : ∀ {l : List α} {cs : List Value} {m : MS}, RowsR R l cs m → RowsQ (T.rel (m + Pl)) l cs
  | [], _, _, h => h.1
  | a :: l, _, _, ⟨c1, m1, c2, m2, h1, h2, h3, h4⟩ => by
    subst h4
    refine ⟨c1, c2, ?_, ?_, h3⟩
    · rw [show m1 + m2 + Pl = m2 + (m1 + Pl) by ac_rfl]; exact T.more _ _ _ _ (hR _ _ _ h1)
    · rw [show m1 + m2 + Pl = m1 + (m2 + Pl) by ac_rfl]; exact (RowsR.qPool hR h2).mono fun a cs h => T.more _ a cs m1 h
theorem SlR.rdPool {α : Type} {e sz : Nat} {R : α → List Value → MS → Prop} {T : RT α} {Pl : MS} (hR : ∀ a cs m, R a cs m → T.rel (m + Pl) a cs) {l : List α} {v : Value} {m : MS} (h : SlR e sz R l v m) : RdS (m + Pl) T l v := by
  obtain ⟨A, c, rfl, _, hc, hm⟩ := h.form
  obtain ⟨xs, ms, mr, h1, h2, rfl⟩ := h
  refine ⟨A, c, xs, rfl, hc, hm, ?_, ?_⟩
  · rw [show ms + mr + Pl = (mr + Pl) + ms by ac_rfl]; exact h1.rdc.more _
  · rw [show ms + mr + Pl = ms + (mr + Pl) by ac_rfl]; exact (h2.qPool hR).mono fun a cs h => T.more _ a cs ms h
theorem MsgV.rd {Pl : MS} {x : Msg} {v : Value} {m : MS} (h : MsgV Pl x v m) : RT.msg.rel (m + Pl) x [v] := by
  obtain ⟨rfl, ⟨h0, vc, mc, Pr, rfl, h1, rfl⟩ | ⟨h0, rfl, h1⟩⟩ := h
  · exact .inl ⟨h0, vc, rfl, (h1.rdS.less Pr).more 0⟩
  · exact .inr ⟨h0, rfl, h1⟩
theorem Line.rd {Pl : MS} {l : List Msg} {v : Value} {m : MS} (h : Line Pl l v m) : RdS (m + Pl) RT.msg l v :=
  SlR.rdPool (T := RT.msg) (fun a cs m ⟨v, h1, h2, _⟩ => by subst h1; exact h2.rd) h
theorem Lines.rd {Pl : MS} {l : List (List Msg)} {v : Value} {m : MS} (h : Lines Pl l v m) : RdS (m + Pl) (RT.sl RT.msg) l v :=
  SlR.rdPool (T := RT.sl RT.msg) (fun a cs m ⟨v, h1, h2, _⟩ => ⟨v, h1, Line.rd h2⟩) h
theorem Chans.rd {Pl : MS} {l : List (List (List Msg))} {v : Value} {m : MS} (h : Chans Pl l v m) : RdS (m + Pl) (RT.sl (RT.sl RT.msg)) l v :=
  SlR.rdPool (T := RT.sl (RT.sl RT.msg)) (fun a cs m ⟨v, h1, h2, _⟩ => ⟨v, h1, Lines.rd h2⟩) h
theorem blk_at' {b i : Nat} {cs : Array Value} {e : TypeId} {u : Value} (h : cs[i]? = some u) (X : MS) : (blk b cs e + X).at b i u := (blk_at h).less X
theorem ShotV.rd {x : Shot} {p : Nat} {v : Value} {m : MS} (h : ShotV (x, p) v m) : v = .pointer (some ⟨p, 0, none⟩) ∧ RdShot m x p := by
  obtain ⟨v0, v1, v2, v3, v4, m0, m1, m2, m3, m4, rfl, rfl, k0, k1, k2, k3, k4⟩ := h
  refine ⟨rfl, v0, v1, v2, v3, v4, blk_at' rfl _, blk_at' rfl _, blk_at' rfl _, blk_at' rfl _, blk_at' rfl _, ?_, ?_, ?_, ?_, ?_⟩
  · rw [show blk p #[v0, v1, v2, v3, v4] 109 + (m0 + (m1 + (m2 + (m3 + m4)))) = (blk p #[v0, v1, v2, v3, v4] 109 + (m1 + (m2 + (m3 + m4)))) + m0 by ac_rfl]; exact k0.rdS.more _
  · rw [show blk p #[v0, v1, v2, v3, v4] 109 + (m0 + (m1 + (m2 + (m3 + m4)))) = (blk p #[v0, v1, v2, v3, v4] 109 + (m0 + (m2 + (m3 + m4)))) + m1 by ac_rfl]; exact k1.rdS.more _
  · rw [show blk p #[v0, v1, v2, v3, v4] 109 + (m0 + (m1 + (m2 + (m3 + m4)))) = (blk p #[v0, v1, v2, v3, v4] 109 + (m0 + (m1 + (m3 + m4)))) + m2 by ac_rfl]; exact k2.rdS.more _
  · rw [show blk p #[v0, v1, v2, v3, v4] 109 + (m0 + (m1 + (m2 + (m3 + m4)))) = (blk p #[v0, v1, v2, v3, v4] 109 + (m0 + (m1 + (m2 + m4)))) + m3 by ac_rfl]; exact k3.rdS.more _
  · rw [show blk p #[v0, v1, v2, v3, v4] 109 + (m0 + (m1 + (m2 + (m3 + m4)))) = (blk p #[v0, v1, v2, v3, v4] 109 + (m0 + (m1 + (m2 + m3)))) + m4 by ac_rfl]; exact k4.rdS.more _
theorem rowsQ_zip {F : MS} : ∀ {l : List Shot} {ps : List Nat} {cs : List Value} {m : MS}, ps.length = l.length → RowsR (El ShotV) (l.zip ps) cs m → RowsQ (RT.shot.rel m) l cs
  | [], _, _, _, _, h => by simp only [List.zip_nil_left] at h; exact h.1
  | a :: l, [], _, _, hl, _ => by simp at hl
  | a :: l, p :: ps, _, _, hl, h => by
    simp only [List.zip_cons_cons] at h
    obtain ⟨c1, m1, c2, m2, ⟨v, rfl, h1, _⟩, h2, h3, rfl⟩ := h
    obtain ⟨rfl, h4⟩ := h1.rd
    refine ⟨_, c2, ⟨p, rfl, ?_⟩, (rowsQ_zip (F := F) (by simpa using hl) h2).mono fun a cs h => RT.shot.more _ a cs m1 h, h3⟩
    rw [MS.add_comm]; exact h4.more _
/-- What is owned can be read. -/
theorem IsNet.rd {Pl : MS} {σ : Net} {ps : List Nat} {b : Nat} {m : MS} (h : IsNet Pl σ ps b m) : RdNet (m + Pl) σ b := by
  obtain ⟨hps, v0, v1, v2, v3, m0, m1, m2, m3, rfl, h0, h1, h2, h3⟩ := h
  refine ⟨v0, v1, v2, v3, ?_, ?_, ?_, ?_, ?_, ?_, ?_, ?_⟩
  · rw [MS.add_assoc]; exact blk_at' rfl _
  · rw [MS.add_assoc]; exact blk_at' rfl _
  · rw [MS.add_assoc]; exact blk_at' rfl _
  · rw [MS.add_assoc]; exact blk_at' rfl _
  · rw [show blk b #[v0, v1, v2, v3] 84 + (m0 + (m1 + (m2 + m3))) + Pl = (blk b #[v0, v1, v2, v3] 84 + (m1 + (m2 + m3)) + Pl) + m0 by ac_rfl]; exact (SlR.rd (T := RT.sta) StaR.rd h0).more _
  · rw [show blk b #[v0, v1, v2, v3] 84 + (m0 + (m1 + (m2 + m3))) + Pl = (blk b #[v0, v1, v2, v3] 84 + (m0 + (m2 + m3))) + (m1 + Pl) by ac_rfl]; exact (Chans.rd h1).more _
  · rw [show blk b #[v0, v1, v2, v3] 84 + (m0 + (m1 + (m2 + m3))) + Pl = (blk b #[v0, v1, v2, v3] 84 + (m0 + (m1 + m3)) + Pl) + m2 by ac_rfl]
    have hzl : (σ.shots.zip ps).length = σ.shots.length := by rw [List.length_zip]; omega
    obtain ⟨A, c, rfl, _, hc, hm⟩ := h2.form
    obtain ⟨xs, ms, mr, k1, k2, rfl⟩ := h2
    rw [hzl] at hc ⊢
    exact RdS.more ⟨A, c, xs, rfl, hc, hm, by rw [MS.add_comm]; exact k1.rdc.more mr, (rowsQ_zip (F := 0) hps k2).mono fun a cs h => RT.shot.more _ a cs ms h⟩ _
  · rw [show blk b #[v0, v1, v2, v3] 84 + (m0 + (m1 + (m2 + m3))) + Pl = (blk b #[v0, v1, v2, v3] 84 + (m0 + (m1 + m2)) + Pl) + m3 by ac_rfl]; exact (SlR.rd (T := RT.ev) EvR.rd h3).more _
end Go.Proofs.Ytnkgfgkgepadhaa

/-
  Reading and writing over claims on memory: generic theorems over any program (turned from the texts of the first seat).
-/
import Derived.Test.YtcdhimnmbpllgaaDoorRows1
import Derived.Test.YtcdhimnmbpllgaaDoorDraw
import Derived.Deep.AppendLies
import Derived.Deep.QuietTactic
import Derived.BigQuiet
namespace Go.Proofs.YtcdhimnmbpllgaaDoor
open Go.RowKit
set_option linter.unusedVariables false

/-- The claim knows that cell i of block b holds u. -/
def MS.at (F : MS) (b i : Nat) (u : Value) : Prop := ∃ cs e fz, F.g b (.cells cs e fz) ∧ cs[i]? = some u
theorem MS.at.more {F : MS} {b i : Nat} {u : Value} (h : F.at b i u) (X : MS) : (X + F).at b i u := by
  obtain ⟨cs, e, fz, h1, h2⟩ := h
  exact ⟨cs, e, fz, Or.inr h1, h2⟩
theorem MS.at.less {F : MS} {b i : Nat} {u : Value} (h : F.at b i u) (X : MS) : (F + X).at b i u := by
  rw [MS.add_comm]; exact h.more X
theorem MS.at.cell {F X : MS} {b i : Nat} {u : Value} {w : World} (h : F.at b i u) (hH : Has w (X + F)) : w.cell? ⟨b, i, none⟩ = some u := by
  obtain ⟨cs, e, fz, h1, h2⟩ := h
  have h3 := (hH b).2.2 _ (Or.inl (Or.inr h1))
  simp only [World.cell?, h3, Option.isSome_none, Bool.false_eq_true, if_false, h2]
theorem blk_at {b i : Nat} {cs : Array Value} {e : TypeId} {u : Value} (h : cs[i]? = some u) : (blk b cs e).at b i u := ⟨cs, e, (0, 0), ⟨rfl, rfl⟩, h⟩
theorem all_at {w : World} {a : Addr} {u : Value} (h : w.cell? a = some u) : a.spot = none ∧ (MS.all w).at a.block a.off u := by
  unfold World.cell? at h
  cases hb : w.heap[a.block]? with
  | none => rw [hb] at h; cases h
  | some o =>
    rw [hb] at h
    cases o with
    | cells c e fz =>
      simp only at h
      cases hs : a.spot with
      | some s => rw [hs] at h; simp at h
      | none =>
        rw [hs] at h
        simp only [Option.isSome_none, Bool.false_eq_true, if_false] at h
        exact ⟨rfl, c, e, fz, hb, h⟩
    | _ => cases h

/-- Cells that can be read from an address on. -/
def RdC (F : MS) (A : Option Addr) (xs : List Value) : Prop := xs ≠ [] → ∃ b o, A = some ⟨b, o, none⟩ ∧ ∀ (j : Nat) u, xs[j]? = some u → F.at b (o + j) u
theorem RdC.more {F : MS} {A : Option Addr} {xs : List Value} (h : RdC F A xs) (X : MS) : RdC (X + F) A xs := fun hne => by
  obtain ⟨b, o, h1, h2⟩ := h hne
  exact ⟨b, o, h1, fun j u hu => (h2 j u hu).more X⟩
theorem RdC.less {F : MS} {A : Option Addr} {xs : List Value} (h : RdC F A xs) (X : MS) : RdC (F + X) A xs := by rw [MS.add_comm]; exact h.more X
theorem RdC.nil (F : MS) (A : Option Addr) : RdC F A [] := fun h => absurd rfl h
/-- As the laws on append ask for it. -/
theorem RdC.news {F X : MS} {w : World} {A : Option Addr} {xs : List Value} (h : RdC F A xs) (hH : Has w (X + F)) : ∀ a, A = some a → ∀ j u, xs[j]? = some u → w.cell? (a.add j) = some u := fun a ha j u hu => by
  obtain ⟨b, o, h1, h2⟩ := h (fun e => by rw [e] at hu; simp at hu)
  rw [ha] at h1
  injection h1 with h1
  subst h1
  rw [Addr.add_lit]
  exact (h2 j u hu).cell hH
theorem Sl.rdc {e sz n c : Nat} {A : Option Addr} {xs : List Value} {m : MS} (h : Sl e sz (.slice A n c) n xs m) : RdC m A xs := fun hne => by
  rcases h.2 with ⟨hv, h1, h2⟩ | ⟨b, off, c', cur, hv, rfl, h1, h2, h3, h4⟩
  · have := h.1
    rw [h1, Nat.zero_mul] at this
    exact absurd (List.eq_nil_of_length_eq_zero this) hne
  · injection hv with hv
    subst hv
    refine ⟨b, off, rfl, fun j u hu => blk_at ?_⟩
    have hj := (List.getElem?_eq_some_iff.1 hu).1
    rw [h4 j (by rw [← h.1]; exact hj), hu]

/-- The things of a list, one behind the other, as they are read. -/
def RowsQ {α : Type} (R : α → List Value → Prop) : List α → List Value → Prop
  | [], cs => cs = []
  | a :: l, cs => ∃ c1 c2, R a c1 ∧ RowsQ R l c2 ∧ cs = c1 ++ c2
/-- How a thing is read: how many cells it takes, what they hold. -/
structure RT (α : Type) where
  sz : Nat
  rel : MS → α → List Value → Prop
  len : ∀ F a cs, rel F a cs → cs.length = sz
  more : ∀ F a cs X, rel F a cs → rel (X + F) a cs
section
variable {α : Type}
theorem RowsQ.mono {R R' : α → List Value → Prop} (hR : ∀ a cs, R a cs → R' a cs) : ∀ {l : List α} {cs : List Value}, RowsQ R l cs → RowsQ R' l cs
  | [], _, h => h
  | _ :: _, _, ⟨c1, c2, h1, h2, h3⟩ => ⟨c1, c2, hR _ _ h1, h2.mono hR, h3⟩
theorem RowsQ.length {R : α → List Value → Prop} {sz : Nat} (hR : ∀ a cs, R a cs → cs.length = sz) : ∀ {l : List α} {cs : List Value}, RowsQ R l cs → cs.length = l.length * sz
  | [], _, h => by rw [h]; simp
  | a :: l, _, ⟨c1, c2, h1, h2, h3⟩ => by rw [h3, List.length_append, hR _ _ h1, h2.length hR, List.length_cons, Nat.succ_mul, Nat.add_comm]
theorem RowsQ.get {R : α → List Value → Prop} {sz : Nat} (hR : ∀ a cs, R a cs → cs.length = sz) : ∀ {l : List α} {cs : List Value} {i : Nat} {a : α}, RowsQ R l cs → l[i]? = some a → ∃ c, R a c ∧ ∀ j u, c[j]? = some u → cs[i * sz + j]? = some u
  | x :: l, _, 0, a, ⟨c1, c2, h1, h2, h3⟩, ha => by
    have : x = a := by simpa using ha
    subst this
    refine ⟨c1, h1, fun j u hu => ?_⟩
    have hj := (List.getElem?_eq_some_iff.1 hu).1
    rw [h3, Nat.zero_mul, Nat.zero_add, List.getElem?_append_left hj]
    exact hu
  | x :: l, _, i + 1, a, ⟨c1, c2, h1, h2, h3⟩, ha => by
    obtain ⟨c, h4, h5⟩ := h2.get hR (i := i) (a := a) (by simpa using ha)
    refine ⟨c, h4, fun j u hu => ?_⟩
    have hl := hR _ _ h1
    rw [h3, List.getElem?_append_right (by rw [Nat.succ_mul]; omega), Nat.succ_mul, show i * sz + sz + j - c1.length = i * sz + j by omega]
    exact h5 j u hu
theorem RowsQ.append {R : α → List Value → Prop} : ∀ {l l' : List α} {cs cs' : List Value}, RowsQ R l cs → RowsQ R l' cs' → RowsQ R (l ++ l') (cs ++ cs')
  | [], _, _, _, h, h' => by rw [h]; exact h'
  | a :: l, _, _, cs', ⟨c1, c2, h1, h2, h3⟩, h' => ⟨c1, c2 ++ cs', h1, h2.append h', by rw [h3, List.append_assoc]⟩
theorem RowsQ.take {R : α → List Value → Prop} {sz : Nat} (hR : ∀ a cs, R a cs → cs.length = sz) : ∀ {l : List α} {cs : List Value} (k : Nat), RowsQ R l cs → RowsQ R (l.take k) (cs.take (k * sz))
  | [], _, k, h => by rw [h]; simp [RowsQ]
  | a :: l, _, 0, h => by simp [RowsQ]
  | a :: l, _, k + 1, ⟨c1, c2, h1, h2, h3⟩ => by
    have hl := hR _ _ h1
    rw [List.take_succ_cons, h3, Nat.succ_mul, List.take_append, List.take_of_length_le (l := c1) (by omega), show k * sz + sz - c1.length = k * sz by omega]
    exact ⟨c1, _, h1, RowsQ.take hR k h2, rfl⟩
theorem RowsQ.drop {R : α → List Value → Prop} {sz : Nat} (hR : ∀ a cs, R a cs → cs.length = sz) : ∀ {l : List α} {cs : List Value} (k : Nat), RowsQ R l cs → RowsQ R (l.drop k) (cs.drop (k * sz))
  | [], _, k, h => by rw [h]; simp [RowsQ]
  | a :: l, _, 0, h => by simpa using h
  | a :: l, _, k + 1, ⟨c1, c2, h1, h2, h3⟩ => by
    have hl := hR _ _ h1
    rw [List.drop_succ_cons, h3, Nat.succ_mul, List.drop_append, @List.drop_eq_nil_of_le _ c1 _ (by omega), List.nil_append, show k * sz + sz - c1.length = k * sz by omega]
    exact RowsQ.drop hR k h2

/-- A slice that reads as a list. -/
def RdS (F : MS) (T : RT α) (l : List α) (v : Value) : Prop := ∃ A c xs, v = .slice A l.length c ∧ l.length ≤ c ∧ c ≤ maxLen ∧ RdC F A xs ∧ RowsQ (T.rel F) l xs
theorem RdS.more {F : MS} {T : RT α} {l : List α} {v : Value} (h : RdS F T l v) (X : MS) : RdS (X + F) T l v := by
  obtain ⟨A, c, xs, h1, h2, h3, h4, h5⟩ := h
  exact ⟨A, c, xs, h1, h2, h3, h4.more X, h5.mono fun a cs h => T.more F a cs X h⟩
theorem RdS.less {F : MS} {T : RT α} {l : List α} {v : Value} (h : RdS F T l v) (X : MS) : RdS (F + X) T l v := by rw [MS.add_comm]; exact h.more X
theorem RdS.nil (F : MS) (T : RT α) : RdS F T [] (.slice none 0 0) := ⟨none, 0, [], rfl, Nat.le_refl _, by simp [maxLen], RdC.nil _ _, rfl⟩
theorem RdS.form {F : MS} {T : RT α} {l : List α} {v : Value} (h : RdS F T l v) : ∃ A c, v = .slice A l.length c ∧ l.length ≤ c ∧ c ≤ maxLen := by
  obtain ⟨A, c, xs, h1, h2, h3, _⟩ := h
  exact ⟨A, c, h1, h2, h3⟩
/-- The cells of a slice that reads as a list. -/
theorem RdS.cells {F : MS} {T : RT α} {l : List α} {A : Option Addr} {n c : Nat} (h : RdS F T l (.slice A n c)) : n = l.length ∧ l.length ≤ c ∧ c ≤ maxLen ∧ ∃ xs, RdC F A xs ∧ RowsQ (T.rel F) l xs ∧ xs.length = l.length * T.sz := by
  obtain ⟨A', c', xs, h1, h2, h3, h4, h5⟩ := h
  injection h1 with h1 h1' h1''
  subst h1; subst h1''
  exact ⟨h1', h2, h3, xs, h4, h5, h5.length fun a cs h => T.len F a cs h⟩
/-- One thing. -/
theorem RdS.get {F : MS} {T : RT α} {l : List α} {A : Option Addr} {n c : Nat} (h : RdS F T l (.slice A n c)) {i : Nat} {a : α} (ha : l[i]? = some a) (hsz : 0 < T.sz) :
    ∃ b o cs, A = some ⟨b, o, none⟩ ∧ T.rel F a cs ∧ ∀ j u, cs[j]? = some u → F.at b (o + i * T.sz + j) u := by
  obtain ⟨_, _, _, xs, h4, h5, h6⟩ := h.cells
  obtain ⟨cs, k1, k2⟩ := h5.get (fun a cs h => T.len F a cs h) ha
  have hne : xs ≠ [] := fun e => by
    rw [e] at h6
    have := (List.getElem?_eq_some_iff.1 ha).1
    have : 0 < l.length * T.sz := Nat.mul_pos (by omega) hsz
    simp at h6
    omega
  obtain ⟨b, o, g1, g2⟩ := h4 hne
  exact ⟨b, o, cs, g1, k1, fun j u hu => by rw [Nat.add_assoc]; exact g2 _ u (k2 j u hu)⟩
end

/-! ### The kinds of things -/
def RT.int : RT Int := ⟨1, fun _ n cs => cs = [.int .i64 n], fun _ _ _ h => by rw [h]; rfl, fun _ _ _ _ h => h⟩
def RT.bool : RT Bool := ⟨1, fun _ q cs => cs = [.bool q], fun _ _ _ h => by rw [h]; rfl, fun _ _ _ _ h => h⟩
def RT.sl {α : Type} (T : RT α) : RT (List α) := ⟨1, fun F l cs => ∃ v, cs = [v] ∧ RdS F T l v, fun _ _ _ ⟨v, h, _⟩ => by rw [h]; rfl, fun F l cs X ⟨v, h, h'⟩ => ⟨v, h, h'.more X⟩⟩
theorem RT.sl_sz {α : Type} (T : RT α) : (RT.sl T).sz = 1 := rfl
theorem RT.int_sz : RT.int.sz = 1 := rfl
theorem RT.bool_sz : RT.bool.sz = 1 := rfl
/-- A cell of a slice of ints, bools. -/
theorem RdS.getInt {F : MS} {l : List Int} {A : Option Addr} {n c : Nat} (h : RdS F RT.int l (.slice A n c)) {i : Nat} {a : Int} (ha : l[i]? = some a) : ∃ b o, A = some ⟨b, o, none⟩ ∧ F.at b (o + i) (.int .i64 a) := by
  obtain ⟨b, o, cs, h1, h2, h3⟩ := h.get ha (Nat.one_pos)
  obtain rfl : cs = [.int .i64 a] := h2
  exact ⟨b, o, h1, by simpa [RT.int_sz] using h3 0 _ rfl⟩
theorem RdS.getBool {F : MS} {l : List Bool} {A : Option Addr} {n c : Nat} (h : RdS F RT.bool l (.slice A n c)) {i : Nat} {a : Bool} (ha : l[i]? = some a) : ∃ b o, A = some ⟨b, o, none⟩ ∧ F.at b (o + i) (.bool a) := by
  obtain ⟨b, o, cs, h1, h2, h3⟩ := h.get ha (Nat.one_pos)
  obtain rfl : cs = [.bool a] := h2
  exact ⟨b, o, h1, by simpa [RT.bool_sz] using h3 0 _ rfl⟩
theorem RdS.getSl {α : Type} {T : RT α} {F : MS} {l : List (List α)} {A : Option Addr} {n c : Nat} (h : RdS F (RT.sl T) l (.slice A n c)) {i : Nat} {a : List α} (ha : l[i]? = some a) :
    ∃ b o A' c', A = some ⟨b, o, none⟩ ∧ F.at b (o + i) (.slice A' a.length c') ∧ RdS F T a (.slice A' a.length c') ∧ a.length ≤ c' ∧ c' ≤ maxLen := by
  obtain ⟨b, o, cs, h1, ⟨v, rfl, h2⟩, h3⟩ := h.get ha (Nat.one_pos)
  obtain ⟨A', c', rfl, h4, h5⟩ := h2.form
  exact ⟨b, o, A', c', h1, by simpa [RT.sl_sz] using h3 0 _ rfl, h2, h4, h5⟩
/-- Cells of ints, bools. -/
theorem rowsQ_ints : ∀ (F : MS) (l : List Int), RowsQ (RT.int.rel F) l (l.map (Value.int .i64))
  | _, [] => rfl
  | F, a :: l => ⟨[.int .i64 a], _, rfl, rowsQ_ints F l, rfl⟩
theorem rowsQ_ints_eq : ∀ {F : MS} {l : List Int} {xs : List Value}, RowsQ (RT.int.rel F) l xs → xs = l.map (Value.int .i64)
  | _, [], _, h => h
  | F, a :: l, _, ⟨c1, c2, h1, h2, h3⟩ => by
    have e1 : c1 = [.int .i64 a] := h1
    rw [h3, e1, rowsQ_ints_eq h2]; rfl
theorem rowsQ_bools_eq : ∀ {F : MS} {l : List Bool} {xs : List Value}, RowsQ (RT.bool.rel F) l xs → xs = l.map Value.bool
  | _, [], _, h => h
  | F, a :: l, _, ⟨c1, c2, h1, h2, h3⟩ => by
    have e1 : c1 = [.bool a] := h1
    rw [h3, e1, rowsQ_bools_eq h2]; rfl
theorem rowsQ_bools : ∀ (F : MS) (l : List Bool), RowsQ (RT.bool.rel F) l (l.map Value.bool)
  | _, [] => rfl
  | F, a :: l => ⟨[.bool a], _, rfl, rowsQ_bools F l, rfl⟩

/-! ### What is owned can be read -/
section
variable {α : Type}
theorem RowsR.q {R : α → List Value → MS → Prop} {T : RT α} (hR : ∀ a cs m, R a cs m → T.rel m a cs) : ∀ {l : List α} {cs : List Value} {m : MS}, RowsR R l cs m → RowsQ (T.rel m) l cs
  | [], _, _, h => h.1
  | a :: l, _, _, ⟨c1, m1, c2, m2, h1, h2, h3, h4⟩ => by
    subst h4
    exact ⟨c1, c2, by rw [MS.add_comm]; exact T.more _ _ _ _ (hR _ _ _ h1), (RowsR.q hR h2).mono fun a cs h => T.more _ a cs m1 h, h3⟩
theorem SlR.rd {e sz : Nat} {R : α → List Value → MS → Prop} {T : RT α} (hR : ∀ a cs m, R a cs m → T.rel m a cs) {l : List α} {v : Value} {m : MS} (h : SlR e sz R l v m) : RdS m T l v := by
  obtain ⟨A, c, rfl, _, hc, hm⟩ := h.form
  obtain ⟨xs, ms, mr, h1, h2, rfl⟩ := h
  exact ⟨A, c, xs, rfl, hc, hm, by rw [MS.add_comm]; exact h1.rdc.more mr, (h2.q hR).mono fun a cs h => T.more _ a cs ms h⟩
theorem El.rd {S : α → Value → MS → Prop} {T : RT α} (hS : ∀ a v m, S a v m → T.rel m a [v]) : ∀ a cs m, El S a cs m → T.rel m a cs := fun a cs m ⟨v, h1, h2, _⟩ => by
  subst h1; exact hS a v m h2
end


/-- What the table says of a slice type: its elements' type, their cells, their bytes, their zero. -/
structure RowTy (P : Program) (t e : TypeId) (z : Value) (sz bytes : Nat) : Prop where
  ht : P.underlying t = some (.slice e)
  hi : (P.info? e).map (fun i => (i.zero, i.size, i.bytes)) = some (some z, sz, bytes)
  hz : z.cells.size = sz
section
variable {P : Program} {W : World} {o : Oper} {a : Act} {K : Act → World → Prop} {Q : Exit → Act → World → Prop} {ops : Array Oper} {rest : List Oper} {α : Type}
theorem wp_push (s x : Operand) {t e : TypeId} {z : Value} {sz bytes : Nat} (row : RowTy P t e z sz bytes)
    (ho : o.op = .call { callee := .builtin .append, args := #[s, x], argTypes := #[t, t] })
    (v : Value) (hs : a.eval s = v) (cs : Array Value) {g : Nat} (hx : a.eval x = .slice (some ⟨g, 0, none⟩) 1 1) (hg : W.heap.size = g)
    (R : α → List Value → MS → Prop) (hR : ∀ a cs m, R a cs m → ∀ u ∈ cs, u.oneCell' = true) (hR2 : ∀ a cs m, R a cs m → cs.length = sz) (l : List α) (q : α) (m m2 F : MS) (hown : SlR e sz R l v m) (hnew : R q cs.toList m2) (hH : Has W (m + (m2 + F)))
    (n : Nat) (hn : l.length = n) (hl : n ≤ 1000000) (hb : bytes ≤ 1000)
    (h : ∀ A' c' w' m', SlR e sz R (l ++ [q]) (.slice A' (n + 1) c') m' → Has w' (m' + F) → Ext W w' → K (a.put o.dst (.slice A' (n + 1) c')) w') : o.wp P a (W.alloc (.cells cs e)) K Q := by
  subst hn
  subst hg
  obtain ⟨xs, ms, mr, h1, h2, rfl⟩ := hown
  have hcl := hR2 _ _ _ hnew
  have hbb : (l.length + 1) * bytes ≤ 1000001 * 1000 := Nat.mul_le_mul (by omega) hb
  refine wp_append_sl s x t ho e z sz bytes row.ht row.hi row.hz v hs (some ⟨W.heap.size, 0, none⟩) 1 1 hx l.length xs ms (mr + (m2 + F)) h1 ((hH.alloc (.cells cs e)).right.eq (by ac_rfl)) cs.toList (by rw [hcl]; simp) (by simp)
    (fun a ha => by injection ha with ha; subst ha; exact World.news_of_block (heap_alloc_new _ _)) (hR _ _ _ hnew) (by simp only [maxLen]; omega) (by omega) ?_
  intro v' w' m' k1 k2 k3
  obtain ⟨A', c', rfl, _⟩ := k1.form
  exact h A' c' w' (m' + (mr + m2)) (SlR.of (by simpa using k1) (h2.append (RowsR.one hnew))) (k2.eq (by ac_rfl)) ((Ext.alloc W _).trans k3)
theorem wpList_push (hgd : o.guard = none) (s x : Operand) {t e : TypeId} {z : Value} {sz bytes : Nat} (row : RowTy P t e z sz bytes)
    (ho : o.op = .call { callee := .builtin .append, args := #[s, x], argTypes := #[t, t] })
    (v : Value) (hs : a.eval s = v) (cs : Array Value) {g : Nat} (hx : a.eval x = .slice (some ⟨g, 0, none⟩) 1 1) (hg : W.heap.size = g)
    (R : α → List Value → MS → Prop) (hR : ∀ a cs m, R a cs m → ∀ u ∈ cs, u.oneCell' = true) (hR2 : ∀ a cs m, R a cs m → cs.length = sz) (l : List α) (q : α) (m m2 F : MS) (hown : SlR e sz R l v m) (hnew : R q cs.toList m2) (hH : Has W (m + (m2 + F)))
    (n : Nat) (hn : l.length = n) (hl : n ≤ 1000000) (hb : bytes ≤ 1000)
    (h : ∀ A' c' w' m', SlR e sz R (l ++ [q]) (.slice A' (n + 1) c') m' → Has w' (m' + F) → Ext W w' → wpList P ops Q rest (a.put o.dst (.slice A' (n + 1) c')) w') : wpList P ops Q (o :: rest) a (W.alloc (.cells cs e)) :=
  wpList_plain hgd fun _ hK => wp_push s x row ho v hs cs hx hg R hR hR2 l q m m2 F hown hnew hH n hn hl hb fun A' c' w' m' h1 h2 h3 => hK _ _ (h A' c' w' m' h1 h2 h3)
theorem op_push (s x : Operand) {t e : TypeId} {z : Value} {sz bytes : Nat} (row : RowTy P t e z sz bytes)
    (ho : o.op = .call { callee := .builtin .append, args := #[s, x], argTypes := #[t, t] })
    (v : Value) (hs : a.eval s = v) (cs : Array Value) {g : Nat} (hx : a.eval x = .slice (some ⟨g, 0, none⟩) 1 1) (hg : W.heap.size = g)
    (R : α → List Value → MS → Prop) (hR : ∀ a cs m, R a cs m → ∀ u ∈ cs, u.oneCell' = true) (hR2 : ∀ a cs m, R a cs m → cs.length = sz) (l : List α) (q : α) (m m2 F : MS) (hown : SlR e sz R l v m) (hnew : R q cs.toList m2) (hH : Has W (m + (m2 + F)))
    (n : Nat) (hn : l.length = n) (hl : n ≤ 1000000) (hb : bytes ≤ 1000)
    (h : ∀ A' c' w' m', SlR e sz R (l ++ [q]) (.slice A' (n + 1) c') m' → Has w' (m' + F) → Ext W w' → K (a.put o.dst (.slice A' (n + 1) c')) w') : opWp P o a (W.alloc (.cells cs e)) K Q :=
  op_of (wp_push s x row ho v hs cs hx hg R hR hR2 l q m m2 F hown hnew hH n hn hl hb h)
end

section
variable {P : Program} {w : World} {o : Oper} {a : Act} {K : Act → World → Prop} {Q : Exit → Act → World → Prop} {ops : Array Oper} {rest : List Oper}
/-- A store of a whole struct into a block of its own. -/
theorem wp_store_whole (ad x : Operand) (t : TypeId) (ho : o.op = .store t ad x) (n : Nat) (ht : (P.info? t).map (·.size) = some n)
    (b : Nat) (u : Value) (ha : a.eval ad = .pointer (some ⟨b, 0, none⟩)) (hx : a.eval x = u) (hu : u.cells.size = n) (h1 : ∀ v ∈ u.cells.toList, v.oneCell' = true)
    (cur : Array Value) (e : TypeId) (F : MS) (hH : Has w (blk b cur e + F)) (hi : cur.size = n)
    (h : ∀ w', Has w' (blk b u.cells e + F) → Ext w w' → K (a.put o.dst undef) w') : o.wp P a w K Q := by
  have hst := run_storeCells_at P b 0 e u.cells.toList 0 cur w hH.row (by simp; omega) h1
  have e1 : (cur.toList.take (0 + 0) ++ u.cells.toList ++ cur.toList.drop (0 + 0 + u.cells.toList.length)).toArray = u.cells := by
    rw [List.drop_of_length_le (by simp; omega)]; simp
  rw [e1] at hst
  have hrun : (storeVar t ⟨b, 0, none⟩ u).run P w = .ok () (w.setRow b u.cells) := by
    cases hq : P.info? t with
    | none => simp [hq] at ht
    | some q =>
      have hs : q.size = n := by simpa [hq] using ht
      simp [storeVar, sizeOf, typeInfo, hq, hu, hs, hst]
  unfold Oper.wp execOp
  simp only [ho, ha, hx, Instr.storeAt, Instr.sureAddr, Sem.run_bind, Sem.run_pure, Result.andThen_ok, hrun]
  exact h _ (hH.setRow _) (Ext.setRow _ _ _)
theorem wpList_store_whole (hgd : o.guard = none) (ad x : Operand) (t : TypeId) (ho : o.op = .store t ad x) (n : Nat) (ht : (P.info? t).map (·.size) = some n)
    (b : Nat) (u : Value) (ha : a.eval ad = .pointer (some ⟨b, 0, none⟩)) (hx : a.eval x = u) (hu : u.cells.size = n) (h1 : ∀ v ∈ u.cells.toList, v.oneCell' = true)
    (cur : Array Value) (e : TypeId) (F : MS) (hH : Has w (blk b cur e + F)) (hi : cur.size = n)
    (h : ∀ w', Has w' (blk b u.cells e + F) → Ext w w' → wpList P ops Q rest (a.put o.dst undef) w') : wpList P ops Q (o :: rest) a w :=
  wpList_plain hgd fun _ hK => wp_store_whole ad x t ho n ht b u ha hx hu h1 cur e F hH hi fun w' h2 h3 => hK _ _ (h w' h2 h3)
theorem op_store_whole (ad x : Operand) (t : TypeId) (ho : o.op = .store t ad x) (n : Nat) (ht : (P.info? t).map (·.size) = some n)
    (b : Nat) (u : Value) (ha : a.eval ad = .pointer (some ⟨b, 0, none⟩)) (hx : a.eval x = u) (hu : u.cells.size = n) (h1 : ∀ v ∈ u.cells.toList, v.oneCell' = true)
    (cur : Array Value) (e : TypeId) (F : MS) (hH : Has w (blk b cur e + F)) (hi : cur.size = n)
    (h : ∀ w', Has w' (blk b u.cells e + F) → Ext w w' → K (a.put o.dst undef) w') : opWp P o a w K Q :=
  op_of (wp_store_whole ad x t ho n ht b u ha hx hu h1 cur e F hH hi h)
end

theorem MS.at.c0 {F : MS} {b i : Nat} {u : Value} {w : World} (h : F.at b i u) (hH : Has w F) : w.cell? ⟨b, i, none⟩ = some u := MS.at.cell (X := 0) h (by rw [MS.zero_add]; exact hH)
theorem Has.of_all {w w' : World} {X F : MS} (h : Has w F) (h' : Has w' (X + MS.all w)) : Has w' F := fun i => by
  obtain ⟨h1, h2, h3⟩ := h i
  obtain ⟨k1, k2, k3⟩ := (h'.right) i
  refine ⟨h1, fun hi => k2 ?_, fun o ho => k3 o (.inl (h3 o ho))⟩
  have := h2 hi
  show 1 ≤ (if _ then _ else _)
  rw [if_pos this]; exact Nat.le_refl _
theorem take_more {α : Type} {l : List α} {t : Nat} {a : α} (h : l[t]? = some a) : l.take (t + 1) = l.take t ++ [a] := by
  obtain ⟨hi, rfl⟩ := List.getElem?_eq_some_iff.1 h
  exact List.take_succ_eq_append_getElem hi

theorem get_getD {α : Type} {l : List α} {j : Nat} (d : α) (h : j < l.length) : l[j]? = some (l.getD j d) := by simp [List.getD, List.getElem?_eq_getElem h]
theorem getD_some {α : Type} {l : List α} {i : Nat} {x : α} (h : l[i]? = some x) (d : α) : l.getD i d = x := by simp [List.getD, h]
theorem at_all {F : MS} {b i : Nat} {u : Value} {w : World} (h : F.at b i u) (hH : Has w F) : (MS.all w).at b i u := by
  obtain ⟨cs, e, fz, h1, h2⟩ := h
  exact ⟨cs, e, fz, (hH b).2.2 _ (.inl h1), h2⟩
theorem rd_all {α : Type} {T : RT α} {F : MS} {w : World} (hT : ∀ a cs, T.rel F a cs → T.rel (MS.all w) a cs) {l : List α} {v : Value} (h : RdS F T l v) (hH : Has w F) : RdS (MS.all w) T l v := by
  obtain ⟨A, c, xs, h1, h2, h3, h4, h5⟩ := h
  refine ⟨A, c, xs, h1, h2, h3, fun hne => ?_, h5.mono hT⟩
  obtain ⟨b, o, k1, k2⟩ := h4 hne
  exact ⟨b, o, k1, fun j u hu => at_all (k2 j u hu) hH⟩
/-- What was there is there. -/
def Kp (w w' : World) : Prop := (∀ M, Has w M → Has w' M) ∧ Ext w w'
theorem Kp.refl (w : World) : Kp w w := ⟨fun _ h => h, Ext.refl w⟩
theorem Kp.trans {a b c : World} (h : Kp a b) (k : Kp b c) : Kp a c := ⟨fun M hM => k.1 M (h.1 M hM), h.2.trans k.2⟩
theorem Kp.drewN {a b : World} (h : Kp a b) (n : Nat) : Kp a (b.drewN n) := ⟨fun M hM => (h.1 M hM).drewN n, h.2.trans (Ext.drewN _ _)⟩
theorem Kp.drew {a b : World} (h : Kp a b) : Kp a b.drew := ⟨fun M hM => (h.1 M hM).drew, h.2.trans (Ext.drew _)⟩
theorem drew_more {w w' : World} (h : ∃ m, w' = w.drewN m) (n : Nat) : ∃ m, w'.drewN n = w.drewN m := by
  obtain ⟨m, rfl⟩ := h
  exact ⟨m + n, World.drewN_drewN _ _ _⟩
theorem drew_has {w w' : World} {F : MS} (h : ∃ m, w' = w.drewN m) (hH : Has w F) : Has w' F := by
  obtain ⟨m, rfl⟩ := h
  exact hH.drewN m
end Go.Proofs.YtcdhimnmbpllgaaDoor

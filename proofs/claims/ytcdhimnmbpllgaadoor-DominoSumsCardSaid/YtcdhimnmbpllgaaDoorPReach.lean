/-
  Plain: what can be reached from a cell, found by a list that grows; parts and their number.
-/
import Derived.Test.YtcdhimnmbpllgaaDoorRPlain
import Derived.Test.YtcdhimnmbpllgaaDoorKPlain2
namespace Go.Proofs.YtcdhimnmbpllgaaDoor
set_option linter.unusedVariables false
set_option linter.unusedSimpArgs false
set_option maxHeartbeats 1000000

/-- Reached from a, by candidates that are let by. -/
inductive Rch (nb : Cl → List Cl) (ok : Cl → Prop) (a : Cl) : Cl → Prop
  | refl : Rch nb ok a a
  | step {q y : Cl} : Rch nb ok a q → y ∈ nb q → ok y → Rch nb ok a y
theorem Rch.trans {nb : Cl → List Cl} {ok : Cl → Prop} {a b : Cl} (h1 : Rch nb ok a b) : ∀ {c : Cl}, Rch nb ok b c → Rch nb ok a c
  | _, .refl => h1
  | _, .step h hy ho => .step (h1.trans h) hy ho
theorem Rch.mono {nb nb' : Cl → List Cl} {ok ok' : Cl → Prop} (hs : ∀ q y, y ∈ nb q → ok y → y ∈ nb' q ∧ ok' y) {a : Cl} : ∀ {c : Cl}, Rch nb ok a c → Rch nb' ok' a c
  | _, .refl => .refl
  | _, .step h hy ho => .step (h.mono hs) (hs _ _ hy ho).1 (hs _ _ hy ho).2
theorem Rch.ok' {nb : Cl → List Cl} {ok : Cl → Prop} {a : Cl} (ha : ok a) : ∀ {c : Cl}, Rch nb ok a c → ok c
  | _, .refl => ha
  | _, .step _ _ ho => ho
theorem Rch.symm {nb : Cl → List Cl} {ok : Cl → Prop} (hs : ∀ q y, y ∈ nb q → q ∈ nb y) {a : Cl} (ha : ok a) : ∀ {c : Cl}, Rch nb ok a c → Rch nb ok c a
  | _, .refl => .refl
  | _, .step h hy ho => (Rch.step .refl (hs _ _ hy) (h.ok' ha)).trans (h.symm hs ha)
/-- How far a search has come: the cells found, the one looked at, its candidate. -/
structure RInv (nb : Cl → List Cl) (ok : Cl → Prop) (a : Cl) (sn : List Cl) (i k : Nat) : Prop where
  nd : sn.Nodup
  first : a ∈ sn
  all : ∀ x ∈ sn, Rch nb ok a x
  past : ∀ j x, j < i → sn[j]? = some x → ∀ y ∈ nb x, ok y → y ∈ sn
  now : ∀ x, sn[i]? = some x → ∀ y ∈ (nb x).take k, ok y → y ∈ sn
section
variable {nb : Cl → List Cl} {ok : Cl → Prop} {a : Cl}
theorem RInv.start : RInv nb ok a [a] 0 0 :=
  ⟨by simp, by simp, fun x hx => by rw [List.mem_singleton.1 hx]; exact .refl, fun j x hj => absurd hj (by omega), fun x _ y hy => by simp at hy⟩
theorem RInv.len {sn : List Cl} {i k : Nat} (h : RInv nb ok a sn i k) {l : List Cl} (hl : ∀ x, ok x → x ∈ l) : sn.length ≤ l.length + 1 := by
  have := sub_len h.nd (l' := a :: l) (fun x hx => by
    cases h.all x hx with
    | refl => simp
    | step _ _ ho => simp [hl _ ho])
  simpa using this
theorem RInv.ins {sn : List Cl} {i k : Nat} {x y : Cl} (h : RInv nb ok a sn i k) (hx : sn[i]? = some x) (hy : (nb x)[k]? = some y) (ho : ok y) : RInv nb ok a (insN sn y) i (k + 1) := by
  have hi : i < sn.length := (List.getElem?_eq_some_iff.1 hx).1
  refine ⟨insN_nodup h.nd, insN_mem.2 (.inl h.first), fun z hz => ?_, fun j z hj hz u hu hou => ?_, fun z hz u hu hou => ?_⟩
  · rcases insN_mem.1 hz with hz | rfl
    · exact h.all z hz
    · exact .step (h.all x (List.mem_of_getElem? hx)) (List.mem_of_getElem? hy) ho
  · rw [insN_get (by omega)] at hz
    exact insN_mem.2 (.inl (h.past j z hj hz u hu hou))
  · rw [insN_get hi, hx] at hz
    injection hz with hz
    subst hz
    rw [List.take_add_one, hy] at hu
    rcases List.mem_append.1 hu with hu | hu
    · exact insN_mem.2 (.inl (h.now x hx u hu hou))
    · exact insN_mem.2 (.inr (by simpa using hu))
theorem RInv.skip {sn : List Cl} {i k : Nat} {x y : Cl} (h : RInv nb ok a sn i k) (hx : sn[i]? = some x) (hy : (nb x)[k]? = some y) (ho : y ∈ sn ∨ ¬ ok y) : RInv nb ok a sn i (k + 1) := by
  refine ⟨h.nd, h.first, h.all, h.past, fun z hz u hu hou => ?_⟩
  rw [hx] at hz
  injection hz with hz
  subst hz
  rw [List.take_add_one, hy] at hu
  rcases List.mem_append.1 hu with hu | hu
  · exact h.now x hx u hu hou
  · have : u = y := by simpa using hu
    subst this
    exact ho.resolve_right (fun h => h hou)
theorem RInv.next {sn : List Cl} {i k : Nat} {x : Cl} (h : RInv nb ok a sn i k) (hx : sn[i]? = some x) (hk : (nb x).length ≤ k) : RInv nb ok a sn (i + 1) 0 := by
  refine ⟨h.nd, h.first, h.all, fun j z hj hz u hu hou => ?_, fun z _ u hu => by simp at hu⟩
  by_cases e : j = i
  · subst e
    rw [hx] at hz
    injection hz with hz
    subst hz
    exact h.now x hx u (by rw [List.take_of_length_le hk]; exact hu) hou
  · exact h.past j z (by omega) hz u hu hou
theorem RInv.fin {sn : List Cl} {k : Nat} (h : RInv nb ok a sn sn.length k) (q : Cl) : q ∈ sn ↔ Rch nb ok a q := by
  refine ⟨h.all q, fun hq => ?_⟩
  induction hq with
  | refl => exact h.first
  | step _ hy ho ih =>
    obtain ⟨j, hj, e⟩ := List.getElem_of_mem ih
    exact h.past j _ hj (by rw [List.getElem?_eq_getElem hj, e]) _ hy ho
end
/-- The cells of a list, as a grid. -/
def memB (sn : List Cl) (x y : Nat) : Bool := decide (((x : Int), (y : Int)) ∈ sn)
theorem memB_congr {sn sn' : List Cl} (h : ∀ q, q ∈ sn ↔ q ∈ sn') : memB sn = memB sn' := by
  funext x y
  unfold memB
  exact decide_eq_decide.2 (h _)
/-- Some classes of the cells of a list: those whose first cell is not in an earlier one. -/
def PtsOf (R : Cl → Cl → Prop) (ok : Cl → Prop) : List Cl → List Cl → List (Nat → Nat → Bool) → Prop
  | acc, [], o => o = []
  | acc, c :: l, o => ((¬ ok c ∨ ∃ a ∈ acc, R a c) ∧ PtsOf R ok acc l o) ∨ (ok c ∧ (¬ ∃ a ∈ acc, R a c) ∧ ∃ sn o', (∀ q, q ∈ sn ↔ R c q) ∧ o = memB sn :: o' ∧ PtsOf R ok (c :: acc) l o')
theorem PtsOf.one {R : Cl → Cl → Prop} {ok : Cl → Prop} : ∀ {l acc : List Cl} {o o' : List (Nat → Nat → Bool)}, PtsOf R ok acc l o → PtsOf R ok acc l o' → o = o'
  | [], acc, o, o', h, h' => by
    have e : o = [] := h
    have e' : o' = [] := h'
    rw [e, e']
  | c :: l, acc, o, o', h, h' => by
    unfold PtsOf at h h'
    rcases h with ⟨h1, h2⟩ | ⟨h1, h2, sn, o2, h3, rfl, h4⟩ <;> rcases h' with ⟨k1, k2⟩ | ⟨k1, k2, sn', o3, k3, rfl, k4⟩
    · exact h2.one k2
    · rcases h1 with h1 | h1
      · exact absurd k1 h1
      · exact absurd h1 k2
    · rcases k1 with k1 | k1
      · exact absurd h1 k1
      · exact absurd k1 h2
    · rw [memB_congr (fun q => (h3 q).trans (k3 q).symm), h4.one k4]
theorem PtsOf.congr {R R' : Cl → Cl → Prop} {ok ok' : Cl → Prop} (hR : ∀ a b, ok a → (R a b ↔ R' a b)) (hok : ∀ c, ok c ↔ ok' c) : ∀ {l acc : List Cl} {o : List (Nat → Nat → Bool)}, (∀ a ∈ acc, ok a) → PtsOf R ok acc l o → PtsOf R' ok' acc l o
  | [], acc, o, hA, h => h
  | c :: l, acc, o, hA, h => by
    unfold PtsOf at h ⊢
    have hx : (∃ a ∈ acc, R a c) ↔ ∃ a ∈ acc, R' a c := exists_congr fun a => and_congr_right fun ha => hR a c (hA a ha)
    rcases h with ⟨h1, h2⟩ | ⟨h1, h2, sn, o2, h3, rfl, h4⟩
    · refine .inl ⟨?_, h2.congr hR hok hA⟩
      rcases h1 with h1 | h1
      · exact .inl (fun k => h1 ((hok c).2 k))
      · exact .inr (hx.1 h1)
    · exact .inr ⟨(hok c).1 h1, fun k => h2 (hx.2 k), sn, o2, fun q => (h3 q).trans (hR c q h1), rfl, h4.congr hR hok (fun a ha => by
        rcases List.mem_cons.1 ha with rfl | ha
        · exact h1
        · exact hA a ha)⟩
/-- Only cells that are let by need be looked at. -/
theorem PtsOf.filter {R : Cl → Cl → Prop} {ok : Cl → Prop} {b : Cl → Bool} (hb : ∀ c, ok c → b c = true) : ∀ {l acc : List Cl} {o : List (Nat → Nat → Bool)}, PtsOf R ok acc (l.filter b) o ↔ PtsOf R ok acc l o
  | [], acc, o => Iff.rfl
  | c :: l, acc, o => by
    by_cases hc : b c = true
    · rw [List.filter_cons_of_pos hc]
      unfold PtsOf
      refine or_congr (and_congr_right fun _ => PtsOf.filter hb) (and_congr_right fun _ => and_congr_right fun _ => exists_congr fun sn => exists_congr fun o' => and_congr_right fun _ => and_congr_right fun _ => PtsOf.filter hb)
    · rw [List.filter_cons_of_neg hc, PtsOf.filter hb]
      conv => rhs; unfold PtsOf
      have hn : ¬ ok c := fun h => hc (hb c h)
      exact ⟨fun h => .inl ⟨.inl hn, h⟩, fun h => by
        rcases h with h | h
        · exact h.2
        · exact absurd h.1 hn⟩
/-- How many such classes there are. -/
def CntOf (R : Cl → Cl → Prop) (ok : Cl → Prop) : List Cl → List Cl → Nat → Prop
  | acc, [], n => n = 0
  | acc, c :: l, n => ((¬ ok c ∨ ∃ a ∈ acc, R a c) ∧ CntOf R ok acc l n) ∨ (ok c ∧ (¬ ∃ a ∈ acc, R a c) ∧ ∃ n', n = n' + 1 ∧ CntOf R ok (c :: acc) l n')
theorem CntOf.one {R : Cl → Cl → Prop} {ok : Cl → Prop} : ∀ {l acc : List Cl} {o o' : Nat}, CntOf R ok acc l o → CntOf R ok acc l o' → o = o'
  | [], acc, o, o', h, h' => by
    have e : o = 0 := h
    have e' : o' = 0 := h'
    rw [e, e']
  | c :: l, acc, o, o', h, h' => by
    unfold CntOf at h h'
    rcases h with ⟨h1, h2⟩ | ⟨h1, h2, o2, rfl, h4⟩ <;> rcases h' with ⟨k1, k2⟩ | ⟨k1, k2, o3, rfl, k4⟩
    · exact h2.one k2
    · rcases h1 with h1 | h1
      · exact absurd k1 h1
      · exact absurd h1 k2
    · rcases k1 with k1 | k1
      · exact absurd h1 k1
      · exact absurd k1 h2
    · rw [h4.one k4]
theorem CntOf.le {R : Cl → Cl → Prop} {ok : Cl → Prop} : ∀ {l acc : List Cl} {n : Nat}, CntOf R ok acc l n → n ≤ l.length
  | [], acc, n, h => by have : n = 0 := h; omega
  | c :: l, acc, n, h => by
    unfold CntOf at h
    rcases h with ⟨_, h2⟩ | ⟨_, _, n', rfl, h4⟩
    · have := h2.le; simp; omega
    · have := h4.le; simp; omega
theorem CntOf.has {R : Cl → Cl → Prop} {ok : Cl → Prop} : ∀ (l acc : List Cl), ∃ n, CntOf R ok acc l n
  | [], acc => ⟨0, rfl⟩
  | c :: l, acc => by
    by_cases h : ok c ∧ ¬ ∃ a ∈ acc, R a c
    · obtain ⟨n, hn⟩ := CntOf.has (R := R) (ok := ok) l (c :: acc)
      exact ⟨n + 1, .inr ⟨h.1, h.2, n, rfl, hn⟩⟩
    · obtain ⟨n, hn⟩ := CntOf.has (R := R) (ok := ok) l acc
      refine ⟨n, .inl ⟨?_, hn⟩⟩
      by_cases h1 : ok c
      · exact .inr (Classical.not_not.1 fun h2 => h ⟨h1, h2⟩)
      · exact .inl h1
/-- Cells of the class of one that is known count for nothing. -/
theorem CntOf.filter {R : Cl → Cl → Prop} {ok : Cl → Prop} {b : Cl → Bool} {a : Cl} : ∀ {l acc : List Cl} {n : Nat}, (∀ c ∈ l, b c = false → R a c) → a ∈ acc → (CntOf R ok acc (l.filter b) n ↔ CntOf R ok acc l n)
  | [], acc, n, hb, ha => Iff.rfl
  | c :: l, acc, n, hb, ha => by
    have hb' : ∀ c ∈ l, b c = false → R a c := fun d hd => hb d (by simp [hd])
    by_cases hc : b c = true
    · rw [List.filter_cons_of_pos hc]
      unfold CntOf
      exact or_congr (and_congr_right fun _ => CntOf.filter hb' ha) (and_congr_right fun _ => and_congr_right fun _ => exists_congr fun n' => and_congr_right fun _ => CntOf.filter hb' (by simp [ha]))
    · rw [List.filter_cons_of_neg hc, CntOf.filter hb' ha]
      conv => rhs; unfold CntOf
      have hr := hb c (by simp) (by simpa using hc)
      exact ⟨fun h => .inl ⟨.inr ⟨a, ha, hr⟩, h⟩, fun h => by
        rcases h with h | h
        · exact h.2
        · exact absurd ⟨a, ha, hr⟩ h.2.1⟩
/-- The cells of a box from one on, in reading order. -/
def glL (X Y : Int) (W H y x : Nat) : List Cl := ((List.range W).drop x).map (fun (x' : Nat) => (X + x', Y + y)) ++ ((List.range H).drop (y + 1)).flatMap fun (y' : Nat) => (List.range W).map fun (x' : Nat) => (X + x', Y + y')
theorem glL_cons {X Y : Int} {W H y x : Nat} (hx : x < W) : glL X Y W H y x = (X + x, Y + y) :: glL X Y W H y (x + 1) := by
  unfold glL
  rw [List.drop_eq_getElem_cons (by simpa using hx)]
  simp
theorem glL_row {X Y : Int} {W H y x : Nat} (hx : W ≤ x) (hy : y + 1 < H) : glL X Y W H y x = glL X Y W H (y + 1) 0 := by
  unfold glL
  rw [List.drop_eq_nil_of_le (by simpa using hx), List.drop_eq_getElem_cons (i := y + 1) (by simpa using hy)]
  simp
theorem glL_end {X Y : Int} {W H y x : Nat} (hx : W ≤ x) (hy : H ≤ y + 1) : glL X Y W H y x = [] := by
  unfold glL
  rw [List.drop_eq_nil_of_le (by simpa using hx), List.drop_eq_nil_of_le (by simpa using hy)]
  rfl
theorem glL_all {X Y : Int} {W H : Nat} (hH : 1 ≤ H) : glL X Y W H 0 0 = (List.range H).flatMap fun (y' : Nat) => (List.range W).map fun (x' : Nat) => (X + x', Y + y') := by
  unfold glL
  conv => rhs; rw [← List.take_append_drop 1 (List.range H)]
  rw [List.flatMap_append]
  have : (List.range H).take 1 = [0] := by
    rw [List.take_range]
    have : min 1 H = 1 := by omega
    rw [this]; rfl
  rw [this]
  simp
theorem mem_gl {X Y : Int} {W H : Nat} (hH : 1 ≤ H) {q : Cl} : q ∈ glL X Y W H 0 0 ↔ X ≤ q.1 ∧ q.1 < X + W ∧ Y ≤ q.2 ∧ q.2 < Y + H := by
  rw [glL_all hH]
  simp only [List.mem_flatMap, List.mem_map, List.mem_range]
  constructor
  · rintro ⟨y, hy, x, hx, rfl⟩
    simp only
    omega
  · rintro ⟨h1, h2, h3, h4⟩
    exact ⟨(q.2 - Y).toNat, by omega, (q.1 - X).toNat, by omega, Prod.ext (by simp only; omega) (by simp only; omega)⟩
theorem gl_len {X Y : Int} {W H : Nat} (hH : 1 ≤ H) : (glL X Y W H 0 0).length = H * W := by
  rw [glL_all hH]
  have : ∀ l : List Nat, (l.flatMap fun (y' : Nat) => (List.range W).map fun (x' : Nat) => (X + x', Y + y')).length = l.length * W := by
    intro l
    induction l with
    | nil => simp
    | cons a l ih => rw [List.flatMap_cons, List.length_append, ih, List.length_cons, Nat.succ_mul]; simp; omega
  rw [this, List.length_range]
end Go.Proofs.YtcdhimnmbpllgaaDoor

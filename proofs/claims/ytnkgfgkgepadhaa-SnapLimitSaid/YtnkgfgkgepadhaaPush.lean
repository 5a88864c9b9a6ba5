/-
  One thing more behind the others of a slice; ints, bools and slices of them as they are read.
-/
import Derived.Test.YtnkgfgkgepadhaaRead
import Derived.Test.YtnkgfgkgepadhaaWalk11
namespace Go.Proofs.Ytnkgfgkgepadhaa
open Go.RowKit
set_option linter.unusedVariables false

/-- What the table says of a slice type: its elements' type, their cells, their bytes, their zero. -/
structure RowTy (P : Program) (t e : TypeId) (z : Value) (sz bytes : Nat) : Prop where
  ht : P.underlying t = some (.slice e)
  hi : (P.info? e).map (fun i => (i.zero, i.size, i.bytes)) = some (some z, sz, bytes)
  hz : z.cells.size = sz
section
variable {P : Program} {W : World} {o : Oper} {a : Act} {K : Act → World → Prop} {Q : Exit → Act → World → Prop} {ops : Array Oper} {rest : List Oper} {α : Type}
theorem wp_push (s x : Operand) {t e : TypeId} {z : Value} {sz bytes : Nat} (row : RowTy P t e z sz bytes)
    (ho : o.op = .call { callee := .builtin .append, args := #[s, x], argTypes := #[t, t] })
    (v : Value) (hs : a.eval s = v) (cs : Array Value) {g : Nat} (hx : a.eval x = .slice (some ⟨g, 0, none⟩) 1 1) (hg : W.heap.size = g)
    (R : α → List Value → MS → Prop) (hR : ∀ a cs m, R a cs m → ∀ u ∈ cs, u.oneCell' = true) (hR2 : ∀ a cs m, R a cs m → cs.length = sz) (l : List α) (q : α) (m m2 F : MS) (hown : SlR e sz R l v m) (hnew : R q cs.toList m2) (hH : Has W (m + (m2 + F)))
    (n : Nat) (hn : l.length = n) (hl : n ≤ 1000000) (hb : bytes ≤ 1000)
    (h : ∀ A' c' w' m', SlR e sz R (l ++ [q]) (.slice A' (n + 1) c') m' → Has w' (m' + F) → Ext W w' → K (a.put o.dst (.slice A' (n + 1) c')) w') : o.wp P a (W.alloc (.cells cs e)) K Q := by
  subst hn
  subst hg
  obtain ⟨xs, ms, mr, h1, h2, rfl⟩ := hown
  have hcl := hR2 _ _ _ hnew
  have hbb : (l.length + 1) * bytes ≤ 1000001 * 1000 := Nat.mul_le_mul (by omega) hb
  refine wp_append_sl s x t ho e z sz bytes row.ht row.hi row.hz v hs (some ⟨W.heap.size, 0, none⟩) 1 1 hx l.length xs ms (mr + (m2 + F)) h1 ((hH.alloc (.cells cs e)).right.eq (by ac_rfl)) cs.toList (by rw [hcl]; simp) (by simp)
    (fun a ha => by injection ha with ha; subst ha; exact World.news_of_block (heap_alloc_new _ _)) (hR _ _ _ hnew) (by simp only [maxLen]; omega) (by omega) ?_
  intro v' w' m' k1 k2 k3
  obtain ⟨A', c', rfl, _⟩ := k1.form
  exact h A' c' w' (m' + (mr + m2)) (SlR.of (by simpa using k1) (h2.append (RowsR.one hnew))) (k2.eq (by ac_rfl)) ((Ext.alloc W _).trans k3)
theorem wpList_push (hgd : o.guard = none) (s x : Operand) {t e : TypeId} {z : Value} {sz bytes : Nat} (row : RowTy P t e z sz bytes)
    (ho : o.op = .call { callee := .builtin .append, args := #[s, x], argTypes := #[t, t] })
    (v : Value) (hs : a.eval s = v) (cs : Array Value) {g : Nat} (hx : a.eval x = .slice (some ⟨g, 0, none⟩) 1 1) (hg : W.heap.size = g)
    (R : α → List Value → MS → Prop) (hR : ∀ a cs m, R a cs m → ∀ u ∈ cs, u.oneCell' = true) (hR2 : ∀ a cs m, R a cs m → cs.length = sz) (l : List α) (q : α) (m m2 F : MS) (hown : SlR e sz R l v m) (hnew : R q cs.toList m2) (hH : Has W (m + (m2 + F)))
    (n : Nat) (hn : l.length = n) (hl : n ≤ 1000000) (hb : bytes ≤ 1000)
    (h : ∀ A' c' w' m', SlR e sz R (l ++ [q]) (.slice A' (n + 1) c') m' → Has w' (m' + F) → Ext W w' → wpList P ops Q rest (a.put o.dst (.slice A' (n + 1) c')) w') : wpList P ops Q (o :: rest) a (W.alloc (.cells cs e)) :=
  wpList_plain hgd fun _ hK => wp_push s x row ho v hs cs hx hg R hR hR2 l q m m2 F hown hnew hH n hn hl hb fun A' c' w' m' h1 h2 h3 => hK _ _ (h A' c' w' m' h1 h2 h3)
theorem op_push (s x : Operand) {t e : TypeId} {z : Value} {sz bytes : Nat} (row : RowTy P t e z sz bytes)
    (ho : o.op = .call { callee := .builtin .append, args := #[s, x], argTypes := #[t, t] })
    (v : Value) (hs : a.eval s = v) (cs : Array Value) {g : Nat} (hx : a.eval x = .slice (some ⟨g, 0, none⟩) 1 1) (hg : W.heap.size = g)
    (R : α → List Value → MS → Prop) (hR : ∀ a cs m, R a cs m → ∀ u ∈ cs, u.oneCell' = true) (hR2 : ∀ a cs m, R a cs m → cs.length = sz) (l : List α) (q : α) (m m2 F : MS) (hown : SlR e sz R l v m) (hnew : R q cs.toList m2) (hH : Has W (m + (m2 + F)))
    (n : Nat) (hn : l.length = n) (hl : n ≤ 1000000) (hb : bytes ≤ 1000)
    (h : ∀ A' c' w' m', SlR e sz R (l ++ [q]) (.slice A' (n + 1) c') m' → Has w' (m' + F) → Ext W w' → K (a.put o.dst (.slice A' (n + 1) c')) w') : opWp P o a (W.alloc (.cells cs e)) K Q :=
  op_of (wp_push s x row ho v hs cs hx hg R hR hR2 l q m m2 F hown hnew hH n hn hl hb h)
end

theorem row22 : RowTy Try.prog 22 3 (.int .i64 0) 1 8 := ⟨Try.underlying22, info3, rfl⟩
theorem row44 : RowTy Try.prog 44 22 (.slice none 0 0) 1 24 := ⟨Try.underlying44, info22, rfl⟩
theorem row36 : RowTy Try.prog 36 44 (.slice none 0 0) 1 24 := ⟨Try.underlying36, info44, rfl⟩
theorem row91 : RowTy Try.prog 91 94 .nilIface 1 16 := ⟨Try.underlying91, info94, rfl⟩
theorem row92 : RowTy Try.prog 92 91 (.slice none 0 0) 1 24 := ⟨Try.underlying92, info91, rfl⟩
theorem row32 : RowTy Try.prog 32 68 (.agg #[.int .i64 0, .int .i64 0, .int .i64 0, .int .i64 0, .slice none 0 0]) 5 56 := ⟨Try.underlying32, info68, rfl⟩

theorem SlR.empty {α : Type} (e sz : Nat) (R : α → List Value → MS → Prop) : SlR e sz R [] (.slice none 0 0) 0 := ⟨[], 0, 0, Sl.nil e sz, RowsR.nil, (MS.zero_add 0).symm⟩
theorem Ints.rdS {l : List Int} {v : Value} {m : MS} (h : Ints l v m) : RdS m RT.int l v := SlR.rd (T := RT.int) (fun a cs m ⟨v, h1, h2, _⟩ => by obtain ⟨rfl, _⟩ := h2; exact h1) h
theorem Bools.rdS {l : List Bool} {v : Value} {m : MS} (h : Bools l v m) : RdS m RT.bool l v := SlR.rd (T := RT.bool) (fun a cs m ⟨v, h1, h2, _⟩ => by obtain ⟨rfl, _⟩ := h2; exact h1) h
theorem Ints2.rdS {l : List (List Int)} {v : Value} {m : MS} (h : Ints2 l v m) : RdS m (RT.sl RT.int) l v := SlR.rd (T := RT.sl RT.int) (fun a cs m ⟨v, h1, h2, _⟩ => ⟨v, h1, h2.rdS⟩) h
theorem Ints3.rdS {l : List (List (List Int))} {v : Value} {m : MS} (h : Ints3 l v m) : RdS m (RT.sl (RT.sl RT.int)) l v := SlR.rd (T := RT.sl (RT.sl RT.int)) (fun a cs m ⟨v, h1, h2, _⟩ => ⟨v, h1, h2.rdS⟩) h
theorem Bools2.rdS {l : List (List Bool)} {v : Value} {m : MS} (h : Bools2 l v m) : RdS m (RT.sl RT.bool) l v := SlR.rd (T := RT.sl RT.bool) (fun a cs m ⟨v, h1, h2, _⟩ => ⟨v, h1, h2.rdS⟩) h
theorem El.ints {l : List Int} {v : Value} {m : MS} (h : Ints l v m) : El Ints l [v] m := ⟨v, rfl, h, h.one⟩
theorem El.ints2 {l : List (List Int)} {v : Value} {m : MS} (h : Ints2 l v m) : El Ints2 l [v] m := ⟨v, rfl, h, SlR.one h⟩

/-- Clone of ints that can be read. -/
theorem clone_rd {A : Option Addr} {n c : Nat} {l : List Int} {w : World} {F : MS} (hr : RdS F RT.int l (.slice A n c)) (hH : Has w F) (hl : l.length ≤ 1000000) :
    Calls Try.prog 58 #[.slice A n c] w fun e w' => ∃ A' c' m, e = .returned (.slice A' l.length c') ∧ Ints l (.slice A' l.length c') m ∧ Has w' (m + F) ∧ Ext w w' := by
  obtain ⟨rfl, _, _, xs, h4, h5, h6⟩ := hr.cells
  obtain rfl := rowsQ_ints_eq h5
  refine clone_ints A l.length c l rfl w F ⟨fun hA => ?_, h4.news (X := 0) (by rw [MS.zero_add]; exact hH)⟩ hH hl
  cases l with
  | nil => rfl
  | cons x l =>
    obtain ⟨b, o, h7, _⟩ := h4 (by simp)
    rw [hA] at h7; cases h7

/-- The relation of a loop that lays one thing more a round. -/
def BuildInv {α : Type} (e sz : Nat) (R : α → List Value → MS → Prop) (G : MS) (w : World) (l : List α) (vo v : Value) (wr : World) : Prop :=
  ∃ t : Nat, t ≤ l.length ∧ v = .int .i64 t ∧ ∃ mo, SlR e sz R (l.take t) vo mo ∧ Has wr (mo + G) ∧ Ext w wr
theorem BuildInv.start {α : Type} {e sz : Nat} {R : α → List Value → MS → Prop} {G : MS} {w wr : World} {l : List α} (hH : Has wr G) (hE : Ext w wr) : BuildInv e sz R G w l (.slice none 0 0) (.int .i64 0) wr :=
  ⟨0, Nat.zero_le _, rfl, 0, SlR.empty e sz R, by rw [MS.zero_add]; exact hH, hE⟩
theorem take_more {α : Type} {l : List α} {t : Nat} {a : α} (h : l[t]? = some a) : l.take (t + 1) = l.take t ++ [a] := by
  obtain ⟨hi, rfl⟩ := List.getElem?_eq_some_iff.1 h
  exact List.take_succ_eq_append_getElem hi

set_option maxHeartbeats 2000000 in
set_option maxRecDepth 100000 in
theorem deep_any (F : MS) (l : List (List (List Int))) (v : Value) (w : World) (hl : RdS F (RT.sl (RT.sl RT.int)) l v) (hH : Has w F) (b1 : l.length ≤ 1000) (b2 : ∀ r ∈ l, r.length ≤ 1000) (b3 : ∀ r ∈ l, ∀ q ∈ r, q.length ≤ 1000) :
    Calls Try.prog 60 #[v] w fun e w' => ∃ A c m', e = .returned (.slice A l.length c) ∧ Ints3 l (.slice A l.length c) m' ∧ Has w' (m' + F) ∧ Ext w w' := by
  obtain ⟨Al, cl, rfl, _, _⟩ := hl.form
  have Hl := hid hl
  have HH := hid hH
  have Hb := hid (And.intro b2 b3)
  have b1' : (l.length : Int) ≤ 1000 := by omega
  clear hl hH b2 b3
  go_enter Try.func60, Try.ntmps60
  go_wp2
  go_loopw [3, 11] (fun vo v wr => BuildInv 44 1 (El Ints2) F w l vo v wr) (fun _ v _ => l.length - (intOf v).toNat)
  case atStart => exact BuildInv.start HH.out (Ext.refl w)
  case round =>
    obtain ⟨t, ht, rfl, mo, ho, hHt, hEt⟩ := hrel
    obtain ⟨Ao, co, rfl, _, _⟩ := ho.form
    have hlen : (l.take t).length = t := by simp; omega
    rw [hlen] at ho ⊢
    by_cases hlt : t < l.length
    · obtain ⟨r, hr⟩ : ∃ r, l[t]? = some r := ⟨_, List.getElem?_eq_getElem hlt⟩
      obtain ⟨b1, o1, Ar, cr, rfl, e1, hr2, _, _⟩ := Hl.out.getSl hr
      have f1 := e1.cell hHt
      have hrl := Hb.out.1 r (List.mem_of_getElem? hr)
      have hrl' : (r.length : Int) ≤ 1000 := by omega
      have Hq := hid (Hb.out.2 r (List.mem_of_getElem? hr))
      have Hr2 := hid hr2
      have Ho := hid ho
      have HHt := hid hHt
      have HE := hid hEt
      have Hr := hid hr
      have Hlt := hid hlt
      have Hlen := hid hlen
      clear hr2 ho hHt hEt hr e1 hlen
      go_wp2
      go_loopw [6, 17] (fun vo v wr => BuildInv 22 1 (El Ints) (mo + F) w r vo v wr) (fun _ v _ => r.length - (intOf v).toNat)
      case atStart => exact BuildInv.start HHt.out HE.out
      case round =>
        obtain ⟨s, hs, rfl, mi, hi, hHs, hEs⟩ := hrel
        obtain ⟨Ai, ci, rfl, _, _⟩ := SlR.form hi
        have hlen2 : (r.take s).length = s := by simp; omega
        rw [hlen2] at hi ⊢
        by_cases hls : s < r.length
        · obtain ⟨q, hq⟩ : ∃ q, r[s]? = some q := ⟨_, List.getElem?_eq_getElem hls⟩
          obtain ⟨b2, o2, Aq, cq, rfl, e2, hq2, _, _⟩ := Hr2.out.getSl hq
          have f2 := (e2.more mo).cell hHs
          have hql := Hq.out q (List.mem_of_getElem? hq)
          have Hc := hid (clone_rd (w := wr) ((hq2.more mo).more mi) hHs (by omega))
          have Hi := hid hi
          have HHs := hid hHs
          have HEs := hid hEs
          have Htk := hid (take_more hq)
          have Hls := hid hls
          have Hlen2 := hid hlen2
          clear hi hHs hEs hq2 e2 hls hq hlen2
          go_wp2_with (first
            | (go_at_call 58; refine Hc.out.mono ?_; rintro e w1 ⟨A1, c1, m1, rfl, h1, h2, h3⟩; have g1 := hid h1; have g2 := hid h2; have g3 := hid h3; clear h1 h2 h3)
            | (at_builtin; refine wpList_push rfl (.tmp 21) (.tmp 24) row44 rfl _ rfl _ rfl rfl (El Ints) El.one El.len (r.take s) q mi m1 (mo + F) Hi.out (El.ints g1.out) (g2.out.eq (by ac_rfl)) s Hlen2.out (by omega) (by omega) ?_; intro A2 c2 w2 m2 k1 k2 k3; have K1 := hid k1; have K2 := hid k2; have K3 := hid k3; clear k1 k2 k3))
          go_roundw
          case rel => exact ⟨s + 1, Hls.out, by go_num, m2, by rw [Htk.out]; exact K1.out, K2.out, (HEs.out.trans g3.out).trans K3.out⟩
          case measure => have := Hls.out; simp [intOf]; omega
        · obtain rfl : s = r.length := by omega
          have Hi := hid (show Ints2 r (.slice Ai r.length ci) mi by rw [List.take_length] at hi; exact hi)
          have HHs := hid hHs
          have HEs := hid hEs
          have Htk := hid (take_more Hr.out)
          clear hi hHs hEs hlen2
          go_wp2_with (at_builtin; refine wpList_push rfl (.tmp 27) (.tmp 29) row36 rfl _ rfl _ rfl rfl (El Ints2) El.one El.len (l.take t) r mo mi F Ho.out (El.ints2 Hi.out) (HHs.out.eq (by ac_rfl)) t Hlen.out (by omega) (by omega) ?_; intro A2 c2 w2 m2 k1 k2 k3; have K1 := hid k1; have K2 := hid k2; have K3 := hid k3; clear k1 k2 k3)
          go_roundw
          case rel => exact ⟨t + 1, Hlt.out, by go_num, m2, by rw [Htk.out]; exact K1.out, K2.out, HEs.out.trans K3.out⟩
          case measure => have := Hlt.out; simp [intOf]; omega
    · obtain rfl : t = l.length := by omega
      have Ho := hid (show Ints3 l (.slice Ao l.length co) mo by rw [List.take_length] at ho; exact ho)
      have HHt := hid hHt
      have HEt := hid hEt
      clear ho hHt hEt hlen
      go_wp2
      go_ret
      exact ⟨_, _, mo, rfl, Ho.out, HHt.out, HEt.out⟩
end Go.Proofs.Ytnkgfgkgepadhaa

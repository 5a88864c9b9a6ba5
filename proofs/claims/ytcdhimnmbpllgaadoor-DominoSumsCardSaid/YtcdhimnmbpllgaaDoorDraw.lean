/-
  A region that draws its order, walked in one order of the prover's choice: quiet operations (they yield one value in every world that meets S) early, the others one behind the other; behind each of these, but behind one named last, S is shown anew. A region that draws its order and holds several operations that make memory of their own (make, Clone): they are done in whatever order, and walked once.
-/
import Derived.Test.YtcdhimnmbpllgaaDoorRows1
import Derived.OrdersHeld
namespace Go.Proofs.YtcdhimnmbpllgaaDoor
open Go.RowKit
set_option linter.unusedVariables false

section
variable {P : Program} {ops : Array Oper} {Q : Exit → Act → World → Prop} {md : Region.Mode} {S : World → Prop} {last : Option Nat}

/-- Whatever order is picked; S holds behind each operation but the last. -/
def wpAnyL (P : Program) (md : Region.Mode) (ops : Array Oper) (Q : Exit → Act → World → Prop) (S : World → Prop) (last : Option Nat) : Nat → Array Bool → Act → World → Prop
  | 0, listed, a, w => Region.ready md ops listed = [] ∧ Q .normal a w
  | n + 1, listed, a, w => (Region.ready md ops listed = [] → Q .normal a w) ∧
      ∀ i ∈ Region.ready md ops listed, wpOp P ops Q i (fun a' w' => (some i ≠ last → S w') ∧ wpAnyL P md ops Q S last n (listed.setIfInBounds i true) a' w') a w
theorem wpAny_of_L : ∀ (n : Nat) (listed : Array Bool) (a : Act) (w : World), wpAnyL P md ops Q S last n listed a w → wpAny P md ops Q n listed a w
  | 0, _, _, _, h => h
  | n + 1, _, _, _, h => ⟨h.1, fun i hi => wpOp_mono (fun a' w' h' => wpAny_of_L n _ a' w' h'.2) (h.2 i hi)⟩

/-- Does number x wait for number y? -/
def edge (md : Region.Mode) (ops : Array Oper) (x y : Nat) : Bool :=
  match ops[x]? with
  | some o => o.after.any fun e => Region.binds md e && e.on == y
  | none => false
/-- The one named last waits for number i, or for one that waits for it and has not come up. -/
def waits (md : Region.Mode) (ops : Array Oper) (last : Option Nat) (listed : Array Bool) (i : Nat) : Bool :=
  match last with
  | none => true
  | some l => (List.range ops.size).any fun m => !(listed.getD m true) && edge md ops l m && (m == i || edge md ops m i)
theorem edge_ready {x y : Nat} {listed : Array Bool} (h : edge md ops x y = true) (hx : x ∈ Region.ready md ops listed) : listed.getD y false = true := by
  obtain ⟨_, o, ho, hall⟩ := mem_ready.1 hx
  simp only [edge, ho] at h
  obtain ⟨e, he, hb⟩ := Array.any_eq_true'.1 h
  simp only [Bool.and_eq_true, beq_iff_eq] at hb
  rw [← hb.2]
  exact hall e he hb.1
theorem unlisted {i : Nat} {listed : Array Bool} (h : listed.getD i true = false) : listed.getD i false = false := by
  rcases Nat.lt_or_ge i listed.size with h' | h'
  · simp [h'] at h ⊢; exact h
  · simp [Array.getElem?_eq_none h'] at h

theorem wpAnyL_first {i : Nat} {oi : Oper} {v : Value} (hi : ops[i]? = some oi) (hsel : Region.noSelect ops = true) 
    (hQ : ∀ c a d u w, Q (.panic c) (Act.put a d u) w → Q (.panic c) a w) :
    ∀ (n : Nat) (listed : Array Bool) (a : Act) (w : World), waits md ops last listed i = true → Region.free md ops listed i = true → i ∈ Region.ready md ops listed → YieldsIf P ops S oi v a → S w →
      wpAnyL P md ops Q S last n (listed.setIfInBounds i true) (a.put oi.dst v) w → wpAnyL P md ops Q S last (n + 1) listed a w := by
  intro n
  induction n with
  | zero =>
    intro listed a w _ _ hr hy hS H
    refine ⟨fun h => (by rw [h] at hr; cases hr), fun j hj => ?_⟩
    rcases Nat.decEq j i with hji | rfl
    · have := ready_mono hj hji
      rw [H.1] at this
      cases this
    · exact hy.wpOp hi hS ⟨fun _ => hS, H⟩
  | succ n ih =>
    intro listed a w hw hf hr hy hS H
    refine ⟨fun h => (by rw [h] at hr; cases hr), fun j hj => ?_⟩
    rcases Nat.decEq j i with hji | rfl
    · obtain ⟨hjun, oj, hoj, hall⟩ := mem_ready.1 hj
      have hun := (mem_ready.1 hr).1
      -- j does not wait for i
      have hnot : ∀ e ∈ oj.after, Region.binds md e = true → e.on ≠ i := fun e he hb heq => by
        have h1 := hall e he hb
        rw [heq, unlisted hun] at h1
        cases h1
      have hj0 : edge md ops j i = false := by
        cases hji' : edge md ops j i
        · rfl
        · have := edge_ready hji' hj
          rw [unlisted hun] at this
          cases this
      have hjl : some j ≠ last := fun e => by
        subst e
        simp only [waits, List.any_eq_true, Bool.and_eq_true, Bool.not_eq_true'] at hw
        obtain ⟨m, _, ⟨hm1, hm2⟩, _⟩ := hw
        have := edge_ready hm2 hj
        rw [unlisted hm1] at this
        cases this
      have hw' : waits md ops last (listed.setIfInBounds j true) i = true := by
        cases last with
        | none => rfl
        | some l =>
          simp only [waits, List.any_eq_true, Bool.and_eq_true, Bool.not_eq_true'] at hw ⊢
          obtain ⟨m, hm0, ⟨hm1, hm2⟩, hm3⟩ := hw
          refine ⟨m, hm0, ⟨?_, hm2⟩, hm3⟩
          have hjm : j ≠ m := fun e => by
            subst e
            rw [hj0] at hm3
            simp [hji] at hm3
          rw [getD_set_ne true hjm]
          exact hm1
      have h1 := H.2 j (ready_mono hj hji)
      have hap := Region.free_spec hi hf j oj hoj hji hjun hnot
      have h2 := wpOp_putIf hoj hap (fun cs b => Region.noSelect_spec hsel i oi cs b hi) (fun cs b => Region.noSelect_spec hsel j oj cs b hoj) (fun c a w => hQ c a oi.dst v w) hy h1
      have hf' : Region.free md ops (listed.setIfInBounds j true) i = true := by
        unfold Region.free at hf ⊢
        simp only [hi] at hf ⊢
        simp only [List.all_eq_true] at hf ⊢
        intro k hk
        have h3 := hf k hk
        rcases Nat.decEq j k with hjk | rfl
        · rw [getD_set_ne true hjk]; exact h3
        · have hlt : j < listed.size := by
            rcases Nat.lt_or_ge j listed.size with h' | h'
            · exact h'
            · simp [Array.getElem?_eq_none h'] at hjun
          simp [hlt]
      refine wpOp_mono (fun a' w' h3 => ?_) h2
      obtain ⟨hy', hS', hK⟩ := h3
      have hS'' := hS' hjl
      refine ⟨fun _ => hS'', ih (listed.setIfInBounds j true) a' w' hw' hf' (ready_mono hr (Ne.symm hji)) hy' hS'' ?_⟩
      rw [Array.setIfInBounds_comm _ _ hji]
      exact hK
    · exact hy.wpOp hi hS ⟨fun _ => hS, H⟩

/-- One order of the region's operations: true: quiet. -/
def wpTxt (P : Program) (ops : Array Oper) (Q : Exit → Act → World → Prop) (S : World → Prop) (last : Option Nat) : List (Nat × Bool) → Act → World → Prop
  | [], a, w => Q .normal a w
  | (i, true) :: rest, a, w => S w ∧ ∃ o v, ops[i]? = some o ∧ YieldsIf P ops S o v a ∧ wpTxt P ops Q S last rest (a.put o.dst v) w
  | (i, false) :: rest, a, w => wpOp P ops Q i (fun a' w' => (some i ≠ last → S w') ∧ wpTxt P ops Q S last rest a' w') a w
/-- Is the order a fit one? -/
def okOrd (md : Region.Mode) (ops : Array Oper) (last : Option Nat) : List (Nat × Bool) → Array Bool → Bool
  | [], listed => (Region.ready md ops listed).isEmpty
  | (i, true) :: rest, listed => waits md ops last listed i && (Region.ready md ops listed).contains i && Region.free md ops listed i && okOrd md ops last rest (listed.setIfInBounds i true)
  | (i, false) :: rest, listed => (Region.ready md ops listed == [i]) && okOrd md ops last rest (listed.setIfInBounds i true)
theorem wpAnyL_of_txt (hsel : Region.noSelect ops = true) (hQ : ∀ c a d u w, Q (.panic c) (Act.put a d u) w → Q (.panic c) a w) :
    ∀ (ord : List (Nat × Bool)) (listed : Array Bool) (a : Act) (w : World), okOrd md ops last ord listed = true → wpTxt P ops Q S last ord a w → wpAnyL P md ops Q S last ord.length listed a w
  | [], listed, a, w, ho, h => ⟨by simpa [okOrd] using ho, h⟩
  | (i, true) :: rest, listed, a, w, ho, h => by
    simp only [okOrd, Bool.and_eq_true] at ho
    obtain ⟨⟨⟨h1, h2⟩, h3⟩, h4⟩ := ho
    obtain ⟨hS, o, v, hi, hy, hK⟩ := h
    exact wpAnyL_first hi hsel hQ _ _ _ _ h1 h3 (by simpa using h2) hy hS (wpAnyL_of_txt hsel hQ rest _ _ _ h4 hK)
  | (i, false) :: rest, listed, a, w, ho, h => by
    simp only [okOrd, Bool.and_eq_true, beq_iff_eq] at ho
    obtain ⟨h1, h2⟩ := ho
    refine ⟨fun h0 => (by rw [h1] at h0; cases h0), fun j hj => ?_⟩
    rw [h1] at hj
    obtain rfl : j = i := by simpa using hj
    exact wpOp_mono (fun a' w' h' => ⟨h'.1, wpAnyL_of_txt hsel hQ rest _ _ _ h2 h'.2⟩) h
theorem put_defers (a : Act) (d : Option Tmp) (u : Value) : (a.put d u).defers = a.defers := by cases d <;> rfl
/-- The post of a function at a panic does not hang on a slot. -/
theorem panic_put {fn : Func} {R : Ending → World → Prop} {c : List PanicEntry} {a : Act} {d : Option Tmp} {u : Value} {w : World} (h : bodyPost P fn R (.panic c) (a.put d u) w) : bodyPost P fn R (.panic c) a w :=
  ⟨(put_defers a d u) ▸ h.1, h.2⟩

/-- The post at a panic does not hang on a slot. -/
def PanicOk (Q : Exit → Act → World → Prop) : Prop := ∀ c a d u w, Q (.panic c) (Act.put a d u) w → Q (.panic c) a w
theorem PanicOk.body (P : Program) (fn : Func) (R : Ending → World → Prop) : PanicOk (bodyPost P fn R) := fun _ _ _ _ _ h => panic_put h
theorem PanicOk.thn {K : Act → World → Prop} {Q : Exit → Act → World → Prop} (h : PanicOk Q) : PanicOk (Exit.then K Q) := h
theorem PanicOk.blk {n : Nat} {Q : Exit → Act → World → Prop} (h : PanicOk Q) : PanicOk (Exit.inBlock n Q) := h

theorem wp_region_txt {id : Nat} {a : Act} {w : World} (S : World → Prop) (last : Option Nat) (ord : List (Nat × Bool)) (hm : P.follows .mixedOrders = true) (hl : ord.length = ops.size) (hsel : Region.noSelect ops = true)
    (ho : okOrd .any ops last ord (Array.replicate ops.size false) = true) (hQ : PanicOk Q)
    (h : wpTxt P ops Q S last ord a w.drew) : (Code.region id ops true).wp P Q a w :=
  wp_region_any hm (wpAny_of_L _ _ _ _ (hl ▸ wpAnyL_of_txt hsel hQ ord _ _ _ ho h))


/-! ### The steps -/
theorem at_drop {ops : Array Oper} {i : Nat} {o : Oper} {tl : List Oper} (h : ops.toList.drop i = o :: tl) : ops[i]? = some o := by
  have : (ops.toList.drop i)[0]? = some o := by rw [h]; rfl
  rw [List.getElem?_drop] at this
  simpa using this
variable {i : Nat} {o : Oper} {tl : List Oper} {rest : List (Nat × Bool)} {a : Act} {w : World}
/-- A quiet operation. -/
theorem txt_quiet (v : Value) (hS : S w) (hi : ops.toList.drop i = o :: tl) (hg : Region.wanted o (yielded ops a.tmps) = true) (hy : ∀ w, S w → (execOp a.eval o).run P w = .ok (.value v) w)
    (h : wpTxt P ops Q S last rest (a.put o.dst v) w) : wpTxt P ops Q S last ((i, true) :: rest) a w := ⟨hS, o, v, at_drop hi, Or.inl ⟨hg, hy⟩, h⟩
/-- A quiet operation that is not wanted (its guard says no). -/
theorem txt_off (hS : S w) (hi : ops.toList.drop i = o :: tl) (hg : Region.wanted o (yielded ops a.tmps) = false)
    (h : wpTxt P ops Q S last rest (a.put o.dst undef) w) : wpTxt P ops Q S last ((i, true) :: rest) a w := ⟨hS, o, undef, at_drop hi, Or.inr ⟨hg, rfl⟩, h⟩
/-- 'Oper.wp', closed to unfolding: else Lean runs the operation wherever it looks at the goal. -/
def opWp (P : Program) (o : Oper) (a : Act) (w : World) (K : Act → World → Prop) (Q : Exit → Act → World → Prop) : Prop := o.wp P a w K Q
/-- Any other. -/
theorem txt_op (hi : ops.toList.drop i = o :: tl) (hg : Region.wanted o (yielded ops a.tmps) = true)
    (h : opWp P o a w (fun a' w' => (some i ≠ last → S w') ∧ wpTxt P ops Q S last rest a' w') Q) : wpTxt P ops Q S last ((i, false) :: rest) a w := by
  unfold wpTxt wpOp
  simp only [at_drop hi, hg, if_true]
  exact Or.inl h
theorem txt_done (h : Q .normal a w) : wpTxt P ops Q S last [] a w := h
end
section
variable {P : Program} {w : World} {o : Oper} {a : Act} {K : Act → World → Prop} {Q : Exit → Act → World → Prop}
theorem op_of (h : o.wp P a w K Q) : opWp P o a w K Q := h
/-- A call of a Go function. -/
theorem op_call (f : FuncId) (vals : Array Value) (v : World) (hrun : (execOp a.eval o).run P w = .ok (.enter f vals) v) (R : Ending → World → Prop)
    (hc : Calls P f vals v R) (h : ∀ e w', R e w' → ∃ x, e = .returned x ∧ K (a.put o.dst x) w') : opWp P o a w K Q := by
  unfold opWp Oper.wp
  rw [hrun]
  exact hc.mono fun e w' hR => by
    obtain ⟨x, rfl, hK⟩ := h e w' hR
    exact hK
/-- An operation that makes memory, or whose run is known. -/
theorem op_run (v : Value) (w' : World) (hrun : (execOp a.eval o).run P w = .ok (.value v) w') (h : K (a.put o.dst v) w') : opWp P o a w K Q := by
  unfold opWp Oper.wp
  rw [hrun]
  exact h
theorem op_append_sl (s x : Operand) (t : TypeId)
    (ho : o.op = .call { callee := .builtin .append, args := #[s, x], argTypes := #[t, t] })
    (e : TypeId) (z : Value) (sz bytes : Nat) (ht : P.underlying t = some (.slice e)) (hi : (P.info? e).map (fun i => (i.zero, i.size, i.bytes)) = some (some z, sz, bytes)) (hzs : z.cells.size = sz)
    (v : Value) (hs : a.eval s = v) (ao : Option Addr) (k c : Nat) (hx : a.eval x = .slice ao k c)
    (n : Nat) (xs : List Value) (m F : MS) (hown : Sl e sz v n xs m) (hH : Has w (m + F))
    (news : List Value) (hl : news.length = k * sz) (hnone : ao = none → k = 0) (hnews : ∀ a, ao = some a → ∀ j u, news[j]? = some u → w.cell? (a.add j) = some u) (h1 : ∀ u ∈ news, u.oneCell' = true)
    (h63 : n + k ≤ maxLen) (hbytes : (n + k) * bytes ≤ 140737488355328)
    (h : ∀ v' w' m', Sl e sz v' (n + k) (xs ++ news) m' → Has w' (m' + F) → Ext w w' → K (a.put o.dst v') w') : opWp P o a w K Q :=
  wp_append_sl s x t ho e z sz bytes ht hi hzs v hs ao k c hx n xs m F hown hH news hl hnone hnews h1 h63 hbytes h
theorem op_store_blk (ad x : Operand) (t : TypeId) (ho : o.op = .store t ad x) (ht : (P.info? t).map (·.size) = some 1)
    (b i : Nat) (u : Value) (ha : a.eval ad = .pointer (some ⟨b, i, none⟩)) (hx : a.eval x = u) (h1 : u.oneCell' = true)
    (cur : Array Value) (e : TypeId) (F : MS) (hH : Has w (blk b cur e + F)) (hi : i < cur.size)
    (h : ∀ w', Has w' (blk b (cur.setIfInBounds i u) e + F) → Ext w w' → K (a.put o.dst undef) w') : opWp P o a w K Q :=
  wp_store_blk ad x t ho ht b i u ha hx h1 cur e F hH hi h
theorem op_make_sl (l c : Operand) (t : TypeId) (ho : o.op = Op.makeSlice t l c)
    (e : TypeId) (z : Value) (sz bytes : Nat) (ht : P.underlying t = some (.slice e)) (hi : (P.info? e).map (fun i => (i.zero, i.size, i.bytes)) = some (some z, sz, bytes))
    (kl kc : IntKind) (n : Nat) (hl : a.eval l = .int kl (n : Int)) (hc : a.eval c = .int kc (n : Int)) (hb : bytes * n ≤ 281474976710656) (hm : n ≤ maxLen) (F : MS) (hH : Has w F)
    (h : ∀ v w' m', Sl e sz v n (madeCells z.cells (n * sz)).toList m' → Has w' (m' + F) → Ext w w' → (∃ ad c, v = .slice (some ad) n c) → K (a.put o.dst v) w') : opWp P o a w K Q :=
  wp_make_sl l c t ho e z sz bytes ht hi kl kc n hl hc hb hm F hH h
end
attribute [irreducible] opWp wpTxt
end Go.Proofs.YtcdhimnmbpllgaaDoor

namespace Go.Proofs.YtcdhimnmbpllgaaDoor
open Go.RowKit
set_option linter.unusedVariables false

section
variable {β : Type}
/-- One more of the list is done: the fold over what is done takes it at its end. -/
theorem fold_more (L : List Nat) (F : β → Nat → β) (hnd : L.Nodup) (done done' : Nat → Bool) (F' : β → Nat → β) (i : Nat) (hi : i ∈ L) (h0 : done i = false) (h1 : ∀ j, done' j = (done j || j == i))
    (hF : ∀ j b, done j = true → F' b j = F b j) (hc : ∀ x ∈ L, ∀ y ∈ L, x ≠ y → ∀ b, F' (F' b x) y = F' (F' b y) x) (b : β) :
    (L.filter done').foldl F' b = F' ((L.filter done).foldl F b) i := by
  have hcomm : ∀ (l : List Nat), (∀ x ∈ l, x ∈ L ∧ x ≠ i ∧ done x = true) → ∀ b, l.foldl F' (F' b i) = F' (l.foldl F b) i := by
    intro l
    induction l with
    | nil => intro _ b; rfl
    | cons x l ih =>
      intro hl b
      obtain ⟨hx, hxi, hdx⟩ := hl x (by simp)
      rw [List.foldl_cons, List.foldl_cons, hc i hi x hx (Ne.symm hxi), ih (fun y hy => hl y (by simp [hy])), hF x b hdx]
  have key : ∀ (l : List Nat), l.Nodup → (∀ x ∈ l, x ∈ L) → i ∈ l → ∀ b, (l.filter done').foldl F' b = F' ((l.filter done).foldl F b) i := by
    intro l
    induction l with
    | nil => intro _ _ hi; cases hi
    | cons x l ih =>
      intro hn hl hil b
      rw [List.nodup_cons] at hn
      by_cases hxi : x = i
      · subst hxi
        have hsame : l.filter done' = l.filter done := by
          apply List.filter_congr
          intro y hy
          have : y ≠ x := fun e => hn.1 (e ▸ hy)
          rw [h1]; simp [this]
        rw [List.filter_cons_of_pos (by rw [h1]; simp), List.filter_cons_of_neg (by simp [h0]), List.foldl_cons, hsame]
        exact hcomm _ (fun y hy => by
          rw [List.mem_filter] at hy
          exact ⟨hl y (by simp [hy.1]), fun e => hn.1 (e ▸ hy.1), hy.2⟩) b
      · have hil' : i ∈ l := by
          rcases List.mem_cons.1 hil with h | h
          · exact absurd h.symm hxi
          · exact h
        have hl' : ∀ y ∈ l, y ∈ L := fun y hy => hl y (by simp [hy])
        cases hdx : done x with
        | true =>
          rw [List.filter_cons_of_pos (by rw [h1, hdx]; rfl), List.filter_cons_of_pos hdx, List.foldl_cons, List.foldl_cons, ih hn.2 hl' hil', hF x b hdx]
        | false =>
          rw [List.filter_cons_of_neg (by rw [h1, hdx]; simp [hxi]), List.filter_cons_of_neg (by simp [hdx]), ih hn.2 hl' hil']
  exact key L hnd (fun _ h => h) hi b
end

/-- All parts of a list, in its order. -/
def parts : List Nat → List (List Nat)
  | [] => [[]]
  | x :: l => (parts l).map (x :: ·) ++ parts l
theorem filter_mem_parts (p : Nat → Bool) : ∀ l : List Nat, l.filter p ∈ parts l
  | [] => by simp [parts]
  | x :: l => by
    unfold parts
    rw [List.mem_append, List.mem_map]
    cases h : p x with
    | true => exact .inl ⟨_, filter_mem_parts p l, by rw [List.filter_cons_of_pos h]⟩
    | false => exact .inr (by rw [List.filter_cons_of_neg (by simp [h])]; exact filter_mem_parts p l)

section
variable {P : Program} {ops : Array Oper} {Q : Exit → Act → World → Prop} {md : Region.Mode} {S : World → Prop} {last : Option Nat}
def markAll (l : List Nat) (b : Array Bool) : Array Bool := l.foldl (fun b i => b.setIfInBounds i true) b
def depOf (deps : List (Nat × List Nat)) (i : Nat) : List Nat := (deps.lookup i).getD []
/-- May the group be done in whatever order from here (each behind those that it waits for), and in no other? -/
def okGrp (md : Region.Mode) (ops : Array Oper) (deps : List (Nat × List Nat)) (L : List Nat) (listed : Array Bool) : Bool :=
  (parts L).all (fun D => !(D.all fun i => (depOf deps i).all D.contains) ||
      (D == L || ((Region.ready md ops (markAll D listed) == L.filter fun i => !D.contains i && (depOf deps i).all D.contains) && !(Region.ready md ops (markAll D listed)).isEmpty))) &&
    (L.all (fun i => match ops[i]? with | some o => o.guard.isNone && o.dst.isSome | none => false) && L.all fun i => (depOf deps i).all L.contains)
def dstOf (ops : Array Oper) (i : Nat) : Tmp := match ops[i]? with | some o => o.dst.getD 0 | none => 0
def putL (ops : Array Oper) (f : Nat → Value) (a : Act) (i : Nat) : Act := a.put (some (dstOf ops i)) (f i)

/-- What is to be shown of the group: each operation makes something of its own; what follows behind all of them. -/
def Grp (P : Program) (ops : Array Oper) (Q : Exit → Act → World → Prop) (S : World → Prop) (last : Option Nat) (deps : List (Nat × List Nat)) (L : List Nat) (ord : List (Nat × Bool)) (a : Act) (w : World) : Prop :=
  ∃ (F0 : MS) (G : Nat → (Nat → Value) → Value → MS → Prop), Has w F0 ∧ (∀ w X, Has w (X + F0) → S w) ∧ (∀ j ∈ L, dstOf ops j < a.tmps.size) ∧ (∀ i f f' v m, (∀ j ∈ depOf deps i, f j = f' j) → G i f v m → G i f' v m) ∧
    (∀ i ∈ L, ∀ o, ops[i]? = some o → ∀ a' f w M K, (∀ t, (∀ j ∈ L, dstOf ops j ≠ t) → a'.eval (.tmp t) = a.eval (.tmp t)) → (∀ j ∈ depOf deps i, a'.eval (.tmp (dstOf ops j)) = f j) → (∀ j ∈ depOf deps i, ∃ m, G j f (f j) m) → Has w (M + F0) →
      (∀ v w' m, G i f v m → Has w' (m + (M + F0)) → Ext w w' → K (a'.put o.dst v) w') → opWp P o a' w K Q) ∧
    ∀ (f : Nat → Value) (g : Nat → MS) w', (∀ i ∈ L, G i f (f i) (g i)) → Has w' (L.foldl (fun m i => g i + m) F0) → Ext w w' → wpTxt P ops Q S last ord (L.foldl (putL ops f) a) w'

theorem put_comm (a : Act) (d e : Tmp) (u v : Value) (h : d ≠ e) : (a.put (some d) u).put (some e) v = (a.put (some e) v).put (some d) u := by
  unfold Act.put
  simp only
  rw [Array.setIfInBounds_comm _ _ h]
theorem eval_put (a : Act) (d t : Tmp) (v : Value) (h : d ≠ t) : (a.put (some d) v).eval (.tmp t) = a.eval (.tmp t) := by
  simp only [Act.put, Act.eval]
  simp only [Array.getD_eq_getD_getElem?]
  rw [Array.getElem?_setIfInBounds_ne h]
theorem eval_put_same (a : Act) (d : Tmp) (v : Value) (h : d < a.tmps.size) : (a.put (some d) v).eval (.tmp d) = v := by
  simp only [Act.put, Act.eval]
  simp only [Array.getD_eq_getD_getElem?]
  rw [Array.getElem?_setIfInBounds_self_of_lt h]
  rfl
theorem size_putL (ops : Array Oper) (f : Nat → Value) : ∀ (l : List Nat) (a : Act), (l.foldl (putL ops f) a).tmps.size = a.tmps.size
  | [], a => rfl
  | x :: l, a => by rw [List.foldl_cons, size_putL ops f l]; simp [putL, Act.put]
theorem eval_out (ops : Array Oper) (f : Nat → Value) (t : Tmp) : ∀ (l : List Nat) (a : Act), (∀ j ∈ l, dstOf ops j ≠ t) → (l.foldl (putL ops f) a).eval (.tmp t) = a.eval (.tmp t)
  | [], a, _ => rfl
  | x :: l, a, hl => by
    rw [List.foldl_cons, eval_out ops f t l _ (fun j hj => hl j (by simp [hj]))]
    exact eval_put a _ t _ (hl x (by simp))
theorem eval_in (ops : Array Oper) (f : Nat → Value) (i : Nat) : ∀ (l : List Nat) (a : Act), i ∈ l → l.Nodup → (∀ x ∈ l, ∀ y ∈ l, x ≠ y → dstOf ops x ≠ dstOf ops y) → dstOf ops i < a.tmps.size → (l.foldl (putL ops f) a).eval (.tmp (dstOf ops i)) = f i
  | [], a, h, _, _, _ => by cases h
  | x :: l, a, h, hn, hd, hs => by
    rw [List.nodup_cons] at hn
    rw [List.foldl_cons]
    by_cases hxi : x = i
    · subst hxi
      rw [eval_out ops f _ l _ (fun j hj => fun e => hd j (by simp [hj]) x (by simp) (fun e' => hn.1 (e' ▸ hj)) e)]
      exact eval_put_same _ _ _ hs
    · have hil : i ∈ l := by
        rcases List.mem_cons.1 h with h | h
        · exact absurd h.symm hxi
        · exact h
      exact eval_in ops f i l _ hil hn.2 (fun x hx y hy => hd x (by simp [hx]) y (by simp [hy])) (by simp [putL, Act.put]; exact hs)

theorem grp_any (deps : List (Nat × List Nat)) (L : List Nat) (hnd : L.Nodup) (hdst : ∀ x ∈ L, ∀ y ∈ L, x ≠ y → dstOf ops x ≠ dstOf ops y) (hlast : ∀ i ∈ L, some i ≠ last) (listed : Array Bool) (hok : okGrp md ops deps L listed = true)
    (hsel : Region.noSelect ops = true) (hQ : ∀ c a d u w, Q (.panic c) (Act.put a d u) w → Q (.panic c) a w)
    (ord : List (Nat × Bool)) (ho : okOrd md ops last ord (markAll L listed) = true) (a : Act) (w : World) (h : Grp P ops Q S last deps L ord a w) :
    wpAnyL P md ops Q S last (L.length + ord.length) listed a w := by
  obtain ⟨F0, G, hH0, hS, hsz, hGc, heff, hfin⟩ := h
  rw [okGrp, Bool.and_eq_true, Bool.and_eq_true, List.all_eq_true, List.all_eq_true, List.all_eq_true] at hok
  obtain ⟨hok1, hok2, hok3⟩ := hok
  have hdepL : ∀ i ∈ L, ∀ j ∈ depOf deps i, j ∈ L := fun i hi j hj => by
    have := hok3 i hi
    rw [List.all_eq_true] at this
    simpa using this j hj
  have hready : ∀ done : Nat → Bool, (∀ i ∈ L, done i = true → ∀ j ∈ depOf deps i, done j = true) →
      L.filter done ≠ L → (Region.ready md ops (markAll (L.filter done) listed) = L.filter fun i => !done i && (depOf deps i).all done) ∧ Region.ready md ops (markAll (L.filter done) listed) ≠ [] := by
    intro done hcl hne
    have h1 := hok1 _ (filter_mem_parts done L)
    have hc : (L.filter done).all (fun i => (depOf deps i).all (L.filter done).contains) = true := by
      rw [List.all_eq_true]
      intro i hi
      rw [List.mem_filter] at hi
      rw [List.all_eq_true]
      intro j hj
      simp only [List.contains_iff_mem, List.mem_filter]
      exact ⟨hdepL i hi.1 j hj, hcl i hi.1 hi.2 j hj⟩
    rw [hc] at h1
    simp only [Bool.not_true, Bool.false_or, Bool.and_eq_true, beq_iff_eq, Bool.or_eq_true, Bool.not_eq_true', List.isEmpty_eq_false_iff] at h1
    replace h1 := h1.resolve_left hne
    refine ⟨?_, h1.2⟩
    rw [h1.1]
    apply List.filter_congr
    intro x hx
    have e1 : (L.filter done).contains x = done x := by
      cases hd : done x with
      | true => simp [hx, hd]
      | false => simp [hx, hd]
    have e2 : (depOf deps x).all (L.filter done).contains = (depOf deps x).all done := by
      rw [Bool.eq_iff_iff, List.all_eq_true, List.all_eq_true]
      refine ⟨fun h j hj => ?_, fun h j hj => ?_⟩
      · have := h j hj
        simp only [List.contains_iff_mem, List.mem_filter] at this
        exact this.2
      · simp only [List.contains_iff_mem, List.mem_filter]
        exact ⟨hdepL x hx j hj, h j hj⟩
    rw [e1, e2]
  have key : ∀ (n : Nat) (done : Nat → Bool) (f : Nat → Value) (g : Nat → MS) (w1 : World), (L.filter fun i => !done i).length = n → (∀ i ∈ L, done i = true → ∀ j ∈ depOf deps i, done j = true) → (∀ i ∈ L, done i = true → G i f (f i) (g i)) →
      Has w1 ((L.filter done).foldl (fun m i => g i + m) F0) → Ext w w1 → wpAnyL P md ops Q S last (n + ord.length) (markAll (L.filter done) listed) ((L.filter done).foldl (putL ops f) a) w1 := by
    intro n
    induction n with
    | zero =>
      intro done f g w1 hn hcl hG hw hE
      have hall : L.filter done = L := by
        rw [List.filter_eq_self]
        intro x hx
        have h0 := List.eq_nil_of_length_eq_zero hn
        rw [List.filter_eq_nil_iff] at h0
        have := h0 x hx
        simpa using this
      rw [hall] at hw ⊢
      rw [Nat.zero_add]
      exact wpAnyL_of_txt hsel hQ ord _ _ _ ho (hfin f g w1 (fun i hi => hG i hi (by
        have : i ∈ L.filter done := by rw [hall]; exact hi
        exact (List.mem_filter.1 this).2)) hw hE)
    | succ n ih =>
      intro done f g w1 hn hcl hG hw hE
      obtain ⟨hr1, hr2⟩ := hready done hcl (fun h => by
        have : L.filter (fun i => !done i) = [] := by
          rw [List.filter_eq_nil_iff]
          intro x hx
          rw [← h, List.mem_filter] at hx
          simp [hx.2]
        rw [this] at hn
        simp at hn)
      rw [show n + 1 + ord.length = (n + ord.length) + 1 by omega]
      refine ⟨fun h0 => absurd h0 hr2, fun i hi => ?_⟩
      · rw [hr1, List.mem_filter, Bool.and_eq_true] at hi
        obtain ⟨hiL, hdi, hdep⟩ := hi
        have hdi : done i = false := by simpa using hdi
        rw [List.all_eq_true] at hdep
        have h2 := hok2 i hiL
        cases ho' : ops[i]? with
        | none => rw [ho'] at h2; simp at h2
        | some o =>
          rw [ho'] at h2
          simp only [Bool.and_eq_true, Option.isNone_iff_eq_none, Option.isSome_iff_exists] at h2
          obtain ⟨hg, d, hd⟩ := h2
          have hdo : dstOf ops i = d := by simp [dstOf, ho', hd]
          unfold wpOp
          rw [ho']
          have hwant : Region.wanted o (yielded ops ((L.filter done).foldl (putL ops f) a).tmps) = true := by simp [Region.wanted, hg]
          simp only [hwant, if_true]
          refine Or.inl ?_
          -- the memory behind the done ones
          have hM : ∀ (l : List Nat) (X : MS), ∃ M, l.foldl (fun m i => g i + m) X = M + X := by
            intro l
            induction l with
            | nil => intro X; exact ⟨0, (MS.zero_add X).symm⟩
            | cons x l ihl =>
              intro X
              obtain ⟨M, hM⟩ := ihl (g x + X)
              exact ⟨M + g x, by rw [List.foldl_cons, hM]; ac_rfl⟩
          obtain ⟨M, hM'⟩ := hM (L.filter done) F0
          have hev : ∀ t, (∀ j ∈ L, dstOf ops j ≠ t) → ((L.filter done).foldl (putL ops f) a).eval (.tmp t) = a.eval (.tmp t) :=
            fun t ht => eval_out ops f t _ _ fun j hj => ht j (List.mem_filter.1 hj).1
          have hev2 : ∀ j ∈ depOf deps i, ((L.filter done).foldl (putL ops f) a).eval (.tmp (dstOf ops j)) = f j := fun j hj => by
            have hjL := hdepL i hiL j hj
            exact eval_in ops f j _ a (List.mem_filter.2 ⟨hjL, hdep j hj⟩) (hnd.filter _) (fun x hx y hy => hdst x (List.mem_filter.1 hx).1 y (List.mem_filter.1 hy).1) (hsz j hjL)
          have hstep : opWp P o ((L.filter done).foldl (putL ops f) a) w1 (fun a' w' => (some i ≠ last → S w') ∧ wpAnyL P md ops Q S last (n + ord.length) ((markAll (L.filter done) listed).setIfInBounds i true) a' w') Q := ?_
          · unfold opWp at hstep; exact hstep
          refine heff i hiL o ho' _ f w1 M _ hev hev2 (fun j hj => ⟨_, hG j (hdepL i hiL j hj) (hdep j hj)⟩) (by rw [← hM']; exact hw) ?_
          intro v w2 m hGv hw2 hE2
          refine ⟨fun _ => hS w2 (m + M) (by rw [MS.add_assoc]; exact hw2), ?_⟩
          have hfd : ∀ x ∈ L, (done x = true ∨ x = i) → ∀ j ∈ depOf deps x, j ≠ i := by
            intro x hx hxd j hj e
            rcases hxd with h | h
            · have := hcl x hx h j hj
              rw [e, hdi] at this; cases this
            · have := hdep j (h ▸ hj)
              rw [e, hdi] at this; cases this
          have ih' := ih (fun j => done j || j == i) (fun j => if j = i then v else f j) (fun j => if j = i then m else g j) w2
            (by
              have : (L.filter fun j => !(done j || j == i)) = (L.filter fun j => !done j).filter fun j => !(j == i) := by
                rw [List.filter_filter]
                apply List.filter_congr
                intro x hx
                cases done x <;> cases (x == i) <;> rfl
              rw [this]
              have hnd' : (L.filter fun j => !done j).Nodup := hnd.filter _
              have hmem : i ∈ L.filter fun j => !done j := by rw [List.mem_filter]; exact ⟨hiL, by simp [hdi]⟩
              have hcnt : ∀ l : List Nat, l.Nodup → i ∈ l → (l.filter fun j => !(j == i)).length + 1 = l.length := by
                intro l
                induction l with
                | nil => intro _ h; cases h
                | cons x l ihl =>
                  intro hn' hm
                  rw [List.nodup_cons] at hn'
                  by_cases hxi : x = i
                  · subst hxi
                    have : l.filter (fun j => !(j == x)) = l := by
                      rw [List.filter_eq_self]
                      intro y hy
                      have : y ≠ x := fun e => hn'.1 (e ▸ hy)
                      simp [this]
                    rw [List.filter_cons_of_neg (by simp), this, List.length_cons]
                  · have hm' : i ∈ l := by
                      rcases List.mem_cons.1 hm with h | h
                      · exact absurd h.symm hxi
                      · exact h
                    rw [List.filter_cons_of_pos (by simp [hxi]), List.length_cons, ihl hn'.2 hm', List.length_cons]
              have := hcnt _ hnd' hmem
              omega)
            (fun x hx hdx j hj => by
              simp only [Bool.or_eq_true, beq_iff_eq] at hdx ⊢
              rcases hdx with h | h
              · exact .inl (hcl x hx h j hj)
              · exact .inl (hdep j (h ▸ hj)))
            (fun j hj hdj => by
              simp only [Bool.or_eq_true, beq_iff_eq] at hdj
              refine hGc j f _ _ _ (fun k hk => by simp [hfd j hj hdj k hk]) ?_
              by_cases hji : j = i
              · subst hji; simpa using hGv
              · simp only [hji, if_false]
                exact hG j hj (by simpa [hji] using hdj))
            (by
              have := fold_more L (fun m i => g i + m) hnd done (fun j => done j || j == i) (fun (m0 : MS) j => (if j = i then m else g j) + m0) i hiL hdi (fun _ => rfl)
                (fun j b hdj => by
                  have : j ≠ i := fun e => by rw [e, hdi] at hdj; cases hdj
                  simp [this]) (fun x _ y _ _ b => by ac_rfl) F0
              rw [this, hM']
              simpa using hw2)
            (hE.trans hE2)
          have e1 := fold_more L (putL ops f) hnd done (fun j => done j || j == i) (putL ops (fun j => if j = i then v else f j)) i hiL hdi (fun _ => rfl)
            (fun j b hdj => by
              have : j ≠ i := fun e => by rw [e, hdi] at hdj; cases hdj
              simp [putL, this]) (fun x hx y hy hxy b => put_comm b _ _ _ _ (hdst x hx y hy hxy)) a
          have e2 := fold_more L (fun (b : Array Bool) i => b.setIfInBounds i true) hnd done (fun j => done j || j == i) (fun (b : Array Bool) i => b.setIfInBounds i true) i hiL hdi (fun _ => rfl)
            (fun j b hdj => rfl) (fun x hx y hy hxy b => (Array.setIfInBounds_comm _ _ hxy)) listed
          rw [e1, markAll, e2] at ih'
          have e3 : putL ops (fun j => if j = i then v else f j) ((L.filter done).foldl (putL ops f) a) i = ((L.filter done).foldl (putL ops f) a).put o.dst v := by
            simp [putL, hdo, hd]
          rw [e3] at ih'
          exact ih'
  have h0 := key L.length (fun _ => false) (fun _ => undef) (fun _ => 0) w (by simp) (fun i _ h => by cases h) (fun i _ h => by cases h) (by rw [List.filter_eq_nil_iff.2 (fun _ _ h => by cases h)]; exact hH0) (Ext.refl w)
  have e0 : L.filter (fun _ => false) = [] := by simp
  rw [e0] at h0
  exact h0

/-- Quiet operations ahead of the group. -/
def wpPre (P : Program) (ops : Array Oper) (S : World → Prop) (T : Act → World → Prop) : List Nat → Act → World → Prop
  | [], a, w => T a w
  | i :: rest, a, w => S w ∧ ∃ o v, ops[i]? = some o ∧ YieldsIf P ops S o v a ∧ wpPre P ops S T rest (a.put o.dst v) w
def okPre (md : Region.Mode) (ops : Array Oper) (last : Option Nat) : List Nat → Array Bool → Bool
  | [], _ => true
  | i :: rest, listed => waits md ops last listed i && (Region.ready md ops listed).contains i && Region.free md ops listed i && okPre md ops last rest (listed.setIfInBounds i true)
theorem pre_any (hsel : Region.noSelect ops = true) (hQ : ∀ c a d u w, Q (.panic c) (Act.put a d u) w → Q (.panic c) a w) (n : Nat) (T : Act → World → Prop) :
    ∀ (pre : List Nat) (listed : Array Bool) (a : Act) (w : World), okPre md ops last pre listed = true → (∀ a w, T a w → wpAnyL P md ops Q S last n (markAll pre listed) a w) → wpPre P ops S T pre a w → wpAnyL P md ops Q S last (pre.length + n) listed a w
  | [], listed, a, w, _, hT, h => by rw [List.length_nil, Nat.zero_add]; exact hT a w h
  | i :: rest, listed, a, w, ho, hT, h => by
    simp only [okPre, Bool.and_eq_true] at ho
    obtain ⟨⟨⟨h1, h2⟩, h3⟩, h4⟩ := ho
    obtain ⟨hS, o, v, hi, hy, hK⟩ := h
    rw [List.length_cons, show rest.length + 1 + n = (rest.length + n) + 1 by omega]
    exact wpAnyL_first hi hsel hQ _ _ _ _ h1 h3 (by simpa using h2) hy hS (pre_any hsel hQ n T rest _ _ _ h4 hT hK)

theorem wp_region_grp {id : Nat} {a : Act} {w : World} (S : World → Prop) (last : Option Nat) (pre : List Nat) (deps : List (Nat × List Nat)) (L : List Nat) (ord : List (Nat × Bool)) (hm : P.follows .mixedOrders = true) (hl : pre.length + (L.length + ord.length) = ops.size)
    (hsel : Region.noSelect ops = true) (hpre : okPre .any ops last pre (Array.replicate ops.size false) = true) (hgrp : okGrp .any ops deps L (markAll pre (Array.replicate ops.size false)) = true)
    (ho : okOrd .any ops last ord (markAll L (markAll pre (Array.replicate ops.size false))) = true) (hnd : (L.Nodup ∧ ∀ x ∈ L, ∀ y ∈ L, x ≠ y → dstOf ops x ≠ dstOf ops y) ∧ ∀ i ∈ L, some i ≠ last) (hQ : PanicOk Q)
    (h : wpPre P ops S (Grp P ops Q S last deps L ord) pre a w.drew) : (Code.region id ops true).wp P Q a w :=
  wp_region_any hm (wpAny_of_L _ _ _ _ (hl ▸ pre_any hsel hQ _ _ pre _ _ _ hpre (fun a w hT => grp_any deps L hnd.1.1 hnd.1.2 hnd.2 _ hgrp hsel hQ ord ho a w hT) h))

variable {i : Nat} {o : Oper} {tl : List Oper} {rest : List Nat} {a : Act} {w : World} {T : Act → World → Prop}
theorem pre_quiet (v : Value) (hS : S w) (hi : ops.toList.drop i = o :: tl) (hg : Region.wanted o (yielded ops a.tmps) = true) (hy : ∀ w, S w → (execOp a.eval o).run P w = .ok (.value v) w)
    (h : wpPre P ops S T rest (a.put o.dst v) w) : wpPre P ops S T (i :: rest) a w := ⟨hS, o, v, at_drop hi, Or.inl ⟨hg, hy⟩, h⟩
theorem pre_done (h : T a w) : wpPre P ops S T [] a w := h
end
attribute [irreducible] wpPre
end Go.Proofs.YtcdhimnmbpllgaaDoor

/-
  A region that draws its order, walked in one order of the prover's choice: quiet operations (they yield one value in every world that meets S) early, the others one behind the other; behind each of these, but behind one named last, S is shown anew.
-/
import Derived.Test.YtnkgfgkgepadhaaRows1
import Derived.OrdersHeld
namespace Go.Proofs.Ytnkgfgkgepadhaa
open Go.RowKit
set_option linter.unusedVariables false

section
variable {P : Program} {ops : Array Oper} {Q : Exit → Act → World → Prop} {md : Region.Mode} {S : World → Prop} {last : Option Nat}

/-- Whatever order is picked; S holds behind each operation but the last. -/
def wpAnyL (P : Program) (md : Region.Mode) (ops : Array Oper) (Q : Exit → Act → World → Prop) (S : World → Prop) (last : Option Nat) : Nat → Array Bool → Act → World → Prop
  | 0, listed, a, w => Region.ready md ops listed = [] ∧ Q .normal a w
  | n + 1, listed, a, w => (Region.ready md ops listed = [] → Q .normal a w) ∧
      ∀ i ∈ Region.ready md ops listed, wpOp P ops Q i (fun a' w' => (some i ≠ last → S w') ∧ wpAnyL P md ops Q S last n (listed.setIfInBounds i true) a' w') a w
theorem wpAny_of_L : ∀ (n : Nat) (listed : Array Bool) (a : Act) (w : World), wpAnyL P md ops Q S last n listed a w → wpAny P md ops Q n listed a w
  | 0, _, _, _, h => h
  | n + 1, _, _, _, h => ⟨h.1, fun i hi => wpOp_mono (fun a' w' h' => wpAny_of_L n _ a' w' h'.2) (h.2 i hi)⟩

/-- Does number x wait for number y? -/
def edge (md : Region.Mode) (ops : Array Oper) (x y : Nat) : Bool :=
  match ops[x]? with
  | some o => o.after.any fun e => Region.binds md e && e.on == y
  | none => false
/-- The one named last waits for number i, or for one that waits for it and has not come up. -/
def waits (md : Region.Mode) (ops : Array Oper) (last : Option Nat) (listed : Array Bool) (i : Nat) : Bool :=
  match last with
  | none => true
  | some l => (List.range ops.size).any fun m => !(listed.getD m true) && edge md ops l m && (m == i || edge md ops m i)
theorem edge_ready {x y : Nat} {listed : Array Bool} (h : edge md ops x y = true) (hx : x ∈ Region.ready md ops listed) : listed.getD y false = true := by
  obtain ⟨_, o, ho, hall⟩ := mem_ready.1 hx
  simp only [edge, ho] at h
  obtain ⟨e, he, hb⟩ := Array.any_eq_true'.1 h
  simp only [Bool.and_eq_true, beq_iff_eq] at hb
  rw [← hb.2]
  exact hall e he hb.1
theorem unlisted {i : Nat} {listed : Array Bool} (h : listed.getD i true = false) : listed.getD i false = false := by
  rcases Nat.lt_or_ge i listed.size with h' | h'
  · simp [h'] at h ⊢; exact h
  · simp [Array.getElem?_eq_none h'] at h

theorem wpAnyL_first {i : Nat} {oi : Oper} {v : Value} (hi : ops[i]? = some oi) (hsel : Region.noSelect ops = true) 
    (hQ : ∀ c a d u w, Q (.panic c) (Act.put a d u) w → Q (.panic c) a w) :
    ∀ (n : Nat) (listed : Array Bool) (a : Act) (w : World), waits md ops last listed i = true → Region.free md ops listed i = true → i ∈ Region.ready md ops listed → YieldsIf P ops S oi v a → S w →
      wpAnyL P md ops Q S last n (listed.setIfInBounds i true) (a.put oi.dst v) w → wpAnyL P md ops Q S last (n + 1) listed a w := by
  intro n
  induction n with
  | zero =>
    intro listed a w _ _ hr hy hS H
    refine ⟨fun h => (by rw [h] at hr; cases hr), fun j hj => ?_⟩
    rcases Nat.decEq j i with hji | rfl
    · have := ready_mono hj hji
      rw [H.1] at this
      cases this
    · exact hy.wpOp hi hS ⟨fun _ => hS, H⟩
  | succ n ih =>
    intro listed a w hw hf hr hy hS H
    refine ⟨fun h => (by rw [h] at hr; cases hr), fun j hj => ?_⟩
    rcases Nat.decEq j i with hji | rfl
    · obtain ⟨hjun, oj, hoj, hall⟩ := mem_ready.1 hj
      have hun := (mem_ready.1 hr).1
      -- j does not wait for i
      have hnot : ∀ e ∈ oj.after, Region.binds md e = true → e.on ≠ i := fun e he hb heq => by
        have h1 := hall e he hb
        rw [heq, unlisted hun] at h1
        cases h1
      have hj0 : edge md ops j i = false := by
        cases hji' : edge md ops j i
        · rfl
        · have := edge_ready hji' hj
          rw [unlisted hun] at this
          cases this
      have hjl : some j ≠ last := fun e => by
        subst e
        simp only [waits, List.any_eq_true, Bool.and_eq_true, Bool.not_eq_true'] at hw
        obtain ⟨m, _, ⟨hm1, hm2⟩, _⟩ := hw
        have := edge_ready hm2 hj
        rw [unlisted hm1] at this
        cases this
      have hw' : waits md ops last (listed.setIfInBounds j true) i = true := by
        cases last with
        | none => rfl
        | some l =>
          simp only [waits, List.any_eq_true, Bool.and_eq_true, Bool.not_eq_true'] at hw ⊢
          obtain ⟨m, hm0, ⟨hm1, hm2⟩, hm3⟩ := hw
          refine ⟨m, hm0, ⟨?_, hm2⟩, hm3⟩
          have hjm : j ≠ m := fun e => by
            subst e
            rw [hj0] at hm3
            simp [hji] at hm3
          rw [getD_set_ne true hjm]
          exact hm1
      have h1 := H.2 j (ready_mono hj hji)
      have hap := Region.free_spec hi hf j oj hoj hji hjun hnot
      have h2 := wpOp_putIf hoj hap (fun cs b => Region.noSelect_spec hsel i oi cs b hi) (fun cs b => Region.noSelect_spec hsel j oj cs b hoj) (fun c a w => hQ c a oi.dst v w) hy h1
      have hf' : Region.free md ops (listed.setIfInBounds j true) i = true := by
        unfold Region.free at hf ⊢
        simp only [hi] at hf ⊢
        simp only [List.all_eq_true] at hf ⊢
        intro k hk
        have h3 := hf k hk
        rcases Nat.decEq j k with hjk | rfl
        · rw [getD_set_ne true hjk]; exact h3
        · have hlt : j < listed.size := by
            rcases Nat.lt_or_ge j listed.size with h' | h'
            · exact h'
            · simp [Array.getElem?_eq_none h'] at hjun
          simp [hlt]
      refine wpOp_mono (fun a' w' h3 => ?_) h2
      obtain ⟨hy', hS', hK⟩ := h3
      have hS'' := hS' hjl
      refine ⟨fun _ => hS'', ih (listed.setIfInBounds j true) a' w' hw' hf' (ready_mono hr (Ne.symm hji)) hy' hS'' ?_⟩
      rw [Array.setIfInBounds_comm _ _ hji]
      exact hK
    · exact hy.wpOp hi hS ⟨fun _ => hS, H⟩

/-- One order of the region's operations: true: quiet. -/
def wpTxt (P : Program) (ops : Array Oper) (Q : Exit → Act → World → Prop) (S : World → Prop) (last : Option Nat) : List (Nat × Bool) → Act → World → Prop
  | [], a, w => Q .normal a w
  | (i, true) :: rest, a, w => S w ∧ ∃ o v, ops[i]? = some o ∧ YieldsIf P ops S o v a ∧ wpTxt P ops Q S last rest (a.put o.dst v) w
  | (i, false) :: rest, a, w => wpOp P ops Q i (fun a' w' => (some i ≠ last → S w') ∧ wpTxt P ops Q S last rest a' w') a w
/-- Is the order a fit one? -/
def okOrd (md : Region.Mode) (ops : Array Oper) (last : Option Nat) : List (Nat × Bool) → Array Bool → Bool
  | [], listed => (Region.ready md ops listed).isEmpty
  | (i, true) :: rest, listed => waits md ops last listed i && (Region.ready md ops listed).contains i && Region.free md ops listed i && okOrd md ops last rest (listed.setIfInBounds i true)
  | (i, false) :: rest, listed => (Region.ready md ops listed == [i]) && okOrd md ops last rest (listed.setIfInBounds i true)
theorem wpAnyL_of_txt (hsel : Region.noSelect ops = true) (hQ : ∀ c a d u w, Q (.panic c) (Act.put a d u) w → Q (.panic c) a w) :
    ∀ (ord : List (Nat × Bool)) (listed : Array Bool) (a : Act) (w : World), okOrd md ops last ord listed = true → wpTxt P ops Q S last ord a w → wpAnyL P md ops Q S last ord.length listed a w
  | [], listed, a, w, ho, h => ⟨by simpa [okOrd] using ho, h⟩
  | (i, true) :: rest, listed, a, w, ho, h => by
    simp only [okOrd, Bool.and_eq_true] at ho
    obtain ⟨⟨⟨h1, h2⟩, h3⟩, h4⟩ := ho
    obtain ⟨hS, o, v, hi, hy, hK⟩ := h
    exact wpAnyL_first hi hsel hQ _ _ _ _ h1 h3 (by simpa using h2) hy hS (wpAnyL_of_txt hsel hQ rest _ _ _ h4 hK)
  | (i, false) :: rest, listed, a, w, ho, h => by
    simp only [okOrd, Bool.and_eq_true, beq_iff_eq] at ho
    obtain ⟨h1, h2⟩ := ho
    refine ⟨fun h0 => (by rw [h1] at h0; cases h0), fun j hj => ?_⟩
    rw [h1] at hj
    obtain rfl : j = i := by simpa using hj
    exact wpOp_mono (fun a' w' h' => ⟨h'.1, wpAnyL_of_txt hsel hQ rest _ _ _ h2 h'.2⟩) h
theorem put_defers (a : Act) (d : Option Tmp) (u : Value) : (a.put d u).defers = a.defers := by cases d <;> rfl
/-- The post of a function at a panic does not hang on a slot. -/
theorem panic_put {fn : Func} {R : Ending → World → Prop} {c : List PanicEntry} {a : Act} {d : Option Tmp} {u : Value} {w : World} (h : bodyPost P fn R (.panic c) (a.put d u) w) : bodyPost P fn R (.panic c) a w :=
  ⟨(put_defers a d u) ▸ h.1, h.2⟩

/-- The post at a panic does not hang on a slot. -/
def PanicOk (Q : Exit → Act → World → Prop) : Prop := ∀ c a d u w, Q (.panic c) (Act.put a d u) w → Q (.panic c) a w
theorem PanicOk.body (P : Program) (fn : Func) (R : Ending → World → Prop) : PanicOk (bodyPost P fn R) := fun _ _ _ _ _ h => panic_put h
theorem PanicOk.thn {K : Act → World → Prop} {Q : Exit → Act → World → Prop} (h : PanicOk Q) : PanicOk (Exit.then K Q) := h
theorem PanicOk.blk {n : Nat} {Q : Exit → Act → World → Prop} (h : PanicOk Q) : PanicOk (Exit.inBlock n Q) := h

theorem wp_region_txt {id : Nat} {a : Act} {w : World} (S : World → Prop) (last : Option Nat) (ord : List (Nat × Bool)) (hm : P.follows .mixedOrders = true) (hl : ord.length = ops.size) (hsel : Region.noSelect ops = true)
    (ho : okOrd .any ops last ord (Array.replicate ops.size false) = true) (hQ : PanicOk Q)
    (h : wpTxt P ops Q S last ord a w.drew) : (Code.region id ops true).wp P Q a w :=
  wp_region_any hm (wpAny_of_L _ _ _ _ (hl ▸ wpAnyL_of_txt hsel hQ ord _ _ _ ho h))


/-! ### The steps -/
theorem at_drop {ops : Array Oper} {i : Nat} {o : Oper} {tl : List Oper} (h : ops.toList.drop i = o :: tl) : ops[i]? = some o := by
  have : (ops.toList.drop i)[0]? = some o := by rw [h]; rfl
  rw [List.getElem?_drop] at this
  simpa using this
variable {i : Nat} {o : Oper} {tl : List Oper} {rest : List (Nat × Bool)} {a : Act} {w : World}
/-- A quiet operation. -/
theorem txt_quiet (v : Value) (hS : S w) (hi : ops.toList.drop i = o :: tl) (hg : Region.wanted o (yielded ops a.tmps) = true) (hy : ∀ w, S w → (execOp a.eval o).run P w = .ok (.value v) w)
    (h : wpTxt P ops Q S last rest (a.put o.dst v) w) : wpTxt P ops Q S last ((i, true) :: rest) a w := ⟨hS, o, v, at_drop hi, Or.inl ⟨hg, hy⟩, h⟩
/-- A quiet operation that is not wanted (its guard says no). -/
theorem txt_off (hS : S w) (hi : ops.toList.drop i = o :: tl) (hg : Region.wanted o (yielded ops a.tmps) = false)
    (h : wpTxt P ops Q S last rest (a.put o.dst undef) w) : wpTxt P ops Q S last ((i, true) :: rest) a w := ⟨hS, o, undef, at_drop hi, Or.inr ⟨hg, rfl⟩, h⟩
/-- 'Oper.wp', closed to unfolding: else Lean runs the operation wherever it looks at the goal. -/
def opWp (P : Program) (o : Oper) (a : Act) (w : World) (K : Act → World → Prop) (Q : Exit → Act → World → Prop) : Prop := o.wp P a w K Q
/-- Any other. -/
theorem txt_op (hi : ops.toList.drop i = o :: tl) (hg : Region.wanted o (yielded ops a.tmps) = true)
    (h : opWp P o a w (fun a' w' => (some i ≠ last → S w') ∧ wpTxt P ops Q S last rest a' w') Q) : wpTxt P ops Q S last ((i, false) :: rest) a w := by
  unfold wpTxt wpOp
  simp only [at_drop hi, hg, if_true]
  exact Or.inl h
theorem txt_done (h : Q .normal a w) : wpTxt P ops Q S last [] a w := h
end
section
variable {P : Program} {w : World} {o : Oper} {a : Act} {K : Act → World → Prop} {Q : Exit → Act → World → Prop}
theorem op_of (h : o.wp P a w K Q) : opWp P o a w K Q := h
/-- A call of a Go function. -/
theorem op_call (f : FuncId) (vals : Array Value) (v : World) (hrun : (execOp a.eval o).run P w = .ok (.enter f vals) v) (R : Ending → World → Prop)
    (hc : Calls P f vals v R) (h : ∀ e w', R e w' → ∃ x, e = .returned x ∧ K (a.put o.dst x) w') : opWp P o a w K Q := by
  unfold opWp Oper.wp
  rw [hrun]
  exact hc.mono fun e w' hR => by
    obtain ⟨x, rfl, hK⟩ := h e w' hR
    exact hK
/-- An operation that makes memory, or whose run is known. -/
theorem op_run (v : Value) (w' : World) (hrun : (execOp a.eval o).run P w = .ok (.value v) w') (h : K (a.put o.dst v) w') : opWp P o a w K Q := by
  unfold opWp Oper.wp
  rw [hrun]
  exact h
theorem op_append_sl (s x : Operand) (t : TypeId)
    (ho : o.op = .call { callee := .builtin .append, args := #[s, x], argTypes := #[t, t] })
    (e : TypeId) (z : Value) (sz bytes : Nat) (ht : P.underlying t = some (.slice e)) (hi : (P.info? e).map (fun i => (i.zero, i.size, i.bytes)) = some (some z, sz, bytes)) (hzs : z.cells.size = sz)
    (v : Value) (hs : a.eval s = v) (ao : Option Addr) (k c : Nat) (hx : a.eval x = .slice ao k c)
    (n : Nat) (xs : List Value) (m F : MS) (hown : Sl e sz v n xs m) (hH : Has w (m + F))
    (news : List Value) (hl : news.length = k * sz) (hnone : ao = none → k = 0) (hnews : ∀ a, ao = some a → ∀ j u, news[j]? = some u → w.cell? (a.add j) = some u) (h1 : ∀ u ∈ news, u.oneCell' = true)
    (h63 : n + k ≤ maxLen) (hbytes : (n + k) * bytes ≤ 140737488355328)
    (h : ∀ v' w' m', Sl e sz v' (n + k) (xs ++ news) m' → Has w' (m' + F) → Ext w w' → K (a.put o.dst v') w') : opWp P o a w K Q :=
  wp_append_sl s x t ho e z sz bytes ht hi hzs v hs ao k c hx n xs m F hown hH news hl hnone hnews h1 h63 hbytes h
theorem op_store_blk (ad x : Operand) (t : TypeId) (ho : o.op = .store t ad x) (ht : (P.info? t).map (·.size) = some 1)
    (b i : Nat) (u : Value) (ha : a.eval ad = .pointer (some ⟨b, i, none⟩)) (hx : a.eval x = u) (h1 : u.oneCell' = true)
    (cur : Array Value) (e : TypeId) (F : MS) (hH : Has w (blk b cur e + F)) (hi : i < cur.size)
    (h : ∀ w', Has w' (blk b (cur.setIfInBounds i u) e + F) → Ext w w' → K (a.put o.dst undef) w') : opWp P o a w K Q :=
  wp_store_blk ad x t ho ht b i u ha hx h1 cur e F hH hi h
theorem op_make_sl (l c : Operand) (t : TypeId) (ho : o.op = Op.makeSlice t l c)
    (e : TypeId) (z : Value) (sz bytes : Nat) (ht : P.underlying t = some (.slice e)) (hi : (P.info? e).map (fun i => (i.zero, i.size, i.bytes)) = some (some z, sz, bytes))
    (kl kc : IntKind) (n : Nat) (hl : a.eval l = .int kl (n : Int)) (hc : a.eval c = .int kc (n : Int)) (hb : bytes * n ≤ 281474976710656) (hm : n ≤ maxLen) (F : MS) (hH : Has w F)
    (h : ∀ v w' m', Sl e sz v n (madeCells z.cells (n * sz)).toList m' → Has w' (m' + F) → Ext w w' → (∃ ad c, v = .slice (some ad) n c) → K (a.put o.dst v) w') : opWp P o a w K Q :=
  wp_make_sl l c t ho e z sz bytes ht hi kl kc n hl hc hb hm F hH h
end
attribute [irreducible] opWp wpTxt
end Go.Proofs.Ytnkgfgkgepadhaa

/-
  A region that draws its order, at which two operations with effects may come up side by side: walked along a tree of orders.
-/
import Derived.Test.YtcdhimnmbpllgaaDoorDraw
namespace Go.Proofs.YtcdhimnmbpllgaaDoor
open Go.RowKit
set_option linter.unusedVariables false

inductive OrdT where
  | done
  | quiet (i : Nat) (t : OrdT)
  | one (i : Nat) (t : OrdT)
  | two (i j : Nat) (ti tj : OrdT)
section
variable {P : Program} {ops : Array Oper} {Q : Exit → Act → World → Prop} {md : Region.Mode} {S : World → Prop} {last : Option Nat}
def wpTree (P : Program) (ops : Array Oper) (Q : Exit → Act → World → Prop) (S : World → Prop) (last : Option Nat) : OrdT → Act → World → Prop
  | .done, a, w => Q .normal a w
  | .quiet i t, a, w => S w ∧ ∃ o v, ops[i]? = some o ∧ YieldsIf P ops S o v a ∧ wpTree P ops Q S last t (a.put o.dst v) w
  | .one i t, a, w => wpOp P ops Q i (fun a' w' => (some i ≠ last → S w') ∧ wpTree P ops Q S last t a' w') a w
  | .two i j ti tj, a, w => wpOp P ops Q i (fun a' w' => (some i ≠ last → S w') ∧ wpTree P ops Q S last ti a' w') a w ∧ wpOp P ops Q j (fun a' w' => (some j ≠ last → S w') ∧ wpTree P ops Q S last tj a' w') a w
def okTree (md : Region.Mode) (ops : Array Oper) (last : Option Nat) : Nat → OrdT → Array Bool → Bool
  | 0, .done, listed => (Region.ready md ops listed).isEmpty
  | n + 1, .quiet i t, listed => waits md ops last listed i && (Region.ready md ops listed).contains i && Region.free md ops listed i && okTree md ops last n t (listed.setIfInBounds i true)
  | n + 1, .one i t, listed => (Region.ready md ops listed == [i]) && okTree md ops last n t (listed.setIfInBounds i true)
  | n + 1, .two i j ti tj, listed => (Region.ready md ops listed == [i, j]) && (okTree md ops last n ti (listed.setIfInBounds i true) && okTree md ops last n tj (listed.setIfInBounds j true))
  | _, _, _ => false
theorem wpAnyL_of_tree (hsel : Region.noSelect ops = true) (hQ : ∀ c a d u w, Q (.panic c) (Act.put a d u) w → Q (.panic c) a w) :
    ∀ (n : Nat) (t : OrdT) (listed : Array Bool) (a : Act) (w : World), okTree md ops last n t listed = true → wpTree P ops Q S last t a w → wpAnyL P md ops Q S last n listed a w
  | 0, .done, listed, a, w, ho, h => ⟨by simpa [okTree] using ho, h⟩
  | n + 1, .quiet i t, listed, a, w, ho, h => by
    simp only [okTree, Bool.and_eq_true] at ho
    obtain ⟨⟨⟨h1, h2⟩, h3⟩, h4⟩ := ho
    obtain ⟨hS, o, v, hi, hy, hK⟩ := h
    exact wpAnyL_first hi hsel hQ _ _ _ _ h1 h3 (by simpa using h2) hy hS (wpAnyL_of_tree hsel hQ n t _ _ _ h4 hK)
  | n + 1, .one i t, listed, a, w, ho, h => by
    simp only [okTree, Bool.and_eq_true, beq_iff_eq] at ho
    obtain ⟨h1, h2⟩ := ho
    refine ⟨fun h0 => (by rw [h1] at h0; cases h0), fun j hj => ?_⟩
    rw [h1] at hj
    rw [List.mem_singleton.1 hj]
    exact wpOp_mono (fun a' w' h' => ⟨h'.1, wpAnyL_of_tree hsel hQ n t _ _ _ h2 h'.2⟩) h
  | n + 1, .two i j ti tj, listed, a, w, ho, h => by
    simp only [okTree, Bool.and_eq_true, beq_iff_eq] at ho
    obtain ⟨h1, h2, h3⟩ := ho
    refine ⟨fun h0 => (by rw [h1] at h0; cases h0), fun x hx => ?_⟩
    rw [h1] at hx
    simp only [List.mem_cons, List.not_mem_nil, or_false] at hx
    rcases hx with rfl | rfl
    · exact wpOp_mono (fun a' w' h' => ⟨h'.1, wpAnyL_of_tree hsel hQ n ti _ _ _ h2 h'.2⟩) h.1
    · exact wpOp_mono (fun a' w' h' => ⟨h'.1, wpAnyL_of_tree hsel hQ n tj _ _ _ h3 h'.2⟩) h.2
  | 0, .quiet _ _, _, _, _, ho, _ => by simp [okTree] at ho
  | 0, .one _ _, _, _, _, ho, _ => by simp [okTree] at ho
  | 0, .two _ _ _ _, _, _, _, ho, _ => by simp [okTree] at ho
  | n + 1, .done, _, _, _, ho, _ => by simp [okTree] at ho
theorem wp_region_tree {id : Nat} {a : Act} {w : World} (S : World → Prop) (last : Option Nat) (t : OrdT) (hm : P.follows .mixedOrders = true) (hsel : Region.noSelect ops = true)
    (ho : okTree .any ops last ops.size t (Array.replicate ops.size false) = true) (hQ : PanicOk Q)
    (h : wpTree P ops Q S last t a w.drew) : (Code.region id ops true).wp P Q a w :=
  wp_region_any hm (wpAny_of_L _ _ _ _ (wpAnyL_of_tree hsel hQ ops.size t _ _ _ ho h))
variable {i j : Nat} {o : Oper} {tl : List Oper} {t ti tj : OrdT} {a : Act} {w : World}
theorem tree_quiet (v : Value) (hS : S w) (hi : ops.toList.drop i = o :: tl) (hg : Region.wanted o (yielded ops a.tmps) = true) (hy : ∀ w, S w → (execOp a.eval o).run P w = .ok (.value v) w)
    (h : wpTree P ops Q S last t (a.put o.dst v) w) : wpTree P ops Q S last (.quiet i t) a w := ⟨hS, o, v, at_drop hi, Or.inl ⟨hg, hy⟩, h⟩
theorem tree_op (hi : ops.toList.drop i = o :: tl) (hg : Region.wanted o (yielded ops a.tmps) = true)
    (h : opWp P o a w (fun a' w' => (some i ≠ last → S w') ∧ wpTree P ops Q S last t a' w') Q) : wpTree P ops Q S last (.one i t) a w := by
  unfold wpTree wpOp
  simp only [at_drop hi, hg, if_true]
  exact Or.inl (by unfold opWp at h; exact h)
theorem tree_two (h1 : wpTree P ops Q S last (.one i ti) a w) (h2 : wpTree P ops Q S last (.one j tj) a w) : wpTree P ops Q S last (.two i j ti tj) a w := by
  unfold wpTree at h1 h2 ⊢
  exact ⟨h1, h2⟩
theorem tree_done (h : Q .normal a w) : wpTree P ops Q S last .done a w := h
end
attribute [irreducible] wpTree
end Go.Proofs.YtcdhimnmbpllgaaDoor

/-
  Plain: the matching as it is made: what a try does, what it keeps. Plain: what is reached from a cell alone.
-/
import Derived.Test.YtcdhimnmbpllgaaDoorRPlain
import Derived.Test.YtcdhimnmbpllgaaDoorDMap
import Derived.Test.YtcdhimnmbpllgaaDoorDC1
import Derived.Test.YtcdhimnmbpllgaaDoorDK5
namespace Go.Proofs.YtcdhimnmbpllgaaDoor
open Go.RowKit
set_option linter.unusedVariables false
set_option linter.unusedSimpArgs false
set_option maxHeartbeats 1000000

abbrev Cl := Int × Int
abbrev Mates := List (Cl × Cl)
def lk2 : Mates → Cl → Option Cl
  | [], _ => none
  | (a, v) :: s, q => if a = q then some v else lk2 s q
def pt2 : Mates → Cl → Cl → Mates
  | [], q, v => [(q, v)]
  | (a, u) :: s, q, v => if a = q then (a, v) :: s else (a, u) :: pt2 s q v
def mE (m : Mates) : Ents := m.map fun x => (x.1, pairV x.2)
theorem lkM_mE : ∀ (m : Mates) (q : Cl), lkM (mE m) q = (lk2 m q).map pairV
  | [], q => rfl
  | (a, v) :: s, q => by
    show lkM ((a, pairV v) :: mE s) q = _
    unfold lkM lk2
    by_cases h : a = q
    · rw [if_pos h, if_pos h]; rfl
    · rw [if_neg h, if_neg h]; exact lkM_mE s q
theorem ptM_mE : ∀ (m : Mates) (q v : Cl), ptM (mE m) q (pairV v) = mE (pt2 m q v)
  | [], q, v => rfl
  | (a, u) :: s, q, v => by
    show ptM ((a, pairV u) :: mE s) q (pairV v) = _
    unfold ptM pt2
    by_cases h : a = q
    · rw [if_pos h, if_pos h]; rfl
    · rw [if_neg h, if_neg h, ptM_mE s q v]; rfl
theorem lk2_pt2 (m : Mates) (q q' v : Cl) : lk2 (pt2 m q v) q' = if q = q' then some v else lk2 m q' := by
  induction m with
  | nil => rfl
  | cons x m ih =>
    obtain ⟨a, u⟩ := x
    unfold pt2
    by_cases h : a = q
    · rw [if_pos h]
      unfold lk2
      subst h
      by_cases h2 : a = q'
      · rw [if_pos h2, if_pos h2]
      · rw [if_neg h2, if_neg h2, if_neg h2]
    · rw [if_neg h]
      unfold lk2
      rw [ih]
      by_cases h2 : a = q'
      · rw [if_pos h2, if_pos h2, if_neg (fun e => h (h2.trans e.symm))]
      · rw [if_neg h2, if_neg h2]
/-- One try, over the neighbours that are left. -/
def tryL (rec : List Cl → Mates → Cl → Bool × List Cl × Mates) (c : Cl) : List Cl → List Cl → Mates → Bool × List Cl × Mates
  | [], seen, m => (false, seen, m)
  | x :: xs, seen, m =>
    if x ∈ seen then tryL rec c xs seen m
    else match lk2 m x with
      | none => (true, seen ++ [x], pt2 (pt2 m x c) c x)
      | some b => if (rec (seen ++ [x]) m b).1 then (true, (rec (seen ++ [x]) m b).2.1, pt2 (pt2 (rec (seen ++ [x]) m b).2.2 x c) c x)
        else tryL rec c xs (rec (seen ++ [x]) m b).2.1 (rec (seen ++ [x]) m b).2.2
def tryF (p : List ByteArray) : Nat → List Cl → Mates → Cl → Bool × List Cl × Mates
  | 0 => fun s m _ => (false, s, m)
  | n + 1 => fun s m c => tryL (tryF p n) c (nbrsL p c) s m
/-- A cell of the region. -/
def inR (p : List ByteArray) (q : Cl) : Prop := hsI p q.1 q.2 = true
/-- What holds of the cells that are seen, and of the mates. -/
structure TInv (p : List ByteArray) (seen : List Cl) (m : Mates) : Prop where
  nd : seen.Nodup
  ins : ∀ x ∈ seen, inR p x
  key : ∀ q b, lk2 m q = some b → inR p q
  val : ∀ q b, lk2 m q = some b → inR p b
theorem nbr_in {p : List ByteArray} {q x : Cl} (h : x ∈ nbrsL p q) : inR p x := by
  unfold nbrsL nbrsK at h
  obtain ⟨i, hi, rfl⟩ := List.mem_map.1 h
  exact (List.mem_filter.1 hi).2
theorem TInv.see {p : List ByteArray} {seen : List Cl} {m : Mates} (h : TInv p seen m) {x : Cl} (hx : inR p x) (hn : ¬ x ∈ seen) : TInv p (seen ++ [x]) m :=
  ⟨by
    rw [List.nodup_append]
    exact ⟨h.nd, by simp, fun a ha b hb => by rw [List.mem_singleton] at hb; subst hb; exact fun e => hn (e ▸ ha)⟩, fun y hy => by
    rcases List.mem_append.1 hy with hy | hy
    · exact h.ins y hy
    · rw [List.mem_singleton] at hy; subst hy; exact hx, h.key, h.val⟩
theorem TInv.put {p : List ByteArray} {seen : List Cl} {m : Mates} (h : TInv p seen m) {a b : Cl} (ha : inR p a) (hb : inR p b) : TInv p seen (pt2 m a b) :=
  ⟨h.nd, h.ins, fun q v hq => by
    rw [lk2_pt2] at hq
    split at hq
    · rename_i e; rw [← e]; exact ha
    · exact h.key q v hq, fun q v hq => by
    rw [lk2_pt2] at hq
    split at hq
    · injection hq with hq; rw [← hq]; exact hb
    · exact h.val q v hq⟩
theorem tryL_inv {p : List ByteArray} {rec : List Cl → Mates → Cl → Bool × List Cl × Mates} {c : Cl} (hc : inR p c) (hrec : ∀ s m b, TInv p s m → inR p b → TInv p (rec s m b).2.1 (rec s m b).2.2 ∧ s.length ≤ (rec s m b).2.1.length) :
    ∀ (xs : List Cl) (seen : List Cl) (m : Mates), (∀ x ∈ xs, inR p x) → TInv p seen m → TInv p (tryL rec c xs seen m).2.1 (tryL rec c xs seen m).2.2 ∧ seen.length ≤ (tryL rec c xs seen m).2.1.length
  | [], seen, m, _, h => ⟨h, Nat.le_refl _⟩
  | x :: xs, seen, m, hx, h => by
    have hx0 := hx x (List.mem_cons_self ..)
    have hxs := fun y hy => hx y (List.mem_cons_of_mem _ hy)
    unfold tryL
    split
    · exact tryL_inv hc hrec xs seen m hxs h
    · rename_i hn
      have h1 := h.see hx0 hn
      split
      · exact ⟨(h1.put hx0 hc).put hc hx0, by simp⟩
      · rename_i b hb
        obtain ⟨k1, k2⟩ := hrec _ m b h1 (h.val _ _ hb)
        rw [List.length_append, List.length_singleton] at k2
        split
        · exact ⟨(k1.put hx0 hc).put hc hx0, by simp only; omega⟩
        · obtain ⟨j1, j2⟩ := tryL_inv hc hrec xs _ _ hxs k1
          exact ⟨j1, by omega⟩
theorem tryF_inv {p : List ByteArray} : ∀ (n : Nat) (s : List Cl) (m : Mates) (c : Cl), TInv p s m → inR p c → TInv p (tryF p n s m c).2.1 (tryF p n s m c).2.2 ∧ s.length ≤ (tryF p n s m c).2.1.length
  | 0, s, m, c, h, hc => ⟨h, Nat.le_refl _⟩
  | n + 1, s, m, c, h, hc => tryL_inv hc (tryF_inv n) _ s m (fun x hx => nbr_in hx) h
theorem sub_len {α : Type} [DecidableEq α] : ∀ {l l' : List α}, l.Nodup → (∀ x ∈ l, x ∈ l') → l.length ≤ l'.length
  | [], l', _, _ => by simp
  | a :: l, l', hn, hs => by
    rw [List.nodup_cons] at hn
    have ha := hs a (List.mem_cons_self ..)
    have ih := sub_len (l := l) (l' := l'.erase a) hn.2 (fun x hx => by
      have hx' := hs x (List.mem_cons_of_mem _ hx)
      have hne : x ≠ a := fun e => hn.1 (by rw [← e]; exact hx)
      rw [List.mem_erase_of_ne hne]
      exact hx')
    rw [List.length_erase_of_mem ha] at ih
    have := List.length_pos_of_mem ha
    simp only [List.length_cons]
    omega
theorem inR_len {p : List ByteArray} (hp : RegOk p) {l : List Cl} (hn : l.Nodup) (hs : ∀ x ∈ l, inR p x) : l.length ≤ 64 := by
  have h1 := sub_len hn (l' := cellsL p) (fun x hx => mem_cells.2 (hs x hx))
  have h2 := cellsK_len p p.length
  have h3 : p.length * wd p ≤ 8 * 8 := Nat.mul_le_mul hp.h8 hp.w8
  unfold cellsL at h1
  omega
theorem TInv.len {p : List ByteArray} {seen : List Cl} {m : Mates} (hp : RegOk p) (h : TInv p seen m) : seen.length ≤ 64 := inR_len hp h.nd h.ins
theorem inR_small {p : List ByteArray} (hp : RegOk p) {q : Cl} (h : inR p q) : small q := by
  unfold inR hsI at h
  simp only [Bool.and_eq_true, decide_eq_true_eq] at h
  have := hp.w8
  have := hp.h8
  unfold small
  omega
end Go.Proofs.YtcdhimnmbpllgaaDoor

namespace Go.Proofs.YtcdhimnmbpllgaaDoor
set_option linter.unusedVariables false
set_option linter.unusedSimpArgs false
set_option maxHeartbeats 1000000

structure CInv (p : List ByteArray) (MT : Mates) (G : Cl → Prop) (q0 : Cl) (out : List Cl) (at' k : Nat) : Prop where
  nd : out.Nodup
  q0 : q0 ∈ out
  good : ∀ x ∈ out, G x
  done : ∀ i x, i < at' → out[i]? = some x → ∀ n ∈ nbrsL p x, ∀ b, lk2 MT n = some b → b ∈ out
  part : ∀ x, out[at']? = some x → ∀ (j : Nat) n, j < k → (nbrsL p x)[j]? = some n → ∀ b, lk2 MT n = some b → b ∈ out
section
variable {p : List ByteArray} {MT : Mates} {G : Cl → Prop} {q0 : Cl}
theorem CInv.start (h : G q0) : CInv p MT G q0 [q0] 0 0 :=
  ⟨by simp, by simp, fun x hx => by rw [List.mem_singleton] at hx; rw [hx]; exact h, fun i x hi => by omega, fun x _ j n hj => by omega⟩
theorem insN_get {out : List Cl} {b : Cl} {i : Nat} (hi : i < out.length) : (insN out b)[i]? = out[i]? := by
  unfold insN
  split
  · rfl
  · exact List.getElem?_append_left hi
theorem CInv.ins {out : List Cl} {at' k : Nat} {x n b : Cl} (h : CInv p MT G q0 out at' k) (hx : out[at']? = some x) (hn : (nbrsL p x)[k]? = some n) (hb : lk2 MT n = some b) (hG : G b) : CInv p MT G q0 (insN out b) at' (k + 1) := by
  have hat := (List.getElem?_eq_some_iff.1 hx).1
  have hmem : ∀ y, y ∈ out → y ∈ insN out b := fun y hy => insN_mem.2 (.inl hy)
  refine ⟨insN_nodup h.nd, hmem _ h.q0, fun y hy => ?_, fun i y hi hy m hm c hc => ?_, fun y hy j m hj hm c hc => ?_⟩
  · rcases insN_mem.1 hy with hy | hy
    · exact h.good y hy
    · rw [hy]; exact hG
  · rw [insN_get (by omega)] at hy
    exact hmem _ (h.done i y hi hy m hm c hc)
  · rw [insN_get hat, hx] at hy
    injection hy with hy
    subst hy
    by_cases e : j = k
    · subst e
      rw [hn] at hm
      injection hm with hm
      subst hm
      rw [hb] at hc
      injection hc with hc
      exact insN_mem.2 (.inr hc.symm)
    · exact hmem _ (h.part x hx j m (by omega) hm c hc)
theorem CInv.next {out : List Cl} {at' k : Nat} {x : Cl} (h : CInv p MT G q0 out at' k) (hx : out[at']? = some x) (hk : (nbrsL p x).length ≤ k) : CInv p MT G q0 out (at' + 1) 0 := by
  refine ⟨h.nd, h.q0, h.good, fun i y hi hy m hm c hc => ?_, fun y _ j m hj => by omega⟩
  by_cases e : i = at'
  · subst e
    rw [hx] at hy
    injection hy with hy
    subst hy
    obtain ⟨j, hj⟩ := List.getElem?_of_mem hm
    exact h.part x hx j m (by have := (List.getElem?_eq_some_iff.1 hj).1; omega) hj c hc
  · exact h.done i y (by omega) hy m hm c hc
end
/-- What Refute hands back, ahead of the sort. -/
structure COut (p : List ByteArray) (MT : Mates) (G : Cl → Prop) (q0 : Cl) (out : List Cl) : Prop where
  nd : out.Nodup
  q0 : q0 ∈ out
  good : ∀ x ∈ out, G x
  closed : ∀ x ∈ out, ∀ n ∈ nbrsL p x, ∀ b, lk2 MT n = some b → b ∈ out
theorem CInv.fin {p : List ByteArray} {MT : Mates} {G : Cl → Prop} {q0 : Cl} {out : List Cl} (h : CInv p MT G q0 out out.length 0) : COut p MT G q0 out :=
  ⟨h.nd, h.q0, h.good, fun x hx n hn b hb => by
    obtain ⟨i, hi⟩ := List.getElem?_of_mem hx
    exact h.done i x (List.getElem?_eq_some_iff.1 hi).1 hi n hn b hb⟩
end Go.Proofs.YtcdhimnmbpllgaaDoor

/-
  Plain: the lists of cells that refute a tiling.
-/
import Derived.Test.YtcdhimnmbpllgaaDoorDQ1
import Derived.Test.YtcdhimnmbpllgaaDoorDC2
namespace Go.Proofs.YtcdhimnmbpllgaaDoor
open Go.RowKit
set_option linter.unusedVariables false
set_option linter.unusedSimpArgs false
set_option maxHeartbeats 1000000

/-- A cell put into a list of cells, if it is not there. -/
def insN (l : List (Int × Int)) (q : Int × Int) : List (Int × Int) := if q ∈ l then l else l ++ [q]
theorem insN_len (l : List (Int × Int)) (q : Int × Int) : (insN l q).length ≤ l.length + 1 := by unfold insN; split <;> simp
theorem insN_mem {l : List (Int × Int)} {q x : Int × Int} : x ∈ insN l q ↔ x ∈ l ∨ x = q := by
  unfold insN
  split
  · rename_i h
    exact ⟨Or.inl, fun h2 => h2.elim id fun e => e ▸ h⟩
  · simp
theorem insN_nodup {l : List (Int × Int)} {q : Int × Int} (h : l.Nodup) : (insN l q).Nodup := by
  unfold insN
  split
  · exact h
  · rename_i hq
    rw [List.nodup_append]
    exact ⟨h, by simp, fun a ha b hb => by rw [List.mem_singleton] at hb; subst hb; exact fun e => hq (e ▸ ha)⟩
/-- The neighbours of cells, each once. -/
def nearL (p : List ByteArray) (l : List (Int × Int)) : List (Int × Int) := l.foldl (fun acc c => (nbrsL p c).foldl insN acc) []
theorem nearL_more {p : List ByteArray} {l : List (Int × Int)} {i : Nat} {c : Int × Int} (h : l[i]? = some c) : nearL p (l.take (i + 1)) = (nbrsL p c).foldl insN (nearL p (l.take i)) := by
  unfold nearL
  rw [take_more h, List.foldl_append]
  rfl
theorem fold_more1 {l acc : List (Int × Int)} {k : Nat} {q : Int × Int} (h : l[k]? = some q) : (l.take (k + 1)).foldl insN acc = insN ((l.take k).foldl insN acc) q := by
  rw [take_more h, List.foldl_append]
  rfl
theorem foldN_len (acc : List (Int × Int)) : ∀ l : List (Int × Int), (l.foldl insN acc).length ≤ acc.length + l.length := by
  intro l
  induction l generalizing acc with
  | nil => simp
  | cons a l ih =>
    have h1 := ih (insN acc a)
    have h2 := insN_len acc a
    simp only [List.foldl_cons, List.length_cons]
    omega
theorem foldN_mem {x : Int × Int} : ∀ {l acc : List (Int × Int)}, x ∈ l.foldl insN acc ↔ x ∈ acc ∨ x ∈ l
  | [], acc => by simp
  | a :: l, acc => by
    rw [List.foldl_cons, foldN_mem, insN_mem, List.mem_cons, or_assoc]
theorem foldN_nodup : ∀ {l acc : List (Int × Int)}, acc.Nodup → (l.foldl insN acc).Nodup
  | [], _, h => h
  | a :: l, acc, h => by rw [List.foldl_cons]; exact foldN_nodup (insN_nodup h)
theorem nearF_len (p : List ByteArray) : ∀ (l acc : List (Int × Int)), (l.foldl (fun acc c => (nbrsL p c).foldl insN acc) acc).length ≤ acc.length + 4 * l.length
  | [], acc => by simp
  | a :: l, acc => by
    have h1 := nearF_len p l ((nbrsL p a).foldl insN acc)
    have h2 := foldN_len acc (nbrsL p a)
    have h3 := nbrsK_len p a 4
    unfold nbrsL at h2
    simp only [List.foldl_cons, List.length_cons]
    unfold nbrsL at *
    omega
theorem nearL_len (p : List ByteArray) (l : List (Int × Int)) : (nearL p l).length ≤ 4 * l.length := by
  have := nearF_len p l []
  unfold nearL
  simpa using this
theorem nearF_mem {p : List ByteArray} {x : Int × Int} : ∀ {l acc : List (Int × Int)}, x ∈ l.foldl (fun acc c => (nbrsL p c).foldl insN acc) acc ↔ x ∈ acc ∨ ∃ c ∈ l, x ∈ nbrsL p c
  | [], acc => by simp
  | a :: l, acc => by
    rw [List.foldl_cons, nearF_mem, foldN_mem, or_assoc]
    simp
theorem nearL_mem {p : List ByteArray} {l : List (Int × Int)} {x : Int × Int} : x ∈ nearL p l ↔ ∃ c ∈ l, x ∈ nbrsL p c := by
  unfold nearL
  rw [nearF_mem]; simp
theorem nearF_nodup {p : List ByteArray} : ∀ {l acc : List (Int × Int)}, acc.Nodup → (l.foldl (fun acc c => (nbrsL p c).foldl insN acc) acc).Nodup
  | [], _, h => h
  | a :: l, acc, h => by rw [List.foldl_cons]; exact nearF_nodup (foldN_nodup h)
theorem nearL_nodup (p : List ByteArray) (l : List (Int × Int)) : (nearL p l).Nodup := nearF_nodup List.nodup_nil
/-- Is a cell behind the one ahead of it? -/
def ordC : Option (Int × Int) → Int × Int → Bool
  | none, _ => true
  | some e, c => decide (rdC e c < 0)
theorem rdC_ge {e c : Int × Int} : 0 ≤ rdC e c ↔ (c.2 < e.2 ∨ (e.2 = c.2 ∧ c.1 ≤ e.1)) := by
  unfold rdC cmpI
  by_cases h1 : e.2 < c.2
  · simp only [h1, if_true]
    constructor
    · intro h; simp at h
    · intro h; omega
  · by_cases h2 : c.2 < e.2
    · simp [h1, h2]
    · have h3 : e.2 = c.2 := by omega
      simp only [h1, h2, if_false]
      by_cases h4 : e.1 < c.1
      · simp [h4, h3]
      · by_cases h5 : c.1 < e.1
        · simp [h4, h5, h3]; omega
        · simp [h4, h5, h3]; omega
def okR (p : List ByteArray) (b0 : Bool) (prev : Option (Int × Int)) (c : Int × Int) : Bool := hsI p c.1 c.2 && ((blackB c == b0) && ordC prev c)
def okL (p : List ByteArray) (b0 : Bool) : Option (Int × Int) → List (Int × Int) → Bool
  | _, [] => true
  | prev, c :: t => okR p b0 prev c && okL p b0 (some c) t
theorem okL_more {p : List ByteArray} {b0 : Bool} {prev : Option (Int × Int)} {t : List (Int × Int)} {i : Nat} {c : Int × Int} (h : t[i]? = some c) : okL p b0 prev (t.drop i) = (okR p b0 prev c && okL p b0 (some c) (t.drop (i + 1))) := by
  obtain ⟨hi, rfl⟩ := List.getElem?_eq_some_iff.1 h
  rw [List.drop_eq_getElem_cons hi]
  rfl
def prevC (t : List (Int × Int)) (i : Nat) : Option (Int × Int) := if i = 0 then none else t[i - 1]?
def b0L (t : List (Int × Int)) : Bool := blackB (t.getD 0 (0, 0))
/-- Do cells refute a tiling? -/
def refB (p : List ByteArray) (l : List (Int × Int)) : Bool := okL p (b0L l) none l && decide ((nearL p l).length < l.length)
end Go.Proofs.YtcdhimnmbpllgaaDoor

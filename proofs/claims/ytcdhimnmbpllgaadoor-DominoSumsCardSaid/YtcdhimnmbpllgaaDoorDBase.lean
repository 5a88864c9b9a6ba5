/-
  Regions that are read.
-/
import Derived.Test.YtcdhimnmbpllgaaDoorPPlain
import Derived.Test.YtcdhimnmbpllgaaDoorDPlain
namespace Go.Proofs.YtcdhimnmbpllgaaDoor
open Go.RowKit
set_option linter.unusedVariables false
set_option linter.unusedSimpArgs false

def RT.str : RT ByteArray := ⟨1, fun _ s cs => cs = [.string s], fun _ _ _ h => by rw [h]; rfl, fun _ _ _ _ h => h⟩
theorem RdS.getStr {F : MS} {l : List ByteArray} {A : Option Addr} {n c : Nat} (h : RdS F RT.str l (.slice A n c)) {i : Nat} {a : ByteArray} (ha : l[i]? = some a) : ∃ b o, A = some ⟨b, o, none⟩ ∧ F.at b (o + i) (.string a) := by
  obtain ⟨b, o, cs, h1, h2, h3⟩ := h.get ha (Nat.one_pos)
  obtain rfl : cs = [.string a] := h2
  exact ⟨b, o, h1, by simpa [RT.str] using h3 0 _ rfl⟩
theorem bt_eq (s : ByteArray) (i : Nat) (h : i < s.size) : ((s[i]'h).toNat : Int) = bt s i := by
  have h' : i < s.data.size := h
  unfold bt Array.getD
  rw [dif_pos h']
  rfl
theorem rd_all_str {F : MS} {w : World} {l : List ByteArray} {v : Value} (h : RdS F RT.str l v) (hH : Has w F) : RdS (MS.all w) RT.str l v := rd_all (F := F) (T := RT.str) (fun _ _ h => h) h hH
theorem Has.with_all {w w' : World} {Y F : MS} (h : Has w F) (h' : Has w' (Y + MS.all w)) : Has w' (Y + F) := fun i => by
  obtain ⟨h1, h2, h3⟩ := h i
  obtain ⟨k1, k2, k3⟩ := h' i
  simp only [MS.add_f] at k1 k2 ⊢
  have hall : F.f i ≤ (MS.all w).f i := by
    show _ ≤ (if _ then _ else _)
    split
    · exact h1
    · rename_i hn
      have : ¬ 1 ≤ F.f i := fun hh => hn (h2 hh)
      omega
  refine ⟨by omega, fun hi => k2 (by omega), fun o ho => ?_⟩
  rcases ho with (ho | ho) | (ho | ho)
  · exact k3 o (.inl (.inl ho))
  · exact k3 o (.inl (.inr (h3 o (.inl ho))))
  · exact k3 o (.inr (.inl ho))
  · exact k3 o (.inl (.inr (h3 o (.inr ho))))
/-- A region. -/
structure RegOk (p : List ByteArray) : Prop where
  h1 : 1 ≤ p.length
  h8 : p.length ≤ 8
  w1 : 1 ≤ wd p
  w8 : wd p ≤ 8
  rows : ∀ s ∈ p, s.size = wd p
/-- Is a cell in the region? -/
def hsI (p : List ByteArray) (x y : Int) : Bool := decide (0 ≤ x) && (decide (0 ≤ y) && (decide (x < wd p) && (decide (y < p.length) && (bt (p.getD y.toNat empty) x.toNat == 35))))
def hsR (p : List ByteArray) (x y : Nat) : Bool := hsI p x y
theorem hsR_in {p : List ByteArray} (x y : Nat) (h : hsR p x y = true) : x < wd p ∧ y < p.length := by
  unfold hsR hsI at h
  simp only [Bool.and_eq_true, decide_eq_true_eq] at h
  omega
/-- A region as a value. -/
def rgV (p : List ByteArray) (A : Option Addr) (c : Nat) : Value := .agg #[.int .i64 (wd p), .int .i64 p.length, .slice A p.length c]
end Go.Proofs.YtcdhimnmbpllgaaDoor

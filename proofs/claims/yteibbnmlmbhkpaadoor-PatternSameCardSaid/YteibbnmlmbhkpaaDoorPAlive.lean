/-
  Two small patterns: their lattices and names.
-/
import Derived.Test.YteibbnmlmbhkpaaDoorPName
namespace Go.Proofs.YteibbnmlmbhkpaaDoor
open Go.RowKit
set_option linter.unusedVariables false
set_option maxRecDepth 100000

def P1 : List ByteArray := [txt [97, 98], txt [98, 97]]
def P2 : List ByteArray := [txt [97, 98, 99], txt [99, 97, 98], txt [98, 99, 97]]
def G1 : Gd := ⟨1, 1, 2⟩
def G2 : Gd := ⟨1, 1, 3⟩
theorem isPat1 : isPat P1 = true := by decide +kernel
theorem isPat2 : isPat P2 = true := by decide +kernel
theorem wd1 : wd P1 = 2 := by decide +kernel
theorem wd2 : wd P2 = 3 := by decide +kernel
theorem lat1 : IsLat P1 G1 where
  d1 := by decide
  dh := by decide
  dmin y h1 h2 := by
    have : y = 1 := by simp only [G1] at h2; omega
    subst this; decide +kernel
  dhit h := absurd h (by decide)
  a1 := by decide
  aw := by rw [wd1]; decide
  bd := by decide
  amin x h1 h2 := by simp only [G1] at h2; omega
  ahit h := ⟨by decide +kernel, fun y hy => by
    have : y = 0 := by simp only [G1] at hy; omega
    subst this; decide +kernel⟩
  awd h := by rw [wd1] at h; simp only [G1] at h; omega
theorem lat2 : IsLat P2 G2 where
  d1 := by decide
  dh := by decide
  dmin y h1 h2 := by
    have : y = 1 ∨ y = 2 := by simp only [G2] at h2; omega
    rcases this with rfl | rfl <;> decide +kernel
  dhit h := absurd h (by decide)
  a1 := by decide
  aw := by rw [wd2]; decide
  bd := by decide
  amin x h1 h2 := by simp only [G2] at h2; omega
  ahit h := ⟨by decide +kernel, fun y hy => by
    have : y = 0 := by simp only [G2] at hy; omega
    subst this; decide +kernel⟩
  awd h := by rw [wd2] at h; simp only [G2] at h; omega
theorem ord1 : ordOf (symL P1 G1) = 4 := by decide +kernel
theorem ord2 : ordOf (symL P2 G2) = 1 := by decide +kernel
theorem inR0 : inR 0 := by unfold inR; omega
theorem nameOf1 : nameOf P1 G1 = txt [112, 52, 109] := by
  have hany : anyL P1 G1 := ⟨4, by omega, by omega, 0, 0, 0, inR0, inR0, by decide +kernel, by decide⟩
  have hc : ctr P1 G1 1 (onP P1 G1) := ⟨0, 0, by unfold in12; omega, by unfold in12; omega, by decide +kernel, .inl ⟨0, 0, inR0, inR0, by decide +kernel, by decide, by decide⟩⟩
  unfold nameOf
  simp only
  rw [if_neg (fun h => h hany), if_pos ord1, if_pos hc]
theorem nameOf2 : nameOf P2 G2 = txt [99, 109] := by
  have hany : anyL P2 G2 := ⟨7, by omega, by omega, 0, 0, 0, inR0, inR0, by decide +kernel, by decide⟩
  have hd : dirN P2 G2 8 ≠ 0 := by
    rw [dirN_yes (k := 7) (by omega) ⟨0, 0, 0, inR0, inR0, by decide +kernel, by decide, by decide⟩]
    omega
  have hcm : cmP P2 G2 := ⟨7, by omega, by omega, 1, ⟨2, -1, by unfold inR; omega, by unfold inR; omega, by decide +kernel, by decide⟩, by omega, fun ⟨e, f, _, _, _, h1, h2⟩ => by
    have h1' : e + f = 1 := h1
    have h2' : e - f = 0 := h2
    omega⟩
  unfold nameOf
  simp only
  rw [if_neg (fun h => h hany), if_neg (by rw [ord2]; decide), if_neg (by rw [ord2]; decide), if_neg hd, if_pos hcm]
end Go.Proofs.YteibbnmlmbhkpaaDoor

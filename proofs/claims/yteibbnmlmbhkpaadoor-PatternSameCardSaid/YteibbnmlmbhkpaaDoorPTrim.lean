/-
  The walks of strings.Trim's ASCII parts: of all bytes from a to d.
-/
import Derived.Test.YteibbnmlmbhkpaaDoorPW1
import Derived.Lib.TrimByte
namespace Go.Proofs.YteibbnmlmbhkpaaDoor
open Go.RowKit
set_option linter.unusedVariables false
set_option linter.unusedSimpArgs false
set_option maxHeartbeats 1000000
set_option maxRecDepth 100000

/-- A byte from a to d. -/
def ab (b : UInt8) : Bool := decide (97 ≤ b.toNat ∧ b.toNat ≤ 100)
/-- No byte. -/
def isE (s : ByteArray) : Prop := s.size = 0
def allAb (s : ByteArray) : Prop := ∀ b ∈ s.data.toList, ab b = true
/-- The set of these bytes at block sb. -/
def SetAb (w : World) (sb : Nat) : Prop := ∀ b : UInt8, w.cell? ⟨sb, b.toNat, none⟩ = some (.bool (ab b))
theorem contains_any {w : World} {sb : Nat} (h : SetAb w sb) (b : UInt8) :
    Calls Tryd.prog 99 #[.pointer (some ⟨sb, 0, none⟩), .int .u8 b.toNat] w fun e w' => e = .returned (.bool (ab b)) ∧ w' = w := by
  have f0 := h b
  have hb : (b.toNat : Int) < 256 := by have := b.toNat_lt; omega
  have hb0 : (0 : Int) ≤ b.toNat := by omega
  generalize ab b = q at *
  clear h
  go_enter Tryd.func99, Tryd.ntmps99
  go_wp2
  go_ret
  exact ⟨rfl, rfl⟩
theorem trimR_any {w : World} {sb : Nat} (h : SetAb w sb) (s : ByteArray) (hs : s.size ≤ 1000000) :
    Calls Tryd.prog 86 #[.string s, .pointer (some ⟨sb, 0, none⟩)] w fun e w' => ∃ r, e = .returned (.string r) ∧ (allAb r ↔ allAb s) ∧ r.size ≤ s.size ∧ w' = w := by
  have Hc := hid (fun b => contains_any h b)
  have hsz : s.size = s.data.toList.length := (Array.length_toList (xs := s.data)).symm
  have Hsz := hid hsz
  have hs2 : s.data.toList.length ≤ 1000000 := by omega
  have Hs2 := hid hs2
  have hse : s = ⟨s.data.toList.toArray⟩ := by cases s; rfl
  have Hall := hid (show allAb s ↔ ∀ b ∈ s.data.toList, ab b = true from Iff.rfl)
  generalize allAb s = AS at *
  rw [hse]
  generalize s.data.toList = l at *
  clear h hs hsz hs2 hse
  go_enter Tryd.func86, Tryd.ntmps86
  go_wp2
  go_loop [0] (fun v => ∃ k : Nat, k ≤ l.length ∧ v = .string ⟨(l.take k).toArray⟩ ∧ ∀ b ∈ l.drop k, ab b = true) (fun v => Lib.strSize v)
  case atStart => exact ⟨l.length, Nat.le_refl _, by rw [List.take_length], by simp⟩
  case round =>
    obtain ⟨k, hk, rfl, hd⟩ := hrel
    have Hd := hid hd
    have Hk := hid hk
    have hts : (⟨(l.take k).toArray⟩ : ByteArray).size = k := by rw [Lib.size_mk, List.length_take]; omega
    have hx1 : (⟨(l.take k).toArray⟩ : ByteArray).extract 0 (k - 1) = ⟨(l.take (k - 1)).toArray⟩ := by
      rw [Lib.extract_mk, List.drop_zero, List.take_take]
      congr 3
      omega
    have hk6 : (k : Int) ≤ 1000000 := by have := Hs2.out; omega
    clear hd hk
    generalize ht : (⟨(l.take k).toArray⟩ : ByteArray) = t at hts hx1 ⊢
    have Ht := hid ht
    by_cases h0 : 0 < k
    · have h1 : k - 1 < t.size := by omega
      have hlast : l[k - 1]? = some (t[k - 1]'h1) := by
        have := Lib.getElem_mk (l.take k) (k - 1) (by rw [Lib.size_mk, List.length_take]; have := Hk.out; omega)
        rw [List.getElem?_take_of_lt (by omega)] at this
        rw [this]
        congr 1
        subst ht
        rfl
      have hwr : IntKind.i64.wrap ((k : Int) - 1) = ((k - 1 : Nat) : Int) := by rw [IntKind.wrap_i64]; omega
      have hkk : ((k - 1 : Nat) : Int) < k := by omega
      have hkz : (0 : Int) ≤ ((k - 1 : Nat) : Int) := by omega
      have h0I : (0 : Int) < k := by omega
      have Hlast := hid hlast
      have H0 := hid h0
      have hc := Hc.out (t[k - 1]'h1)
      clear hlast ht h0
      cases hab : ab (t[k - 1]'h1) with
      | true =>
        rw [hab] at hc
        have Hab := hid hab
        clear hab
        go_wp2_with (go_at_call 99; refine hc.mono ?_; rintro e w' ⟨rfl, hw⟩; rw [hw])
        go_round
        case rel => exact ⟨k - 1, by have := Hk.out; omega, rfl, fun b hb => by
          have hkl : k - 1 < l.length := by have := Hk.out; have := H0.out; omega
          rw [List.drop_eq_getElem_cons hkl] at hb
          rcases List.mem_cons.1 hb with rfl | hb
          · have := Hlast.out
            rw [List.getElem?_eq_getElem hkl] at this
            injection this with this
            rw [this]; exact Hab.out
          · rw [show k - 1 + 1 = k by have := H0.out; omega] at hb
            exact Hd.out b hb⟩
        case measure =>
          rw [Lib.strSize_string, Lib.strSize_string, Lib.size_mk, List.length_take, hts]
          have := H0.out
          omega
      | false =>
        rw [hab] at hc
        have Hab := hid hab
        clear hab
        go_wp2_with (go_at_call 99; refine hc.mono ?_; rintro e w' ⟨rfl, hw⟩; rw [hw])
        go_ret
        refine ⟨t, rfl, ?_, by rw [hts]; first | exact Hk.out | (rw [Lib.size_mk]; exact Hk.out), rfl⟩
        have hmem : (t[k - 1]'h1) ∈ l := List.mem_of_getElem? Hlast.out
        have hmt : (t[k - 1]'h1) ∈ t.data.toList := by
          have : t.data[k - 1]'h1 ∈ t.data.toList := by simp
          exact this
        constructor
        · intro h; have := h _ hmt; rw [Hab.out] at this; cases this
        · intro h; have := Hall.out.1 h _ hmem; rw [Hab.out] at this; cases this
    · have hk0 : k = 0 := by omega
      have h0I : ¬ (0 : Int) < k := by omega
      clear h0
      go_wp2
      go_ret
      refine ⟨t, rfl, ?_, by rw [hts]; first | exact Hk.out | (rw [Lib.size_mk]; exact Hk.out), rfl⟩
      constructor
      · intro _
        exact Hall.out.2 fun b hb => Hd.out b (by rw [hk0]; exact hb)
      · intro _ b hb
        rw [← Ht.out, hk0] at hb
        simp at hb
theorem trimL_any {w : World} {sb : Nat} (h : SetAb w sb) (s : ByteArray) (hs : s.size ≤ 1000000) :
    Calls Tryd.prog 85 #[.string s, .pointer (some ⟨sb, 0, none⟩)] w fun e w' => ∃ r, e = .returned (.string r) ∧ (isE r ↔ allAb s) ∧ w' = w := by
  have Hc := hid (fun b => contains_any h b)
  have hsz : s.size = s.data.toList.length := (Array.length_toList (xs := s.data)).symm
  have hs2 : s.data.toList.length ≤ 1000000 := by omega
  have Hs2 := hid hs2
  have hse : s = ⟨s.data.toList.toArray⟩ := by cases s; rfl
  have Hall := hid (show allAb s ↔ ∀ b ∈ s.data.toList, ab b = true from Iff.rfl)
  generalize allAb s = AS at *
  rw [hse]
  generalize s.data.toList = l at *
  clear h hs hsz hs2 hse
  go_enter Tryd.func85, Tryd.ntmps85
  go_wp2
  go_loop [0] (fun v => ∃ k : Nat, k ≤ l.length ∧ v = .string ⟨(l.drop k).toArray⟩ ∧ ∀ b ∈ l.take k, ab b = true) (fun v => Lib.strSize v)
  case atStart => exact ⟨0, Nat.zero_le _, rfl, by simp⟩
  case round =>
    obtain ⟨k, hk, rfl, hd⟩ := hrel
    have Hd := hid hd
    have Hk := hid hk
    have hts : (⟨(l.drop k).toArray⟩ : ByteArray).size = l.length - k := by rw [Lib.size_mk, List.length_drop]
    have hx1 : (⟨(l.drop k).toArray⟩ : ByteArray).extract 1 (l.length - k) = ⟨(l.drop (k + 1)).toArray⟩ := by
      rw [Lib.extract_mk, List.drop_drop, List.take_of_length_le (by simp; omega)]
    have hk6 : (l.length : Int) ≤ 1000000 := by have := Hs2.out; omega
    clear hd hk
    generalize ht : (⟨(l.drop k).toArray⟩ : ByteArray) = t at hts hx1 ⊢
    have Ht := hid ht
    obtain ⟨z, hz⟩ : ∃ z, z = l.length - k := ⟨_, rfl⟩
    rw [← hz] at hts hx1
    have Hz := hid hz
    have hz6 : (z : Int) ≤ 1000000 := by omega
    clear hz hk6
    by_cases h0 : 0 < z
    · have h1 : 0 < t.size := by omega
      have hfirst : l[k]? = some (t[0]'h1) := by
        have := Lib.getElem_mk (l.drop k) 0 (by rw [Lib.size_mk, List.length_drop]; have := Hz.out; omega)
        rw [List.getElem?_drop] at this
        rw [Nat.add_zero] at this
        rw [this]
        congr 1
        subst ht
        rfl
      have h0I : (0 : Int) < z := by omega
      have Hfirst := hid hfirst
      have H0 := hid h0
      have hc := Hc.out (t[0]'h1)
      clear hfirst ht h0
      cases hab : ab (t[0]'h1) with
      | true =>
        rw [hab] at hc
        have Hab := hid hab
        clear hab
        go_wp2_with (go_at_call 99; refine hc.mono ?_; rintro e w' ⟨rfl, hw⟩; rw [hw])
        go_round
        case rel => exact ⟨k + 1, by have := Hz.out; have := H0.out; omega, rfl, fun b hb => by
          have hkl : k < l.length := by have := Hz.out; have := H0.out; omega
          rw [List.take_succ_eq_append_getElem hkl] at hb
          rcases List.mem_append.1 hb with hb | hb
          · exact Hd.out b hb
          · have h3 := Hfirst.out
            rw [List.getElem?_eq_getElem hkl] at h3
            injection h3 with h3
            rw [List.mem_singleton.1 hb, h3]; exact Hab.out⟩
        case measure =>
          rw [Lib.strSize_string, Lib.strSize_string, Lib.size_mk, List.length_drop, hts]
          have := H0.out
          have := Hz.out
          omega
      | false =>
        rw [hab] at hc
        have Hab := hid hab
        clear hab
        go_wp2_with (go_at_call 99; refine hc.mono ?_; rintro e w' ⟨rfl, hw⟩; rw [hw])
        go_ret
        refine ⟨t, rfl, ?_, rfl⟩
        have hmem : (t[0]'h1) ∈ l := List.mem_of_getElem? Hfirst.out
        constructor
        · intro h; unfold isE at h; omega
        · intro h; have := Hall.out.1 h _ hmem; rw [Hab.out] at this; cases this
    · have h0I : ¬ (0 : Int) < z := by omega
      have Hz0 := hid (show z = 0 by omega)
      have hts' := hid hts
      clear h0
      go_wp2
      go_ret
      refine ⟨t, rfl, ?_, rfl⟩
      constructor
      · intro _
        exact Hall.out.2 fun b hb => Hd.out b (by rw [List.take_of_length_le (by have := Hz.out; have := Hz0.out; omega)]; exact hb)
      · intro _
        unfold isE
        rw [hts'.out]; exact Hz0.out
end Go.Proofs.YteibbnmlmbhkpaaDoor

/-
  Grids of bools: plain, owned, read; the walk of the specification's free (36).
-/
import Derived.Test.YtcdhimnmbpllgaaDoorWW1
import Derived.Test.YtcdhimnmbpllgaaDoorDC1
namespace Go.Proofs.YtcdhimnmbpllgaaDoor
open Go.RowKit
set_option linter.unusedVariables false
set_option linter.unusedSimpArgs false
set_option maxHeartbeats 4000000
set_option maxRecDepth 100000

def gRow (f : Nat → Nat → Bool) (y k : Nat) : List Bool := (List.range k).map fun x => f x y
def gridK (f : Nat → Nat → Bool) (W k : Nat) : List (List Bool) := (List.range k).map fun y => gRow f y W
theorem gRow_succ (f : Nat → Nat → Bool) (y k : Nat) : gRow f y (k + 1) = gRow f y k ++ [f k y] := by unfold gRow; rw [List.range_succ, List.map_append]; rfl
theorem gRow_len (f : Nat → Nat → Bool) (y k : Nat) : (gRow f y k).length = k := by unfold gRow; simp
theorem gRow_get {f : Nat → Nat → Bool} {y k x : Nat} (h : x < k) : (gRow f y k)[x]? = some (f x y) := by
  unfold gRow
  rw [List.getElem?_map, List.getElem?_range h]; rfl
theorem gridK_succ (f : Nat → Nat → Bool) (W k : Nat) : gridK f W (k + 1) = gridK f W k ++ [gRow f k W] := by unfold gridK; rw [List.range_succ, List.map_append]; rfl
theorem gridK_len (f : Nat → Nat → Bool) (W k : Nat) : (gridK f W k).length = k := by unfold gridK; simp
theorem gridK_get {f : Nat → Nat → Bool} {W k y : Nat} (h : y < k) : (gridK f W k)[y]? = some (gRow f y W) := by
  unfold gridK
  rw [List.getElem?_map, List.getElem?_range h]; rfl
theorem gridK_ok (f : Nat → Nat → Bool) (W H : Nat) : GridB f W H (gridK f W H) := ⟨gridK_len f W H, fun y r h => by
  have hy : y < H := by
    have := (List.getElem?_eq_some_iff.1 h).1
    rwa [gridK_len] at this
  rw [gridK_get hy] at h
  injection h with h
  subst h
  exact ⟨gRow_len f y W, fun x hx => gRow_get hx⟩⟩
theorem GridB.eq {f : Nat → Nat → Bool} {W H : Nat} {l : List (List Bool)} (h : GridB f W H l) : l = gridK f W H := by
  apply List.ext_getElem?
  intro y
  by_cases hy : y < H
  · obtain ⟨r, hr⟩ : ∃ r, l[y]? = some r := ⟨_, List.getElem?_eq_getElem (by rw [h.len]; exact hy)⟩
    rw [gridK_get hy, hr]
    obtain ⟨h1, h2⟩ := h.row y r hr
    congr 1
    apply List.ext_getElem?
    intro x
    by_cases hx : x < W
    · rw [h2 x hx, gRow_get hx]
    · rw [List.getElem?_eq_none (by omega), List.getElem?_eq_none (by rw [gRow_len]; omega)]
  · rw [List.getElem?_eq_none (by rw [h.len]; omega), List.getElem?_eq_none (by rw [gridK_len]; omega)]
/-- Owned rows of bools. -/
def BoolR (b : Bool) (cs : List Value) (m : MS) : Prop := cs = [.bool b] ∧ m = 0
theorem BoolR.one : ∀ a cs m, BoolR a cs m → ∀ u ∈ cs, u.oneCell' = true := fun a cs m h u hu => by
  rw [h.1] at hu
  rw [List.mem_singleton.1 hu]; rfl
theorem BoolR.len : ∀ a cs m, BoolR a cs m → cs.length = 1 := fun a cs m h => by rw [h.1]; rfl
def Bools (r : List Bool) (v : Value) (m : MS) : Prop := SlR 4 1 BoolR r v m
def Grid (l : List (List Bool)) (v : Value) (m : MS) : Prop := SlR 94 1 (El Bools) l v m
theorem Bools.nil : Bools [] (.slice none 0 0) 0 := ⟨[], 0, 0, Sl.nil 4 1, RowsR.nil, (MS.zero_add _).symm⟩
theorem Grid.nil : Grid [] (.slice none 0 0) 0 := ⟨[], 0, 0, Sl.nil 94 1, RowsR.nil, (MS.zero_add _).symm⟩
theorem Bools.rd {r : List Bool} {v : Value} {m : MS} (h : Bools r v m) : RdS m RT.bool r v := SlR.rd (T := RT.bool) (fun a cs m h => h.1) h
theorem Grid.rd {l : List (List Bool)} {v : Value} {m : MS} (h : Grid l v m) : RdS m (RT.sl RT.bool) l v := SlR.rd (T := RT.sl RT.bool) (El.rd fun a v m h => ⟨v, rfl, Bools.rd h⟩) h
theorem row94 : RowTy Tryd.prog 94 4 (.bool false) 1 1 := ⟨Tryd.underlying94, by kernel_rfl, rfl⟩
theorem row62 : RowTy Tryd.prog 62 94 (.slice none 0 0) 1 24 := ⟨Tryd.underlying62, by kernel_rfl, rfl⟩
theorem free_any {F : MS} {p : List ByteArray} {A : Option Addr} {c : Nat} {w : World} (hr : RdS F RT.str p (.slice A p.length c)) (hp : RegOk p) (hH : Has w F) :
    Calls Tryd.prog 36 #[.slice A p.length c] w fun e w' => ∃ v m, e = .returned v ∧ Grid (gridK (hsR p) (wd p) p.length) v m ∧ (∀ M, Has w M → Has w' (m + M)) ∧ Ext w w' := by
  have hw8 := hp.w8
  have hh8 := hp.h8
  have hnc := hr.cells.2.1
  have Hstr := hid (fun (y x : Nat) (hy : y < p.length) => show ∃ (s : ByteArray) (b o : Nat), A = some ⟨b, o, none⟩ ∧ F.at b (o + y) (.string s) ∧ s.size = wd p ∧ (∀ (h : x < s.size), (bt s x == 35) = hsR p x y) from by
    obtain ⟨s, hs⟩ : ∃ s, p[y]? = some s := ⟨_, List.getElem?_eq_getElem hy⟩
    obtain ⟨b, o, hA, hat⟩ := hr.getStr hs
    have hsz := hp.rows s (List.mem_of_getElem? hs)
    refine ⟨s, b, o, hA, hat, hsz, fun h => ?_⟩
    unfold hsR hsI
    rw [Int.toNat_natCast, Int.toNat_natCast, getD_some hs, decide_eq_true (show 0 ≤ (x : Int) by omega), decide_eq_true (show 0 ≤ (y : Int) by omega), decide_eq_true (show (x : Int) < wd p by omega), decide_eq_true (show (y : Int) < p.length by omega)]
    simp)
  obtain ⟨b0, o0, hA⟩ : ∃ b0 o0, A = some ⟨b0, o0, none⟩ := by
    obtain ⟨s, b, o, hA, _⟩ := Hstr.out 0 0 (by have := hp.h1; omega)
    exact ⟨b, o, hA⟩
  subst hA
  have HaF := hid (fun (W : World) (X : MS) (h : Has W (X + MS.all w)) => hH.of_all h)
  obtain ⟨WN, hWN⟩ : ∃ WN, WN = wd p := ⟨_, rfl⟩
  obtain ⟨HN, hHN⟩ : ∃ HN, HN = p.length := ⟨_, rfl⟩
  obtain ⟨f, hf⟩ : ∃ f, f = hsR p := ⟨_, rfl⟩
  rw [← hWN, ← hHN, ← hf] at Hstr ⊢
  rw [← hHN] at hnc hh8
  rw [← hWN] at hw8
  have hWI : (WN : Int) ≤ 8 := by omega
  have hHI : (HN : Int) ≤ 8 := by omega
  clear hr hp hH hWN hHN hf
  go_enter Tryd.func36, Tryd.ntmps36
  go_wp2
  go_loopw [3, 4] (fun v3 v4 wr => ∃ (y : Nat) (m : MS), y ≤ HN ∧ v4 = .int .i64 y ∧ Grid (gridK f WN y) v3 m ∧ Has wr (m + MS.all w) ∧ Ext w wr) (fun _ v _ => HN - (intOf v).toNat)
  case atStart => exact ⟨0, 0, Nat.zero_le _, rfl, Grid.nil, by rw [MS.zero_add]; exact Has.all w, Ext.refl w⟩
  case round =>
    obtain ⟨y, m, hy, rfl, hc, hW, hE⟩ := hrel
    obtain ⟨A3, c3, rfl, _⟩ := SlR.form hc
    rw [gridK_len] at hc ⊢
    have HC := hid hc
    have HW := hid hW
    have HEr := hid hE
    clear hc hW hE
    by_cases hlt : y < HN
    · have hltI : (y : Int) < HN := by omega
      have Hlt := hid hlt
      have hy8 : y ≤ 8 := by omega
      clear hlt hy
      go_wp2
      go_loopw [5, 6] (fun v5 v6 wq => ∃ (x : Nat) (mb : MS), x ≤ WN ∧ v6 = .int .i64 x ∧ Bools (gRow f y x) v5 mb ∧ Has wq (mb + (m + MS.all w)) ∧ Ext w wq) (fun _ v _ => WN - (intOf v).toNat)
      case atStart => exact ⟨0, 0, Nat.zero_le _, rfl, Bools.nil, by rw [MS.zero_add]; exact HW.out, HEr.out⟩
      case round =>
        obtain ⟨x, mb, hx, rfl, hc2, hW2, hE2⟩ := hrel
        obtain ⟨A4, c4, rfl, _⟩ := SlR.form hc2
        rw [gRow_len] at hc2 ⊢
        have HC2 := hid hc2
        have HW2 := hid hW2
        have HE2 := hid hE2
        obtain ⟨s, b, o, hA, hat, hsz, hbt⟩ := Hstr.out y x Hlt.out
        injection hA with hA; injection hA with e1 e2
        subst e1; subst e2
        have q0 := hat.c0 (HaF.out wr (mb + m) (HW2.out.eq (by ac_rfl)))
        have hszI : (s.size : Int) = WN := by omega
        clear hc2 hW2 hE2 hat
        by_cases hxl : x < WN
        · have hxI : (x : Int) < WN := by omega
          have hxs : x < s.size := by omega
          have hxsI : (x : Int) < s.size := by omega
          have Hx := hid hxl
          have hz := bt_eq s x hxs
          have hb := hbt hxs
          generalize bt s x = z at *
          have Hb := hid hb
          have hx8 : x ≤ 8 := by omega
          clear hxl hx hsz hb hbt
          go_wp2_with (at_builtin; refine wpList_push rfl (.tmp 22) (.tmp 30) row94 rfl (.slice A4 x c4) rfl _ rfl (by simp) BoolR BoolR.one BoolR.len (gRow f y x) (z == 35) mb 0 _ HC2.out ⟨rfl, rfl⟩ ((HW2.out).eq (by rw [MS.zero_add])) x (gRow_len _ _ _) (by omega) (by omega) ?_; intro A8 c8 w8 m8 j4 j5 j6; have J4 := hid j4; have J5 := hid j5; have J6 := hid (HE2.out.trans j6); clear j4 j5 j6)
          go_roundw
          case rel => exact ⟨x + 1, m8, Hx.out, by go_num, by rw [gRow_succ, ← Hb.out]; exact J4.out, J5.out, J6.out⟩
          case measure => have := Hx.out; simp [intOf]; omega
        · have hxe : x = WN := by omega
          subst hxe
          clear hxl hx hbt hsz
          go_wp2_with (at_builtin; refine wpList_push rfl (.tmp 32) (.tmp 34) row62 rfl (.slice A3 y c3) rfl _ rfl (by simp) (El Bools) El.one El.len (gridK f x y) (gRow f y x) m mb _ HC.out ⟨_, rfl, HC2.out, rfl⟩ ((HW2.out).eq (by ac_rfl)) y (gridK_len _ _ _) (by omega) (by omega) ?_; intro A8 c8 w8 m8 j4 j5 j6; have J4 := hid j4; have J5 := hid j5; have J6 := hid (HE2.out.trans j6); clear j4 j5 j6)
          go_roundw
          case rel => exact ⟨y + 1, m8, Hlt.out, by go_num, by rw [gridK_succ]; exact J4.out, J5.out, J6.out⟩
          case measure => have := Hlt.out; simp [intOf]; omega
    · have hye : y = HN := by omega
      subst hye
      clear hlt hy
      go_wp2
      go_ret
      exact ⟨_, m, rfl, HC.out, fun M hM => Has.with_all hM (HW.out), HEr.out⟩
end Go.Proofs.YtcdhimnmbpllgaaDoor

/-
  Lists of dominoes, of cells as arguments. The walks of few (11), texts (26), tiles (23); what Tile and the specification's Tile hand back (printed by gen_dlaw.py).
-/
import Derived.Test.YtcdhimnmbpllgaaDoorDLaw0
import Derived.Test.YtcdhimnmbpllgaaDoorTW3
import Derived.Test.YtcdhimnmbpllgaaDoorDD1
import Derived.Test.YtcdhimnmbpllgaaDoorDAlive
namespace Go.Proofs.YtcdhimnmbpllgaaDoor
open Go.ChangeShapes Go.WideShapes Go.ChangeAt Go.RowKit
set_option linter.unusedVariables false
set_option maxRecDepth 100000

theorem list3 {α : Type} {l : List α} (h : l.length = 3) : ∃ a b c, l = [a, b, c] := by
  match l, h with
  | [a, b, c], _ => exact ⟨a, b, c, rfl⟩
theorem cellsOf40 : Tryd.prog.cellsOf 40 = 3 := by kernel_rfl
theorem cellsOf4 : Tryd.prog.cellsOf 4 = 1 := by kernel_rfl
theorem openT_dom : OpenT RT.dom 40 := fun H enc W sp held fuel cs x h => by
  obtain ⟨xs, n', _, _, hl, hlen, hf⟩ := DataW.trod_struct Tryd.underlying40 h
  rw [cellsOf40] at hl
  obtain ⟨c0, c1, c2, rfl⟩ := list3 hl
  obtain ⟨x0, x1, x2, rfl⟩ := list3 (l := xs) (by simpa using hlen)
  have g0 : DataW.trod enc Tryd.prog W 0 sp held n' 3 (([c0, c1, c2].drop 0).take (Tryd.prog.cellsOf 3)) = some x0 := hf 0 _ rfl
  have g1 : DataW.trod enc Tryd.prog W 0 sp held n' 3 (([c0, c1, c2].drop 1).take (Tryd.prog.cellsOf 3)) = some x1 := hf 1 _ rfl
  have g2 : DataW.trod enc Tryd.prog W 0 sp held n' 4 (([c0, c1, c2].drop 2).take (Tryd.prog.cellsOf 4)) = some x2 := hf 2 _ rfl
  rw [cells3] at g0 g1
  rw [cellsOf4] at g2
  obtain ⟨z0, e0, rfl, _⟩ := DataW.trod_int Tryd.underlying3 g0
  obtain ⟨z1, e1, rfl, _⟩ := DataW.trod_int Tryd.underlying3 g1
  obtain ⟨z2, e2, rfl, _⟩ := DataW.trod_bool Tryd.underlying4 g2
  simp at e0 e1 e2
  subst e0; subst e1; subst e2
  exact ⟨(z0, z1, z2), rfl⟩
theorem doms_arg {H : Type} {enc : TypeId × Value → H} {W : World} {A : Option Addr} {n c : Nat} {d : DataW H} {p : List MemPlace}
    (h : DataW.Trod enc Tryd.prog W 0 (fun _ => true) true 35 (.slice A n c) d p) : ∃ l, n = l.length ∧ RdS (MS.all W) RT.dom l (.slice A l.length c) := by
  obtain ⟨fuel, hf⟩ := h
  obtain ⟨l, v, hv, hl⟩ := OpenT.sl (T := RT.dom) Tryd.underlying35 (by kernel_rfl) (show 0 < RT.dom.sz by decide) openT_dom H enc W fuel _ _ hf
  have : v = .slice A n c := by simpa [Value.cells] using hv.symm
  subst this
  obtain ⟨rfl, _⟩ := hl.cells
  exact ⟨l, rfl, hl⟩
end Go.Proofs.YtcdhimnmbpllgaaDoor

namespace Go.Proofs.YtcdhimnmbpllgaaDoor
open Go.RowKit
set_option linter.unusedVariables false
set_option linter.unusedSimpArgs false
set_option maxHeartbeats 2000000
set_option maxRecDepth 100000

theorem texts_same {F : MS} {l : List ByteArray} {A B : Option Addr} {c d : Nat} {w : World} (hr : RdS F RT.str l (.slice A l.length c)) (hr2 : RdS F RT.str l (.slice B l.length d)) (hl : l.length ≤ 1000000) (hH : Has w F) :
    Calls Tryd.prog 26 #[.slice A l.length c, .slice B l.length d] w fun e w' => e = .returned (.bool true) ∧ ∃ q, w' = w.drewN q := by
  have Hr := hid hr
  have Hr2 := hid hr2
  have HH := hid hH
  have hnc := hr.cells.2.1
  have hnd := hr2.cells.2.1
  obtain ⟨N, hN⟩ : ∃ N, N = l.length := ⟨_, rfl⟩
  rw [← hN] at Hr Hr2 hnc hnd hl ⊢
  have HN := hid hN
  have hNI : (N : Int) ≤ 1000000 := by omega
  clear hr hr2 hH hN hl
  go_enter Tryd.func26, Tryd.ntmps26
  go_wp2
  go_loopw [5] (fun v wr => ∃ i : Nat, i ≤ N ∧ v = .int .i64 i ∧ ∃ m, wr = w.drewN m) (fun v _ => N - (intOf v).toNat)
  case atStart => exact ⟨0, Nat.zero_le _, rfl, 0, rfl⟩
  case round =>
    obtain ⟨i, hi, rfl, m, rfl⟩ := hrel
    by_cases hlt : i < N
    · have hltI : (i : Int) < N := by omega
      have hi0 : (0 : Int) ≤ i := by omega
      have Hlt := hid hlt
      obtain ⟨s, hs⟩ : ∃ s, l[i]? = some s := ⟨_, List.getElem?_eq_getElem (by have := HN.out; omega)⟩
      obtain ⟨b, o, hA, e3⟩ := Hr.out.getStr hs
      subst hA
      obtain ⟨b2, o2, hA2, e4⟩ := Hr2.out.getStr hs
      subst hA2
      have f1 := e3.c0 HH.out
      have f2 := e4.c0 HH.out
      have hNc : N ≤ c := hnc
      have hNd : N ≤ d := hnd
      clear e3 e4 hs hlt hi
      go_wp2
      go_quiet (fail)
      go_wp2
      go_roundw
      case rel => exact ⟨i + 1, Hlt.out, by go_num, _, rfl⟩
      case measure => have := Hlt.out; simp [intOf]; omega
    · have hie : i = N := by omega
      subst hie
      clear hlt hi
      go_wp2
      go_ret
      exact ⟨rfl, m, rfl⟩
theorem strs_rows : ∀ l : List ByteArray, RowsR StrR l (l.map Value.string) 0
  | [] => RowsR.nil
  | s :: l => ⟨[.string s], 0, _, 0, ⟨rfl, rfl⟩, strs_rows l, rfl, by rw [MS.zero_add]⟩
theorem rowsQ_strs_eq : ∀ {F : MS} {l : List ByteArray} {xs : List Value}, RowsQ (RT.str.rel F) l xs → xs = l.map Value.string
  | _, [], _, h => h
  | F, a :: l, _, ⟨c1, c2, h1, h2, h3⟩ => by
    have e1 : c1 = [.string a] := h1
    rw [h3, e1, rowsQ_strs_eq h2]; rfl
theorem Sl.empty (b e sz : Nat) : Sl e sz (.slice (some ⟨b, 0, none⟩) 0 0) 0 [] (blk b #[] e) := Sl.made (n := 0) b #[] (by simp [maxLen]) (by simp)
theorem info9 : (Tryd.prog.info? 9).map (fun i => (i.zero, i.size, i.bytes)) = some (some (.string ⟨#[]⟩), 1, 16) := by kernel_rfl
theorem tiles_same {F : MS} {l : List Dom} {A B : Option Addr} {c d : Nat} {w : World} (hr : RdS F RT.dom l (.slice A l.length c)) (hr2 : RdS F RT.dom l (.slice B l.length d)) (hl : l.length ≤ 1000000) (hH : Has w F) :
    Calls Tryd.prog 23 #[.slice A l.length c, .slice B l.length d] w fun e w' => e = .returned (.bool true) ∧ ∃ q, w' = w.drewN q := by
  have Hr := hid hr
  have Hr2 := hid hr2
  have HH := hid hH
  have hnc := hr.cells.2.1
  have hnd := hr2.cells.2.1
  obtain ⟨N, hN⟩ : ∃ N, N = l.length := ⟨_, rfl⟩
  rw [← hN] at Hr Hr2 hnc hnd hl ⊢
  have HN := hid hN
  have hNI : (N : Int) ≤ 1000000 := by omega
  clear hr hr2 hH hN hl
  go_enter Tryd.func23, Tryd.ntmps23
  go_wp2
  go_loopw [5] (fun v wr => ∃ i : Nat, i ≤ N ∧ v = .int .i64 i ∧ ∃ m, wr = w.drewN m) (fun v _ => N - (intOf v).toNat)
  case atStart => exact ⟨0, Nat.zero_le _, rfl, 0, rfl⟩
  case round =>
    obtain ⟨i, hi, rfl, m, rfl⟩ := hrel
    by_cases hlt : i < N
    · have hltI : (i : Int) < N := by omega
      have hi0 : (0 : Int) ≤ i := by omega
      have Hlt := hid hlt
      obtain ⟨s, hs⟩ : ∃ s, l[i]? = some s := ⟨_, List.getElem?_eq_getElem (by have := HN.out; omega)⟩
      obtain ⟨b, o, hA, e3, e31, e32⟩ := Hr.out.getDom hs
      subst hA
      obtain ⟨b2, o2, hA2, e4, e41, e42⟩ := Hr2.out.getDom hs
      subst hA2
      obtain ⟨sx, sy, sd⟩ := s
      simp only at e3 e31 e32 e4 e41 e42
      have f1 := e3.c0 HH.out
      have f11 := e31.c0 HH.out
      have f12 := e32.c0 HH.out
      have f2 := e4.c0 HH.out
      have f21 := e41.c0 HH.out
      have f22 := e42.c0 HH.out
      have hNc : N ≤ c := hnc
      have hNd : N ≤ d := hnd
      clear e3 e31 e32 e4 e41 e42 hs hlt hi
      go_wp2
      go_quiet (fail)
      go_wp2
      go_roundw
      case rel => exact ⟨i + 1, Hlt.out, by go_num, _, rfl⟩
      case measure => have := Hlt.out; simp [intOf]; omega
    · have hie : i = N := by omega
      subst hie
      clear hlt hi
      go_wp2
      go_ret
      exact ⟨rfl, m, rfl⟩

/-- The first tiling, its error. -/
def tileL (p : List ByteArray) : List Dom := if isReg p = true ∧ 0 < cntV p then pathF (wd p) (hsR p) (wd p * p.length) 0 0 0 else []
def tileE (p : List ByteArray) : Int := if isReg p = true then (if 0 < cntV p then 0 else 10) else 2
def TilePost (p : List ByteArray) (w : World) (e : Ending) (w' : World) : Prop := ∃ A c m, e = .returned (.tuple #[.slice A (tileL p).length c, .int .i64 (tileE p)]) ∧ Dms (tileL p) (.slice A (tileL p).length c) m ∧ (∀ M, Has w M → Has w' (m + M)) ∧ Ext w w'
theorem tileL_len (p : List ByteArray) : (tileL p).length ≤ 64 := by
  unfold tileL
  split
  · rename_i h
    have h1 := pathF_len (wd p) (hsR p) (wd p * p.length) 0 0 0
    have h2 := wh64 (isReg.ok h.1).1
    omega
  · simp
theorem tile_post {p : List ByteArray} {w : World} {f : FuncId} {args : Array Value} (hno : isReg p = false → Calls Tryd.prog f args w fun e w' => e = .returned (.tuple #[.slice none 0 0, .int .i64 2]) ∧ Kp w w')
    (hfew : isReg p = true → cntV p = 0 → Calls Tryd.prog f args w fun e w' => e = .returned (.tuple #[.slice none 0 0, .int .i64 10]) ∧ Kp w w')
    (hyes : isReg p = true → 0 < cntV p → Calls Tryd.prog f args w fun e w' => ∃ v m, e = .returned (.tuple #[v, .int .i64 0]) ∧ Dms (pathF (wd p) (hsR p) (wd p * p.length) 0 0 0) v m ∧ (∀ M, Has w M → Has w' (m + M)) ∧ Ext w w') :
    Calls Tryd.prog f args w (TilePost p w) := by
  cases hq : isReg p with
  | false =>
    refine (hno hq).mono ?_
    rintro e w' ⟨rfl, k⟩
    have h1 : tileL p = [] := by unfold tileL; rw [if_neg (by simp [hq])]
    have h2 : tileE p = 2 := by unfold tileE; rw [if_neg (by simp [hq])]
    unfold TilePost
    rw [h1, h2]
    exact ⟨none, 0, 0, rfl, Dms.nil, fun M hM => by rw [MS.zero_add]; exact k.1 M hM, k.2⟩
  | true =>
    by_cases hc : 0 < cntV p
    · refine (hyes hq hc).mono ?_
      rintro e w' ⟨v, m, rfl, h, k1, k2⟩
      have h1 : tileL p = pathF (wd p) (hsR p) (wd p * p.length) 0 0 0 := by unfold tileL; rw [if_pos ⟨hq, hc⟩]
      have h2 : tileE p = 0 := by unfold tileE; rw [if_pos hq, if_pos hc]
      obtain ⟨A, c, rfl, _⟩ := SlR.form h
      unfold TilePost
      rw [h1, h2]
      exact ⟨A, c, m, rfl, h, k1, k2⟩
    · refine (hfew hq (by omega)).mono ?_
      rintro e w' ⟨rfl, k⟩
      have h1 : tileL p = [] := by unfold tileL; rw [if_neg (fun h => hc h.2)]
      have h2 : tileE p = 10 := by unfold tileE; rw [if_pos hq, if_neg hc]
      unfold TilePost
      rw [h1, h2]
      exact ⟨none, 0, 0, rfl, Dms.nil, fun M hM => by rw [MS.zero_add]; exact k.1 M hM, k.2⟩
section
variable {F : MS} {p : List ByteArray} {A : Option Addr} {c : Nat} {w : World} (hr : RdS F RT.str p (.slice A p.length c)) (hl : p.length ≤ 1000) (hs : ∀ s ∈ p, s.size ≤ 1000000) (hH : Has w F)
include hr hl hs hH
theorem tile_all : Calls Tryd.prog 22 #[.slice A p.length c] w (TilePost p w) := tile_post (tile_no hr hl hs hH) (tile_few hr hl hs hH) (tile_yes hr hl hs hH)
theorem reft_all : Calls Tryd.prog 21 #[.slice A p.length c] w (TilePost p w) := tile_post (reft_no hr hl hs hH) (reft_few hr hl hs hH) (reft_yes hr hl hs hH)
theorem is_any {t : List Dom} {B : Option Addr} {ct : Nat} (ht : RdS F RT.dom t (.slice B t.length ct)) (htl : t.length ≤ 1000) :
    Calls Tryd.prog 24 #[.slice A p.length c, .slice B t.length ct] w fun e w' => e = .returned (.tuple #[.bool (isReg p && isT (wd p) p.length (hsR p) none t), .int .i64 (cntE p)]) ∧ Kp w w' := by
  cases hq : isReg p with
  | false =>
    have HC : cntE p = 2 := by unfold cntE; rw [hq]; rfl
    rw [HC]
    exact is_no hr hl hs hH hq
  | true =>
    have HC : cntE p = 0 := by unfold cntE; rw [hq]; rfl
    rw [HC, Bool.true_and]
    exact is_yes hr hl hs ht htl hH hq
end
end Go.Proofs.YtcdhimnmbpllgaaDoor

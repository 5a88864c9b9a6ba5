/-
  The walk of Has.
-/
import Derived.Test.YtcdhimnmbpllgaaDoorDBase
import Derived.Test.YtcdhimnmbpllgaaDoorProg
namespace Go.Proofs.YtcdhimnmbpllgaaDoor
open Go.RowKit
set_option linter.unusedVariables false
set_option linter.unusedSimpArgs false
set_option maxHeartbeats 4000000
set_option maxRecDepth 100000

theorem has_any {F : MS} {p : List ByteArray} {A : Option Addr} {c : Nat} {w : World} (hr : RdS F RT.str p (.slice A p.length c)) (hp : RegOk p) (hH : Has w F) (x y : Int) :
    Calls Tryd.prog 47 #[rgV p A c, .int .i64 x, .int .i64 y] w fun e w' => e = .returned (.bool (hsI p x y)) ∧ Kp w w' := by
  have HA := hid ((Has.all w).alloc (.cells #[.int .i64 (wd p), .int .i64 p.length, .slice A p.length c] 51))
  have HE := hid (Ext.alloc w (.cells #[.int .i64 (wd p), .int .i64 p.length, .slice A p.length c] 51))
  have hnc := hr.cells.2.1
  show Calls Tryd.prog 47 #[.agg #[.int .i64 (wd p), .int .i64 p.length, .slice A p.length c], .int .i64 x, .int .i64 y] w _
  have Hu := hid (show hsI p x y = (decide (0 ≤ x) && (decide (0 ≤ y) && (decide (x < wd p) && (decide (y < p.length) && (bt (p.getD y.toNat empty) x.toNat == 35))))) from rfl)
  rw [Hu.out]
  by_cases h : 0 ≤ x ∧ 0 ≤ y ∧ x < wd p ∧ y < p.length
  · obtain ⟨h1, h2, h3, h4⟩ := h
    obtain ⟨i, hi⟩ : ∃ i : Nat, y = i := ⟨y.toNat, by omega⟩
    obtain ⟨j, hj⟩ : ∃ j : Nat, x = j := ⟨x.toNat, by omega⟩
    subst hi
    subst hj
    obtain ⟨s, hs⟩ : ∃ s, p[i]? = some s := ⟨_, List.getElem?_eq_getElem (by omega)⟩
    obtain ⟨b, o, hA, hat⟩ := hr.getStr hs
    have hsz := hp.rows s (List.mem_of_getElem? hs)
    have hb : bt (p.getD ((i : Int).toNat) empty) ((j : Int).toNat) = bt s j := by
      rw [Int.toNat_natCast, Int.toNat_natCast, getD_some hs]
    rw [decide_eq_true h1, decide_eq_true h2, decide_eq_true h3, decide_eq_true h4, hb]
    have hjs : j < s.size := by omega
    have hbt := bt_eq s j hjs
    generalize bt s j = z at *
    subst hA
    have f0 := hat.c0 ((hH.of_all HA.out))
    have hjI : (j : Int) < s.size := by omega
    clear hs hat hsz hb hH hr hp
    go_enter Tryd.func47, Tryd.ntmps47
    go_wp2
    go_ret
    refine ⟨by simp, ⟨fun M hM => hM.of_all HA.out, HE.out⟩⟩
  · have hfin : (decide (0 ≤ x) && (decide (0 ≤ y) && (decide (x < wd p) && (decide (y < p.length) && (bt (p.getD y.toNat empty) x.toNat == 35))))) = false := by
      by_cases h1 : 0 ≤ x
      · by_cases h2 : 0 ≤ y
        · by_cases h3 : x < wd p
          · have h4 : ¬ y < p.length := fun h4 => h ⟨h1, h2, h3, h4⟩
            simp [h4]
          · simp [h3]
        · simp [h2]
      · simp [h1]
    rw [hfin]
    clear hfin
    by_cases h1 : 0 ≤ x
    · by_cases h2 : 0 ≤ y
      · by_cases h3 : x < wd p
        · have h4 : ¬ y < p.length := fun h4 => h ⟨h1, h2, h3, h4⟩
          clear h hr hp hH
          go_enter Tryd.func47, Tryd.ntmps47
          go_wp2
          go_ret
          exact ⟨rfl, ⟨fun M hM => hM.of_all HA.out, HE.out⟩⟩
        · clear h hr hp hH
          go_enter Tryd.func47, Tryd.ntmps47
          go_wp2
          go_ret
          exact ⟨rfl, ⟨fun M hM => hM.of_all HA.out, HE.out⟩⟩
      · clear h hr hp hH
        go_enter Tryd.func47, Tryd.ntmps47
        go_wp2
        go_ret
        exact ⟨rfl, ⟨fun M hM => hM.of_all HA.out, HE.out⟩⟩
    · clear h hr hp hH
      go_enter Tryd.func47, Tryd.ntmps47
      go_wp2
      go_ret
      exact ⟨rfl, ⟨fun M hM => hM.of_all HA.out, HE.out⟩⟩
end Go.Proofs.YtcdhimnmbpllgaaDoor

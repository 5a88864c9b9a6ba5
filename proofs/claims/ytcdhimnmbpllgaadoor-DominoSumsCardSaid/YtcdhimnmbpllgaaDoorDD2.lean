/-
  The walks of Other and of the innermost closure of Used.
-/
import Derived.Test.YtcdhimnmbpllgaaDoorDC3
import Derived.Test.YtcdhimnmbpllgaaDoorDW2
namespace Go.Proofs.YtcdhimnmbpllgaaDoor
open Go.RowKit
set_option linter.unusedVariables false
set_option linter.unusedSimpArgs false
set_option maxHeartbeats 2000000
set_option maxRecDepth 100000

def otX (x : Int) (d : Bool) : Int := if d then x else x + 1
def otY (y : Int) (d : Bool) : Int := if d then y + 1 else y
theorem other_any (x y : Int) (d : Bool) (h1 : -1000 ≤ x ∧ x ≤ 1000) (h2 : -1000 ≤ y ∧ y ≤ 1000) (w : World) :
    Calls Tryd.prog 62 #[.agg #[.int .i64 x, .int .i64 y, .bool d]] w fun e w' => e = .returned (.agg #[.int .i64 (otX x d), .int .i64 (otY y d)]) ∧ Kp w w' := by
  have HZ := hid (show Has ((w.alloc (.cells #[.int .i64 x, .int .i64 y, .bool d] 40)).alloc (.cells #[.int .i64 0, .int .i64 0] 66)) (blk (w.heap.size + 1) #[.int .i64 0, .int .i64 0] 66 + (blk w.heap.size #[.int .i64 x, .int .i64 y, .bool d] 40 + MS.all w)) by
    have := ((Has.all w).alloc (.cells #[.int .i64 x, .int .i64 y, .bool d] 40)).alloc (.cells #[.int .i64 0, .int .i64 0] 66)
    rw [show (w.alloc (.cells #[.int .i64 x, .int .i64 y, .bool d] 40)).heap.size = w.heap.size + 1 by simp] at this
    exact this)
  have HE := hid ((Ext.alloc w (.cells #[.int .i64 x, .int .i64 y, .bool d] 40)).trans (Ext.alloc _ (.cells #[.int .i64 0, .int .i64 0] 66)))
  cases d with
  | true =>
    go_enter Tryd.func62, Tryd.ntmps62
    go_wp2_with (refine wpList_store_whole rfl (.tmp 2) (.tmp 10) 66 rfl 2 size66 (w.heap.size + 1) (.agg #[.int .i64 x, .int .i64 (y + 1)]) rfl rfl rfl (by simp [Value.cells, Value.oneCell']) #[.int .i64 0, .int .i64 0] 66 _ HZ.out rfl ?_; intro w6 j1 j2; have HW6 := hid (show Has w6 (blk (w.heap.size + 1) #[.int .i64 x, .int .i64 (y + 1)] 66 + _) from j1); have HE6 := hid (HE.out.trans j2); have r0 := HW6.out.at_ (i := 0) rfl; have r1 := HW6.out.at_ (i := 1) rfl; clear j1 j2)
    exact bodyPost_ret (v := .agg #[.int .i64 x, .int .i64 (y + 1)]) (by simp [results, Tryd.results62, go_sem, r0, r1]) rfl ⟨rfl, fun M hM => hM.of_all HW6.out.right, HE6.out⟩
  | false =>
    go_enter Tryd.func62, Tryd.ntmps62
    go_wp2_with (refine wpList_store_whole rfl (.tmp 2) (.tmp 16) 66 rfl 2 size66 (w.heap.size + 1) (.agg #[.int .i64 (x + 1), .int .i64 y]) rfl rfl rfl (by simp [Value.cells, Value.oneCell']) #[.int .i64 0, .int .i64 0] 66 _ HZ.out rfl ?_; intro w6 j1 j2; have HW6 := hid (show Has w6 (blk (w.heap.size + 1) #[.int .i64 (x + 1), .int .i64 y] 66 + _) from j1); have HE6 := hid (HE.out.trans j2); have r0 := HW6.out.at_ (i := 0) rfl; have r1 := HW6.out.at_ (i := 1) rfl; clear j1 j2)
    exact bodyPost_ret (v := .agg #[.int .i64 (x + 1), .int .i64 y]) (by simp [results, Tryd.results62, go_sem, r0, r1]) rfl ⟨rfl, fun M hM => hM.of_all HW6.out.right, HE6.out⟩
/-- Without two cells. -/
def minB (p : List ByteArray) (a b k : Int × Int) : Bool := decide (k ≠ a) && (decide (k ≠ b) && hsI p k.1 k.2)
theorem min_any {F : MS} {p : List ByteArray} {A : Option Addr} {c b1 b2 b3 : Nat} {ax ay bx by' kx ky : Int} {w : World} (hr : RdS F RT.str p (.slice A p.length c)) (hp : RegOk p)
    (ha : F.at b1 0 (.int .i64 ax) ∧ F.at b1 1 (.int .i64 ay)) (hb : F.at b2 0 (.int .i64 bx) ∧ F.at b2 1 (.int .i64 by')) (hg : F.at b3 0 (.int .i64 (wd p)) ∧ F.at b3 1 (.int .i64 p.length) ∧ F.at b3 2 (.slice A p.length c)) (hH : Has w F) :
    Calls Tryd.prog 70 #[.agg #[.int .i64 kx, .int .i64 ky], .pointer (some ⟨b1, 0, none⟩), .pointer (some ⟨b2, 0, none⟩), .pointer (some ⟨b3, 0, none⟩)] w fun e w' => e = .returned (.bool (minB p (ax, ay) (bx, by') (kx, ky))) ∧ Kp w w' := by
  have HA := hid (show Has (w.alloc (.cells #[.int .i64 kx, .int .i64 ky] 66)) (blk w.heap.size #[.int .i64 kx, .int .i64 ky] 66 + MS.all w) from (Has.all w).alloc _)
  have HE := hid (Ext.alloc w (.cells #[.int .i64 kx, .int .i64 ky] 66))
  have hin := hH.of_all HA.out
  have f0 := ha.1.c0 hin
  have f1 := ha.2.c0 hin
  have f2 := hb.1.c0 hin
  have f3 := hb.2.c0 hin
  have f4 := hg.1.c0 hin
  have f5 := hg.2.1.c0 hin
  have f6 := hg.2.2.c0 hin
  have Hhas := hid (show Calls Tryd.prog 47 #[.agg #[.int .i64 (wd p), .int .i64 p.length, .slice A p.length c], .int .i64 kx, .int .i64 ky] (w.alloc (.cells #[.int .i64 kx, .int .i64 ky] 66)) fun e w' => e = .returned (.bool (hsI p kx ky)) ∧ Kp (w.alloc (.cells #[.int .i64 kx, .int .i64 ky] 66)) w' from has_any hr hp hin kx ky)
  have Hm := hid (show minB p (ax, ay) (bx, by') (kx, ky) = (decide ((kx, ky) ≠ (ax, ay)) && (decide ((kx, ky) ≠ (bx, by')) && hsI p kx ky)) from rfl)
  obtain ⟨R, hR⟩ : ∃ R, R = minB p (ax, ay) (bx, by') (kx, ky) := ⟨_, rfl⟩
  rw [← hR]
  rw [← hR] at Hm
  have HK := hid (fun (w' : World) (h : Kp (w.alloc (.cells #[.int .i64 kx, .int .i64 ky] 66)) w') => show Kp w w' from ⟨fun M hM => h.1 _ (hM.of_all HA.out), HE.out.trans h.2⟩)
  clear hr hp ha hb hg hH hin hR
  by_cases e1 : kx = ax ∧ ky = ay
  · obtain ⟨rfl, rfl⟩ := e1
    have HR := hid (show R = false by rw [Hm.out]; simp)
    clear Hm
    go_enter Tryd.func70, Tryd.ntmps70
    go_wp2
    go_ret
    exact ⟨by rw [HR.out]; rfl, HK.out _ (Kp.refl _)⟩
  · have d1 : decide ((kx, ky) ≠ (ax, ay)) = true := decide_eq_true (by simp only [ne_eq, Prod.mk.injEq]; exact e1)
    by_cases e2 : kx = bx ∧ ky = by'
    · obtain ⟨rfl, rfl⟩ := e2
      have HR := hid (show R = false by rw [Hm.out]; simp)
      clear Hm d1
      by_cases g1 : kx = ax
      · have g2 : ¬ ky = ay := fun h => e1 ⟨g1, h⟩
        subst g1
        clear e1
        go_enter Tryd.func70, Tryd.ntmps70
        go_wp2
        go_ret
        exact ⟨by rw [HR.out]; rfl, HK.out _ (Kp.refl _)⟩
      · clear e1
        go_enter Tryd.func70, Tryd.ntmps70
        go_wp2
        go_ret
        exact ⟨by rw [HR.out]; rfl, HK.out _ (Kp.refl _)⟩
    · have d2 : decide ((kx, ky) ≠ (bx, by')) = true := decide_eq_true (by simp only [ne_eq, Prod.mk.injEq]; exact e2)
      have HR := hid (show R = hsI p kx ky by rw [Hm.out, d1, d2]; simp)
      clear Hm d1 d2
      have g1 : kx ≠ ax ∨ (kx = ax ∧ ky ≠ ay) := by
        by_cases h : kx = ax
        · exact .inr ⟨h, fun h2 => e1 ⟨h, h2⟩⟩
        · exact .inl h
      have g2 : kx ≠ bx ∨ (kx = bx ∧ ky ≠ by') := by
        by_cases h : kx = bx
        · exact .inr ⟨h, fun h2 => e2 ⟨h, h2⟩⟩
        · exact .inl h
      clear e1 e2
      generalize hsI p kx ky = q at *
      rcases g1 with g1 | ⟨rfl, g1⟩
      · rcases g2 with g2 | ⟨rfl, g2⟩
        · go_enter Tryd.func70, Tryd.ntmps70
          go_wp2_with (go_at_call 47; refine Hhas.out.mono ?_; rintro e5 w5 ⟨rfl, k5⟩; have K5 := hid k5; clear k5)
          go_ret
          exact ⟨by rw [HR.out]; rfl, HK.out _ K5.out⟩
        · go_enter Tryd.func70, Tryd.ntmps70
          go_wp2_with (go_at_call 47; refine Hhas.out.mono ?_; rintro e5 w5 ⟨rfl, k5⟩; have K5 := hid k5; clear k5)
          go_ret
          exact ⟨by rw [HR.out]; rfl, HK.out _ K5.out⟩
      · rcases g2 with g2 | ⟨rfl, g2⟩
        · go_enter Tryd.func70, Tryd.ntmps70
          go_wp2_with (go_at_call 47; refine Hhas.out.mono ?_; rintro e5 w5 ⟨rfl, k5⟩; have K5 := hid k5; clear k5)
          go_ret
          exact ⟨by rw [HR.out]; rfl, HK.out _ K5.out⟩
        · go_enter Tryd.func70, Tryd.ntmps70
          go_wp2_with (go_at_call 47; refine Hhas.out.mono ?_; rintro e5 w5 ⟨rfl, k5⟩; have K5 := hid k5; clear k5)
          go_ret
          exact ⟨by rw [HR.out]; rfl, HK.out _ K5.out⟩
end Go.Proofs.YtcdhimnmbpllgaaDoor

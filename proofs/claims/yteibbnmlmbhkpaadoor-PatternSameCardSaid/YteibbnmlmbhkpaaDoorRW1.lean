/-
  The walks of the reference's modulo, At, To, symmetric, translated.
-/
import Derived.Test.YteibbnmlmbhkpaaDoorPSym
namespace Go.Proofs.YteibbnmlmbhkpaaDoor
open Go.RowKit
set_option linter.unusedVariables false
set_option linter.unusedSimpArgs false
set_option maxHeartbeats 1000000
set_option maxRecDepth 100000

theorem modulo_any (n m : Int) (w : World) (h0 : 0 < m) (h1 : m ≤ 1000) :
    Calls Tryd.prog 77 #[.int .i64 n, .int .i64 m] w fun e w' => e = .returned (.int .i64 (n % m)) ∧ ∃ q, w' = w.drewN q := by
  obtain ⟨k1, k2, k3⟩ := mod_go (n := n) h0
  have hm : ¬ m = 0 := by omega
  have hw : IntKind.i64.wrap (n.tmod m + m) = n.tmod m + m := by rw [IntKind.wrap_i64]; omega
  go_enter Tryd.func77, Tryd.ntmps77
  go_wp2
  go_ret
  exact ⟨rfl, 0, rfl⟩
theorem refTo_any (m : Mv) (x y : Int) (w : World) :
    Calls Tryd.prog 41 #[m.v, .int .i64 x, .int .i64 y] w fun e w' => e = .returned (.tuple #[.int .i64 (m.toX x y), .int .i64 (m.toY x y)]) ∧ Kp w w' := by
  obtain ⟨a, b, c, d, e, f⟩ := m
  have H := hid ((Has.all w).alloc (.cells #[.int .i64 a, .int .i64 b, .int .i64 c, .int .i64 d, .int .i64 e, .int .i64 f] 41))
  have HE := hid (Ext.alloc w (.cells #[.int .i64 a, .int .i64 b, .int .i64 c, .int .i64 d, .int .i64 e, .int .i64 f] 41))
  show Calls Tryd.prog 41 #[.agg #[.int .i64 a, .int .i64 b, .int .i64 c, .int .i64 d, .int .i64 e, .int .i64 f], .int .i64 x, .int .i64 y] w _
  go_enter Tryd.func41, Tryd.ntmps41
  go_wp2
  go_quiet (fail)
  go_wp2
  go_ret2
  exact ⟨rfl, Kp.drewN ⟨fun M hM => hM.of_all H.out, HE.out⟩ _⟩
/-- A row of a pattern that is read; the first row. -/
theorem RdS.row0 {F : MS} {p : List ByteArray} {A : Option Addr} {c : Nat} {w : World} (h : RdS F RT.str p (.slice A p.length c)) (hp : PatOk p) (hH : Has w F) :
    ∃ b o s0, A = some ⟨b, o, none⟩ ∧ w.cell? ⟨b, o, none⟩ = some (.string s0) ∧ s0.size = wd p := by
  obtain ⟨s, hs⟩ : ∃ s, p[0]? = some s := ⟨_, List.getElem?_eq_getElem hp.h1⟩
  obtain ⟨b, o, hA, e3⟩ := h.getStr hs
  refine ⟨b, o, s, hA, ?_, ?_⟩
  · have := e3.c0 hH
    rwa [Nat.add_zero] at this
  · exact hp.rows s (List.mem_of_getElem? hs)
theorem at_any {F : MS} {p : List ByteArray} {A : Option Addr} {c : Nat} {w : World} (hr : RdS F RT.str p (.slice A p.length c)) (hp : PatOk p) (hH : Has w F) (x y : Int) :
    Calls Tryd.prog 49 #[.slice A p.length c, .int .i64 x, .int .i64 y] w fun e w' => e = .returned (.int .u8 (col p x y)) ∧ ∃ q, w' = w.drewN q := by
  obtain ⟨b, o, s0, hA, f0, hs0⟩ := hr.row0 hp hH
  obtain ⟨p1, p6, w1, w6, hrows⟩ := hp
  have hy0 := Int.emod_nonneg y (show (p.length : Int) ≠ 0 by omega)
  have hy1 := Int.emod_lt_of_pos y (show (0 : Int) < p.length by omega)
  have hx0 := Int.emod_nonneg x (show (wd p : Int) ≠ 0 by omega)
  have hx1 := Int.emod_lt_of_pos x (show (0 : Int) < wd p by omega)
  obtain ⟨i, hi⟩ : ∃ i : Nat, y % p.length = i := ⟨(y % p.length).toNat, by omega⟩
  obtain ⟨j, hj⟩ : ∃ j : Nat, x % wd p = j := ⟨(x % wd p).toNat, by omega⟩
  obtain ⟨s, hs⟩ : ∃ s, p[i]? = some s := ⟨_, List.getElem?_eq_getElem (by omega)⟩
  obtain ⟨b', o', hA', e3⟩ := hr.getStr hs
  rw [hA] at hA'
  injection hA' with hA'
  injection hA' with hb ho _
  subst hb
  subst ho
  subst hA
  have hnc := hr.cells.2.1
  have hsz := hrows s (List.mem_of_getElem? hs)
  have hcol := hid (show col p x y = bt s j by unfold col; rw [hi, hj, Int.toNat_natCast, Int.toNat_natCast]; simp [List.getD, hs])
  have f1 := e3.c0 hH
  have M1 := hid (fun (W : World) => modulo_any y p.length W (by omega) (by omega))
  have M2 := hid (fun (W : World) => modulo_any x s0.size W (by omega) (by omega))
  rw [hi] at M1
  rw [hs0, hj] at M2
  rw [← hs0] at M2
  have hiI : (i : Int) < p.length := by omega
  have hjI : (j : Int) < s.size := by omega
  have hi0 : (0 : Int) ≤ (i : Int) := by omega
  have hj0 : (0 : Int) ≤ (j : Int) := by omega
  have h1I : (0 : Int) < p.length := by omega
  have hjn : j < s.size := by omega
  have hbt := bt_eq s j hjn
  have hs06 : (s0.size : Int) ≤ 6 := by omega
  rw [hcol.out]
  clear e3 hr hrows hs hi hj hx0 hx1 hy0 hy1 hH hsz p1 w1 w6 hs0
  go_enter Tryd.func49, Tryd.ntmps49
  go_wp2
  go_quiet (first | (go_at_call 77; with_reducible refine Calls.quiet_of (M1.out _)) | (go_at_call 77; with_reducible refine Calls.quiet_of (M2.out _)))
  go_wp2
  go_ret
  exact ⟨rfl, _, rfl⟩
end Go.Proofs.YteibbnmlmbhkpaaDoor

/-
  The walks of mod, to, colour, keeps.
-/
import Derived.Test.YteibbnmlmbhkpaaDoorPPlain
import Derived.Test.YteibbnmlmbhkpaaDoorRows
namespace Go.Proofs.YteibbnmlmbhkpaaDoor
open Go.RowKit
set_option linter.unusedVariables false
set_option linter.unusedSimpArgs false
set_option maxHeartbeats 1000000
set_option maxRecDepth 100000

theorem mod_any (n m : Int) (w : World) (h0 : 0 < m) (h1 : m ≤ 1000) :
    Calls Tryd.prog 76 #[.int .i64 n, .int .i64 m] w fun e w' => e = .returned (.int .i64 (n % m)) ∧ ∃ q, w' = w.drewN q := by
  obtain ⟨k1, k2, k3⟩ := mod_go (n := n) h0
  have hm : ¬ m = 0 := by omega
  have hw : IntKind.i64.wrap (n.tmod m + m) = n.tmod m + m := by rw [IntKind.wrap_i64]; omega
  go_enter Tryd.func76, Tryd.ntmps76
  go_wp2
  go_ret
  exact ⟨rfl, 0, rfl⟩
/-- A move as a value. -/
def Mv.v (m : Mv) : Value := .agg #[.int .i64 m.a, .int .i64 m.b, .int .i64 m.c, .int .i64 m.d, .int .i64 m.e, .int .i64 m.f]
theorem to_any (m : Mv) (x y : Int) (w : World) :
    Calls Tryd.prog 42 #[m.v, .int .i64 x, .int .i64 y] w fun e w' => e = .returned (.tuple #[.int .i64 (m.toX x y), .int .i64 (m.toY x y)]) ∧ Kp w w' := by
  obtain ⟨a, b, c, d, e, f⟩ := m
  have H := hid ((Has.all w).alloc (.cells #[.int .i64 a, .int .i64 b, .int .i64 c, .int .i64 d, .int .i64 e, .int .i64 f] 41))
  have HE := hid (Ext.alloc w (.cells #[.int .i64 a, .int .i64 b, .int .i64 c, .int .i64 d, .int .i64 e, .int .i64 f] 41))
  show Calls Tryd.prog 42 #[.agg #[.int .i64 a, .int .i64 b, .int .i64 c, .int .i64 d, .int .i64 e, .int .i64 f], .int .i64 x, .int .i64 y] w _
  go_enter Tryd.func42, Tryd.ntmps42
  go_wp2
  go_quiet (fail)
  go_wp2
  go_ret2
  exact ⟨rfl, Kp.drewN ⟨fun M hM => hM.of_all H.out, HE.out⟩ _⟩
/-- A pattern that is read: its rows. -/
def RT.str : RT ByteArray := ⟨1, fun _ s cs => cs = [.string s], fun _ _ _ h => by rw [h]; rfl, fun _ _ _ _ h => h⟩
theorem RdS.getStr {F : MS} {l : List ByteArray} {A : Option Addr} {n c : Nat} (h : RdS F RT.str l (.slice A n c)) {i : Nat} {a : ByteArray} (ha : l[i]? = some a) : ∃ b o, A = some ⟨b, o, none⟩ ∧ F.at b (o + i) (.string a) := by
  obtain ⟨b, o, cs, h1, h2, h3⟩ := h.get ha (Nat.one_pos)
  obtain rfl : cs = [.string a] := h2
  exact ⟨b, o, h1, by simpa [RT.str] using h3 0 _ rfl⟩
/-- A floor at block fb. -/
def Flo (F : MS) (p : List ByteArray) (fb : Nat) : Prop := ∃ A c, F.at fb 0 (.int .i64 (wd p)) ∧ F.at fb 1 (.int .i64 p.length) ∧ F.at fb 2 (.slice A p.length c) ∧ RdS F RT.str p (.slice A p.length c)
theorem Flo.more {F : MS} {p : List ByteArray} {fb : Nat} (h : Flo F p fb) (X : MS) : Flo (X + F) p fb := by
  obtain ⟨A, c, h1, h2, h3, h4⟩ := h
  exact ⟨A, c, h1.more X, h2.more X, h3.more X, h4.more X⟩
theorem Flo.all {F : MS} {p : List ByteArray} {fb : Nat} {w : World} (h : Flo F p fb) (hH : Has w F) : Flo (MS.all w) p fb := by
  obtain ⟨A, c, h1, h2, h3, h4⟩ := h
  exact ⟨A, c, at_all h1 hH, at_all h2 hH, at_all h3 hH, rd_all (F := F) (T := RT.str) (fun _ _ h => h) h4 hH⟩
theorem bt_eq (s : ByteArray) (i : Nat) (h : i < s.size) : ((s[i]'h).toNat : Int) = bt s i := by
  have h' : i < s.data.size := h
  unfold bt Array.getD
  rw [dif_pos h']
  rfl
theorem colour_any {F : MS} {p : List ByteArray} {fb : Nat} {w : World} (h : Flo F p fb) (hp : PatOk p) (hH : Has w F) (x y : Int) :
    Calls Tryd.prog 47 #[.pointer (some ⟨fb, 0, none⟩), .int .i64 x, .int .i64 y] w fun e w' => e = .returned (.int .u8 (col p x y)) ∧ ∃ q, w' = w.drewN q := by
  obtain ⟨A, c, e0, e1, e2, hr⟩ := h
  obtain ⟨p1, p6, w1, w6, hrows⟩ := hp
  have hy0 := Int.emod_nonneg y (show (p.length : Int) ≠ 0 by omega)
  have hy1 := Int.emod_lt_of_pos y (show (0 : Int) < p.length by omega)
  have hx0 := Int.emod_nonneg x (show (wd p : Int) ≠ 0 by omega)
  have hx1 := Int.emod_lt_of_pos x (show (0 : Int) < wd p by omega)
  obtain ⟨i, hi⟩ : ∃ i : Nat, y % p.length = i := ⟨(y % p.length).toNat, by omega⟩
  obtain ⟨j, hj⟩ : ∃ j : Nat, x % wd p = j := ⟨(x % wd p).toNat, by omega⟩
  obtain ⟨s, hs⟩ : ∃ s, p[i]? = some s := ⟨_, List.getElem?_eq_getElem (by omega)⟩
  obtain ⟨b, o, hA, e3⟩ := hr.getStr hs
  subst hA
  have hsz := hrows s (List.mem_of_getElem? hs)
  have hcol := hid (show col p x y = bt s j by unfold col; rw [hi, hj, Int.toNat_natCast, Int.toNat_natCast]; simp [List.getD, hs])
  have f0 := e0.c0 hH
  have f1 := e1.c0 hH
  have f2 := e2.c0 hH
  have f3 := e3.c0 hH
  have Hi := hid hi
  have Hj := hid hj
  have M1 := hid (fun (W : World) => mod_any y p.length W (by omega) (by omega))
  have M2 := hid (fun (W : World) => mod_any x (wd p) W (by omega) (by omega))
  rw [hi] at M1
  rw [hj] at M2
  have hiI : (i : Int) < p.length := by omega
  have hjI : (j : Int) < s.size := by omega
  have hi0 : (0 : Int) ≤ (i : Int) := by omega
  have hj0 : (0 : Int) ≤ (j : Int) := by omega
  have hjn : j < s.size := by omega
  have hbt := bt_eq s j hjn
  rw [hcol.out]
  clear e0 e1 e2 e3 hr hrows hs hi hj hx0 hx1 hy0 hy1 hH hsz p1 p6 w1 w6
  go_enter Tryd.func47, Tryd.ntmps47
  go_wp2
  go_quiet (first | (go_at_call 76; with_reducible refine Calls.quiet_of (M1.out _)) | (go_at_call 76; with_reducible refine Calls.quiet_of (M2.out _)))
  go_wp2
  go_ret
  exact ⟨rfl, _, rfl⟩
end Go.Proofs.YteibbnmlmbhkpaaDoor

/-
  The walks of the reference's symmetric, translated.
-/
import Derived.Test.YteibbnmlmbhkpaaDoorRW1
namespace Go.Proofs.YteibbnmlmbhkpaaDoor
open Go.RowKit
set_option linter.unusedVariables false
set_option linter.unusedSimpArgs false
set_option maxHeartbeats 1000000
set_option maxRecDepth 100000

theorem symmetric_any {F : MS} {p : List ByteArray} {A : Option Addr} {c : Nat} {w : World} (hr : RdS F RT.str p (.slice A p.length c)) (hp : PatOk p) (hH : Has w F) (m : Mv) :
    Calls Tryd.prog 62 #[.slice A p.length c, m.v] w fun e w' => e = .returned (.bool (keepsB p m)) ∧ Kp w w' := by
  have hn := hp.area
  obtain ⟨b0, o0, s0, hA, f0', hs0⟩ := hr.row0 hp hH
  have Hr := hid hr
  have Hp := hid hp
  have HH := hid hH
  have hnc := hr.cells.2.1
  obtain ⟨a, b, c', d, e, f⟩ := m
  obtain ⟨q, hq⟩ : ∃ q, q = keepsB p ⟨a, b, c', d, e, f⟩ := ⟨_, rfl⟩
  rw [← hq]
  have Hq := hid hq
  have HA := hid ((Has.all w).alloc (.cells #[.int .i64 a, .int .i64 b, .int .i64 c', .int .i64 d, .int .i64 e, .int .i64 f] 41))
  have HEA := hid (Ext.alloc w (.cells #[.int .i64 a, .int .i64 b, .int .i64 c', .int .i64 d, .int .i64 e, .int .i64 f] 41))
  have hw6 : (s0.size : Int) ≤ 6 := by have := hp.w6; omega
  have hh6 : (p.length : Int) ≤ 6 := by have := hp.h6; omega
  have hl1 : (0 : Int) < p.length := by have := hp.h1; omega
  have hl1n : 0 < p.length := hp.h1
  subst hA
  show Calls Tryd.prog 62 #[.slice (some ⟨b0, o0, none⟩) p.length c, .agg #[.int .i64 a, .int .i64 b, .int .i64 c', .int .i64 d, .int .i64 e, .int .i64 f]] w _
  have f0 : (w.alloc (.cells #[.int .i64 a, .int .i64 b, .int .i64 c', .int .i64 d, .int .i64 e, .int .i64 f] 41)).cell? ⟨b0, o0, none⟩ = some (.string s0) := by
    obtain ⟨b1, o1, s1, hA1, g1, g2⟩ := hr.row0 hp (hH.of_all HA.out)
    injection hA1 with hA1
    injection hA1 with hb ho _
    subst hb
    subst ho
    obtain ⟨s, hs⟩ : ∃ s, p[0]? = some s := ⟨_, List.getElem?_eq_getElem hp.h1⟩
    obtain ⟨b2, o2, hA2, e3⟩ := hr.getStr hs
    injection hA2 with hA2
    injection hA2 with hb ho _
    subst hb
    subst ho
    have k1 := e3.c0 hH
    have k2 := e3.c0 (hH.of_all HA.out)
    rw [Nat.add_zero] at k1 k2
    rw [k2, ← k1, f0']
  obtain ⟨N, hN⟩ : ∃ N, N = wd p * p.length := ⟨_, rfl⟩
  have HN := hid hN
  have hw1 : IntKind.i64.wrap ((s0.size : Int) * p.length) = N := by
    rw [hs0, show (wd p : Int) * p.length = ((wd p * p.length : Nat) : Int) by rw [Int.natCast_mul], ← hN, IntKind.wrap_i64]
    omega
  have NI : (N : Int) ≤ 36 := by omega
  clear hN hn hr hp hH hq f0'
  clear hs0
  go_enter Tryd.func62, Tryd.ntmps62
  go_wp2
  clear f0
  obtain ⟨gm, hgm⟩ : ∃ gm, gm = w.heap.size := ⟨_, rfl⟩
  rw [← hgm] at HA ⊢
  obtain ⟨G, hG⟩ : ∃ G, G = pts gm (.cells #[.int .i64 a, .int .i64 b, .int .i64 c', .int .i64 d, .int .i64 e, .int .i64 f] 41) + MS.all w := ⟨_, rfl⟩
  have HG := hid (show Has (w.alloc (.cells #[.int .i64 a, .int .i64 b, .int .i64 c', .int .i64 d, .int .i64 e, .int .i64 f] 41)) G by rw [hG]; exact HA.out)
  have HF := hid (show ∀ W, Has W G → Has W F from fun W h => HH.out.of_all (by rw [hG] at h; exact h))
  have HK := hid (show ∀ W, Has W G → ∀ M, Has w M → Has W M from fun W h M hM => hM.of_all (by rw [hG] at h; exact h))
  have Hm := hid (show ∀ W, Has W G → W.cell? ⟨gm, 0, none⟩ = some (.int .i64 a) ∧ W.cell? ⟨gm, 1, none⟩ = some (.int .i64 b) ∧ W.cell? ⟨gm, 2, none⟩ = some (.int .i64 c') ∧ W.cell? ⟨gm, 3, none⟩ = some (.int .i64 d) ∧ W.cell? ⟨gm, 4, none⟩ = some (.int .i64 e) ∧ W.cell? ⟨gm, 5, none⟩ = some (.int .i64 f) from fun W h => by
    rw [hG] at h
    have h' : Has W (blk gm #[.int .i64 a, .int .i64 b, .int .i64 c', .int .i64 d, .int .i64 e, .int .i64 f] 41 + MS.all w) := h
    exact ⟨h'.at_ rfl, h'.at_ rfl, h'.at_ rfl, h'.at_ rfl, h'.at_ rfl, h'.at_ rfl⟩)
  clear hG HA hgm
  go_loopw [7] (fun v wr => ∃ y : Nat, y ≤ N ∧ v = .int .i64 y ∧ (List.range y).all (keepR p ⟨a, b, c', d, e, f⟩) = true ∧ Has wr G ∧ Ext w wr) (fun v _ => N - (intOf v).toNat)
  case atStart => exact ⟨0, Nat.zero_le _, rfl, rfl, HG.out, HEA.out⟩
  case round =>
    obtain ⟨y, hy, rfl, hall, hW, hE⟩ := hrel
    have Hall := hid hall
    have HW := hid hW
    have HE := hid hE
    clear hall hW hE HG HEA
    by_cases hlt : y < N
    · have hltI : (y : Int) < N := by omega
      have Hlt := hid hlt
      have Hn := hid (all_range_succ (keepR p ⟨a, b, c', d, e, f⟩) y)
      have Hm1 := hid (fun h => all_range_false (p := keepR p ⟨a, b, c', d, e, f⟩) hlt h)
      clear hlt
      go_wp2
      go_loopw [8] (fun v wr => ∃ x : Nat, x ≤ N ∧ v = .int .i64 x ∧ (List.range x).all (keepC p ⟨a, b, c', d, e, f⟩ y) = true ∧ Has wr G ∧ Ext w wr) (fun v _ => N - (intOf v).toNat)
      case atStart => exact ⟨0, Nat.zero_le _, rfl, rfl, HW.out, HE.out⟩
      case round =>
        obtain ⟨x, hx, rfl, hall, hW, hE⟩ := hrel
        have Hall2 := hid hall
        have HWx := hid hW
        have HEx := hid hE
        clear hall hW hE HW HE
        by_cases hlx : x < N
        · have hlxI : (x : Int) < N := by omega
          have Hlx := hid hlx
          have Hn2 := hid (all_range_succ (keepC p ⟨a, b, c', d, e, f⟩ y) x)
          have Hm2 := hid (fun h => all_range_false (p := keepC p ⟨a, b, c', d, e, f⟩ y) hlx h)
          have Hkc := hid (show keepC p ⟨a, b, c', d, e, f⟩ y x = (col p (Mv.toX ⟨a, b, c', d, e, f⟩ x y) (Mv.toY ⟨a, b, c', d, e, f⟩ x y) == col p x y) from rfl)
          obtain ⟨u, hu⟩ : ∃ u, u = Mv.toX ⟨a, b, c', d, e, f⟩ x y := ⟨_, rfl⟩
          obtain ⟨v, hv⟩ : ∃ v, v = Mv.toY ⟨a, b, c', d, e, f⟩ x y := ⟨_, rfl⟩
          have Hto := hid (fun (W : World) => refTo_any ⟨a, b, c', d, e, f⟩ x y W)
          rw [← hu, ← hv] at Hto Hkc
          obtain ⟨g0, g1, g2, g3, g4, g5⟩ := Hm.out wr HWx.out
          obtain ⟨c1, hc1⟩ : ∃ c1, c1 = col p u v := ⟨_, rfl⟩
          obtain ⟨c2, hc2⟩ : ∃ c2, c2 = col p x y := ⟨_, rfl⟩
          rw [← hc1, ← hc2] at Hkc
          have C1 := hid (fun (W : World) (hW : Has W F) => at_any Hr.out Hp.out hW u v)
          have C2 := hid (fun (W : World) (hW : Has W F) => at_any Hr.out Hp.out hW x y)
          rw [← hc1] at C1
          rw [← hc2] at C2
          clear hlx hu hv hc1 hc2
          by_cases heq : c1 = c2
          · have hok := hid (show keepC p ⟨a, b, c', d, e, f⟩ y x = true by rw [Hkc.out]; simp [heq])
            have hne : (c2 != c1) = false := by simp [heq]
            clear heq
            go_wp2_with (first
              | (go_at_call 49; with_reducible refine (C1.out _ (HF.out _ (K2.out.drewN _))).mono ?_; rintro e8 w8 ⟨rfl, q8, rfl⟩)
              | (go_at_call 49; with_reducible refine (C2.out _ (HF.out _ K2.out)).mono ?_; rintro e7 w7 ⟨rfl, q7, rfl⟩)
              | (go_at_call 41; refine (Hto.out _).mono ?_; rintro e6 w6 ⟨rfl, k1⟩; have K2 := hid (k1.1 _ HWx.out); have E2 := hid (HEx.out.trans k1.2); clear k1))
            go_roundw
            case rel => exact ⟨x + 1, Hlx.out, by go_num, by rw [Hn2.out, Hall2.out, hok.out]; rfl, K2.out.drewN _, E2.out.trans (Ext.drewN _ _)⟩
            case measure => have := Hlx.out; simp [intOf]; omega
          · have hf := hid (show q = false by rw [Hq.out]; unfold keepsB; rw [← HN.out]; exact Hm1.out (by unfold keepR; rw [← HN.out]; exact Hm2.out (by rw [Hkc.out]; simp [heq])))
            have hne : (c2 != c1) = true := by simp; exact fun h => heq h.symm
            clear heq
            go_wp2_with (first
              | (go_at_call 49; with_reducible refine (C1.out _ (HF.out _ (K2.out.drewN _))).mono ?_; rintro e8 w8 ⟨rfl, q8, rfl⟩)
              | (go_at_call 49; with_reducible refine (C2.out _ (HF.out _ K2.out)).mono ?_; rintro e7 w7 ⟨rfl, q7, rfl⟩)
              | (go_at_call 41; refine (Hto.out _).mono ?_; rintro e6 w6 ⟨rfl, k1⟩; have K2 := hid (k1.1 _ HWx.out); have E2 := hid (HEx.out.trans k1.2); clear k1))
            go_ret
            exact ⟨by rw [hf.out]; rfl, HK.out _ (K2.out.drewN _), E2.out.trans (Ext.drewN _ _)⟩
        · have hxe : x = N := by omega
          subst hxe
          have hok := hid (show keepR p ⟨a, b, c', d, e, f⟩ y = true by unfold keepR; rw [← HN.out]; exact Hall2.out)
          clear hlx
          go_wp2
          go_roundw
          case rel => exact ⟨y + 1, Hlt.out, by go_num, by rw [Hn.out, Hall.out, hok.out]; rfl, HWx.out, HEx.out⟩
          case measure => have := Hlt.out; simp [intOf]; omega
    · have hye : y = N := by omega
      subst hye
      have hq := hid (show q = true by rw [Hq.out]; unfold keepsB; rw [← HN.out]; exact Hall.out)
      clear hlt
      go_wp2
      go_ret
      exact ⟨by rw [hq.out]; rfl, HK.out _ HW.out, HE.out⟩
/-- Does a translation keep a period? -/
def trC (p : List ByteArray) (e f : Int) (y x : Nat) : Bool := col p x y == col p (x + e) (y + f)
def trR (p : List ByteArray) (e f : Int) (y : Nat) : Bool := (List.range (wd p)).all (trC p e f y)
def trB (p : List ByteArray) (e f : Int) : Bool := (List.range p.length).all (trR p e f)
theorem translated_any {F : MS} {p : List ByteArray} {A : Option Addr} {c : Nat} {w : World} (hr : RdS F RT.str p (.slice A p.length c)) (hp : PatOk p) (hH : Has w F) (ex fy : Int) (he : -1000 ≤ ex ∧ ex ≤ 1000) (hf : -1000 ≤ fy ∧ fy ≤ 1000) :
    Calls Tryd.prog 54 #[.slice A p.length c, .int .i64 ex, .int .i64 fy] w fun e w' => e = .returned (.bool (trB p ex fy)) ∧ ∃ q, w' = w.drewN q := by
  obtain ⟨b0, o0, s0, hA, f0, hs0⟩ := hr.row0 hp hH
  have Hr := hid hr
  have Hp := hid hp
  have HH := hid hH
  have hnc := hr.cells.2.1
  obtain ⟨q, hq⟩ : ∃ q, q = trB p ex fy := ⟨_, rfl⟩
  rw [← hq]
  have Hq := hid hq
  have hw6 : (s0.size : Int) ≤ 6 := by have := hp.w6; omega
  have hh6 : (p.length : Int) ≤ 6 := by have := hp.h6; omega
  have hl1 : (0 : Int) < p.length := by have := hp.h1; omega
  have hl1n : 0 < p.length := hp.h1
  subst hA
  have F0 := hid f0
  have HW := hid hs0
  clear hr hp hH hq hs0 f0
  go_enter Tryd.func54, Tryd.ntmps54
  go_wp2
  go_loopw [7] (fun v wr => ∃ y : Nat, y ≤ p.length ∧ v = .int .i64 y ∧ (List.range y).all (trR p ex fy) = true ∧ ∃ m, wr = w.drewN m) (fun v _ => p.length - (intOf v).toNat)
  case atStart => exact ⟨0, Nat.zero_le _, rfl, rfl, 0, rfl⟩
  case round =>
    obtain ⟨y, hy, rfl, hall, m1, rfl⟩ := hrel
    have Hall := hid hall
    clear hall
    by_cases hlt : y < p.length
    · have hltI : (y : Int) < p.length := by omega
      have Hlt := hid hlt
      have Hn := hid (all_range_succ (trR p ex fy) y)
      have Hm1 := hid (fun h => all_range_false (p := trR p ex fy) hlt h)
      clear hlt
      go_wp2
      go_loopw [8] (fun v wr => ∃ x : Nat, x ≤ s0.size ∧ v = .int .i64 x ∧ (List.range x).all (trC p ex fy y) = true ∧ ∃ m, wr = w.drewN m) (fun v _ => s0.size - (intOf v).toNat)
      case atStart => exact ⟨0, Nat.zero_le _, rfl, rfl, m1, rfl⟩
      case round =>
        clear m1
        obtain ⟨x, hx, rfl, hall, m2, rfl⟩ := hrel
        have Hall2 := hid hall
        have f0 : (w.drewN m2).cell? ⟨b0, o0, none⟩ = some (.string s0) := F0.out
        clear hall
        by_cases hlx : x < s0.size
        · have hlxI : (x : Int) < s0.size := by omega
          have Hlx := hid hlx
          have Hn2 := hid (all_range_succ (trC p ex fy y) x)
          have Hm2 := hid (fun h => all_range_false (p := trC p ex fy y) hlx h)
          obtain ⟨c1, hc1⟩ : ∃ c1, c1 = col p x y := ⟨_, rfl⟩
          obtain ⟨c2, hc2⟩ : ∃ c2, c2 = col p (x + ex) (y + fy) := ⟨_, rfl⟩
          have Hkc := hid (show trC p ex fy y x = (c1 == c2) by rw [hc1, hc2]; rfl)
          have C1 := hid (fun (W : World) (hW : Has W F) => at_any Hr.out Hp.out hW x y)
          have C2 := hid (fun (W : World) (hW : Has W F) => at_any Hr.out Hp.out hW (x + ex) (y + fy))
          have wx : IntKind.i64.wrap ((x : Int) + ex) = x + ex := by rw [IntKind.wrap_i64]; omega
          have wy : IntKind.i64.wrap ((y : Int) + fy) = y + fy := by rw [IntKind.wrap_i64]; omega
          rw [← hc1] at C1
          rw [← hc2] at C2
          clear hlx hc1 hc2
          by_cases heq : c1 = c2
          · have hok := hid (show trC p ex fy y x = true by rw [Hkc.out]; simp [heq])
            have hne : (c1 != c2) = false := by simp [heq]
            clear heq
            go_wp2_with (first
              | (go_at_call 49; with_reducible refine (C2.out _ (HH.out.drewN _)).mono ?_; rintro e8 w8 ⟨rfl, q8, rfl⟩)
              | (go_at_call 49; with_reducible refine (C1.out _ (HH.out.drewN _)).mono ?_; rintro e7 w7 ⟨rfl, q7, rfl⟩))
            go_roundw
            case rel => exact ⟨x + 1, Hlx.out, by go_num, by rw [Hn2.out, Hall2.out, hok.out]; rfl, _, rfl⟩
            case measure => have := Hlx.out; simp [intOf]; omega
          · have hf := hid (show q = false by rw [Hq.out]; unfold trB; exact Hm1.out (by unfold trR; rw [← HW.out]; exact Hm2.out (by rw [Hkc.out]; simp [heq])))
            have hne : (c1 != c2) = true := by simp [heq]
            clear heq
            go_wp2_with (first
              | (go_at_call 49; with_reducible refine (C2.out _ (HH.out.drewN _)).mono ?_; rintro e8 w8 ⟨rfl, q8, rfl⟩)
              | (go_at_call 49; with_reducible refine (C1.out _ (HH.out.drewN _)).mono ?_; rintro e7 w7 ⟨rfl, q7, rfl⟩))
            go_ret
            exact ⟨by rw [hf.out]; rfl, _, rfl⟩
        · have hxe : x = s0.size := by omega
          subst hxe
          have hok := hid (show trR p ex fy y = true by unfold trR; rw [← HW.out]; exact Hall2.out)
          clear hlx
          go_wp2
          go_roundw
          case rel => exact ⟨y + 1, Hlt.out, by go_num, by rw [Hn.out, Hall.out, hok.out]; rfl, m2, rfl⟩
          case measure => have := Hlt.out; simp [intOf]; omega
    · have hye : y = p.length := by omega
      subst hye
      have hq := hid (show q = true by rw [Hq.out]; unfold trB; exact Hall.out)
      clear hlt
      go_wp2
      go_ret
      exact ⟨by rw [hq.out]; rfl, m1, rfl⟩
/-- It keeps the floor. -/
theorem trB_iff {p : List ByteArray} (hp : PatOk p) (e f : Int) : trB p e f = true ↔ Sy p 0 e f := by
  have h1 := hp.h1
  have h2 := hp.w1
  unfold trB trR trC
  rw [List.all_eq_true]
  constructor
  · intro h x y
    have hwI : (0 : Int) < wd p := by omega
    have hlI : (0 : Int) < p.length := by omega
    obtain ⟨x0, hx0⟩ : ∃ x0 : Nat, x % wd p = x0 := ⟨(x % wd p).toNat, by have := Int.emod_nonneg x (show (wd p : Int) ≠ 0 by omega); omega⟩
    obtain ⟨y0, hy0⟩ : ∃ y0 : Nat, y % p.length = y0 := ⟨(y % p.length).toNat, by have := Int.emod_nonneg y (show (p.length : Int) ≠ 0 by omega); omega⟩
    have hxl := Int.emod_lt_of_pos x hwI
    have hyl := Int.emod_lt_of_pos y hlI
    have h3 := beq_iff_eq.1 (List.all_eq_true.1 (h y0 (List.mem_range.2 (by omega))) x0 (List.mem_range.2 (by omega)))
    have ex : x = x0 + wd p * (x / wd p) := by rw [← hx0]; exact (Int.emod_add_mul_ediv x _).symm
    have ey : y = y0 + p.length * (y / p.length) := by rw [← hy0]; exact (Int.emod_add_mul_ediv y _).symm
    generalize x / (wd p : Int) = a at ex
    generalize y / (p.length : Int) = b at ey
    subst ex
    subst ey
    show col p (x0 + wd p * a + e) (y0 + p.length * b + f) = col p (x0 + wd p * a) (y0 + p.length * b)
    rw [col_shift, h3, ← col_shift p (x0 + e) (y0 + f) a b]
    congr 1 <;> omega
  · intro h y hy
    rw [List.all_eq_true]
    intro x hx
    rw [beq_iff_eq]
    exact (h x y).symm
end Go.Proofs.YteibbnmlmbhkpaaDoor

/-
  The walk of keeps.
-/
import Derived.Test.YteibbnmlmbhkpaaDoorPW1
namespace Go.Proofs.YteibbnmlmbhkpaaDoor
open Go.RowKit
set_option linter.unusedVariables false
set_option linter.unusedSimpArgs false
set_option maxHeartbeats 1000000
set_option maxRecDepth 100000

theorem keeps_any {F : MS} {p : List ByteArray} {fb : Nat} {w : World} (h : Flo F p fb) (hp : PatOk p) (hH : Has w F) (m : Mv) :
    Calls Tryd.prog 51 #[.pointer (some ⟨fb, 0, none⟩), m.v] w fun e w' => e = .returned (.bool (keepsB p m)) ∧ Kp w w' := by
  have hn := hp.area
  obtain ⟨A, c, e0, e1, e2, hr⟩ := id h
  have He0 := hid e0
  have He1 := hid e1
  have Hfl := hid h
  have Hp := hid hp
  have HH := hid hH
  obtain ⟨a, b, c', d, e, f⟩ := m
  obtain ⟨q, hq⟩ : ∃ q, q = keepsB p ⟨a, b, c', d, e, f⟩ := ⟨_, rfl⟩
  rw [← hq]
  have Hq := hid hq
  have HA := hid ((Has.all w).alloc (.cells #[.int .i64 a, .int .i64 b, .int .i64 c', .int .i64 d, .int .i64 e, .int .i64 f] 41))
  have HEA := hid (Ext.alloc w (.cells #[.int .i64 a, .int .i64 b, .int .i64 c', .int .i64 d, .int .i64 e, .int .i64 f] 41))
  have Hw6 := hid hp.w6
  have Hh6 := hid hp.h6
  clear e0 e1 e2 hr h hp hH hq
  show Calls Tryd.prog 51 #[.pointer (some ⟨fb, 0, none⟩), .agg #[.int .i64 a, .int .i64 b, .int .i64 c', .int .i64 d, .int .i64 e, .int .i64 f]] w _
  have f0 : (w.alloc (.cells #[.int .i64 a, .int .i64 b, .int .i64 c', .int .i64 d, .int .i64 e, .int .i64 f] 41)).cell? ⟨fb, 0, none⟩ = some (.int .i64 (wd p)) := He0.out.c0 (HH.out.of_all HA.out)
  have f1 : (w.alloc (.cells #[.int .i64 a, .int .i64 b, .int .i64 c', .int .i64 d, .int .i64 e, .int .i64 f] 41)).cell? ⟨fb, 1, none⟩ = some (.int .i64 p.length) := He1.out.c0 (HH.out.of_all HA.out)
  obtain ⟨N, hN⟩ : ∃ N, N = wd p * p.length := ⟨_, rfl⟩
  have HN := hid hN
  have hw1 : IntKind.i64.wrap ((wd p : Int) * p.length) = N := by
    rw [show (wd p : Int) * p.length = ((wd p * p.length : Nat) : Int) by rw [Int.natCast_mul], ← hN, IntKind.wrap_i64]
    omega
  have NI : (N : Int) ≤ 36 := by omega
  clear hN hn
  go_enter Tryd.func51, Tryd.ntmps51
  go_wp2
  go_quiet (fail)
  clear f0 f1
  obtain ⟨gm, hgm⟩ : ∃ gm, gm = w.heap.size := ⟨_, rfl⟩
  rw [← hgm] at HA ⊢
  obtain ⟨G, hG⟩ : ∃ G, G = pts gm (.cells #[.int .i64 a, .int .i64 b, .int .i64 c', .int .i64 d, .int .i64 e, .int .i64 f] 41) + MS.all w := ⟨_, rfl⟩
  have HG := hid (show Has (w.alloc (.cells #[.int .i64 a, .int .i64 b, .int .i64 c', .int .i64 d, .int .i64 e, .int .i64 f] 41)) G by rw [hG]; exact HA.out)
  have HF := hid (show ∀ W, Has W G → Has W F from fun W h => HH.out.of_all (by rw [hG] at h; exact h))
  have HK := hid (show ∀ W, Has W G → ∀ M, Has w M → Has W M from fun W h M hM => hM.of_all (by rw [hG] at h; exact h))
  have Hm := hid (show ∀ W, Has W G → W.cell? ⟨gm, 0, none⟩ = some (.int .i64 a) ∧ W.cell? ⟨gm, 1, none⟩ = some (.int .i64 b) ∧ W.cell? ⟨gm, 2, none⟩ = some (.int .i64 c') ∧ W.cell? ⟨gm, 3, none⟩ = some (.int .i64 d) ∧ W.cell? ⟨gm, 4, none⟩ = some (.int .i64 e) ∧ W.cell? ⟨gm, 5, none⟩ = some (.int .i64 f) from fun W h => by
    rw [hG] at h
    have h' : Has W (blk gm #[.int .i64 a, .int .i64 b, .int .i64 c', .int .i64 d, .int .i64 e, .int .i64 f] 41 + MS.all w) := h
    exact ⟨h'.at_ rfl, h'.at_ rfl, h'.at_ rfl, h'.at_ rfl, h'.at_ rfl, h'.at_ rfl⟩)
  clear hG HA hgm
  go_wp2
  go_loopw [20] (fun v wr => ∃ y : Nat, y ≤ N ∧ v = .int .i64 y ∧ (List.range y).all (keepR p ⟨a, b, c', d, e, f⟩) = true ∧ Has wr G ∧ Ext w wr) (fun v _ => N - (intOf v).toNat)
  case atStart => exact ⟨0, Nat.zero_le _, rfl, rfl, HG.out.drewN _, HEA.out.trans (Ext.drewN _ _)⟩
  case round =>
    obtain ⟨y, hy, rfl, hall, hW, hE⟩ := hrel
    have Hall := hid hall
    have HW := hid hW
    have HE := hid hE
    clear hall hW hE HG HEA
    by_cases hlt : y < N
    · have hltI : (y : Int) < N := by omega
      have Hlt := hid hlt
      have Hn := hid (all_range_succ (keepR p ⟨a, b, c', d, e, f⟩) y)
      have Hm1 := hid (fun h => all_range_false (p := keepR p ⟨a, b, c', d, e, f⟩) hlt h)
      clear hlt
      go_wp2
      go_loopw [24] (fun v wr => ∃ x : Nat, x ≤ N ∧ v = .int .i64 x ∧ (List.range x).all (keepC p ⟨a, b, c', d, e, f⟩ y) = true ∧ Has wr G ∧ Ext w wr) (fun v _ => N - (intOf v).toNat)
      case atStart => exact ⟨0, Nat.zero_le _, rfl, rfl, HW.out, HE.out⟩
      case round =>
        obtain ⟨x, hx, rfl, hall, hW, hE⟩ := hrel
        have Hall2 := hid hall
        have HWx := hid hW
        have HEx := hid hE
        clear hall hW hE HW HE
        by_cases hlx : x < N
        · have hlxI : (x : Int) < N := by omega
          have Hlx := hid hlx
          have Hn2 := hid (all_range_succ (keepC p ⟨a, b, c', d, e, f⟩ y) x)
          have Hm2 := hid (fun h => all_range_false (p := keepC p ⟨a, b, c', d, e, f⟩ y) hlx h)
          have Hkc := hid (show keepC p ⟨a, b, c', d, e, f⟩ y x = (col p (Mv.toX ⟨a, b, c', d, e, f⟩ x y) (Mv.toY ⟨a, b, c', d, e, f⟩ x y) == col p x y) from rfl)
          obtain ⟨u, hu⟩ : ∃ u, u = Mv.toX ⟨a, b, c', d, e, f⟩ x y := ⟨_, rfl⟩
          obtain ⟨v, hv⟩ : ∃ v, v = Mv.toY ⟨a, b, c', d, e, f⟩ x y := ⟨_, rfl⟩
          have Hto := hid (fun (W : World) => to_any ⟨a, b, c', d, e, f⟩ x y W)
          rw [← hu, ← hv] at Hto Hkc
          obtain ⟨g0, g1, g2, g3, g4, g5⟩ := Hm.out wr HWx.out
          obtain ⟨c1, hc1⟩ : ∃ c1, c1 = col p u v := ⟨_, rfl⟩
          obtain ⟨c2, hc2⟩ : ∃ c2, c2 = col p x y := ⟨_, rfl⟩
          rw [← hc1, ← hc2] at Hkc
          have C1 := hid (fun (W : World) (hW : Has W F) => colour_any Hfl.out Hp.out hW u v)
          have C2 := hid (fun (W : World) (hW : Has W F) => colour_any Hfl.out Hp.out hW x y)
          rw [← hc1] at C1
          rw [← hc2] at C2
          clear hlx hu hv hc1 hc2
          by_cases heq : c1 = c2
          · have hok := hid (show keepC p ⟨a, b, c', d, e, f⟩ y x = true by rw [Hkc.out]; simp [heq])
            have hne : (c1 != c2) = false := by simp [heq]
            clear heq
            go_wp2_with (first
              | (go_at_call 47; with_reducible refine (C2.out _ (HF.out _ (K2.out.drewN _))).mono ?_; rintro e8 w8 ⟨rfl, q8, rfl⟩)
              | (go_at_call 47; with_reducible refine (C1.out _ (HF.out _ K2.out)).mono ?_; rintro e7 w7 ⟨rfl, q7, rfl⟩)
              | (go_at_call 42; refine (Hto.out _).mono ?_; rintro e6 w6 ⟨rfl, k1⟩; have K2 := hid (k1.1 _ HWx.out); have E2 := hid (HEx.out.trans k1.2); clear k1))
            go_roundw
            case rel => exact ⟨x + 1, Hlx.out, by go_num, by rw [Hn2.out, Hall2.out, hok.out]; rfl, K2.out.drewN _, E2.out.trans (Ext.drewN _ _)⟩
            case measure => have := Hlx.out; simp [intOf]; omega
          · have hf := hid (show q = false by rw [Hq.out]; unfold keepsB; rw [← HN.out]; exact Hm1.out (by unfold keepR; rw [← HN.out]; exact Hm2.out (by rw [Hkc.out]; simp [heq])))
            have hne : (c1 != c2) = true := by simp [heq]
            clear heq
            go_wp2_with (first
              | (go_at_call 47; with_reducible refine (C2.out _ (HF.out _ (K2.out.drewN _))).mono ?_; rintro e8 w8 ⟨rfl, q8, rfl⟩)
              | (go_at_call 47; with_reducible refine (C1.out _ (HF.out _ K2.out)).mono ?_; rintro e7 w7 ⟨rfl, q7, rfl⟩)
              | (go_at_call 42; refine (Hto.out _).mono ?_; rintro e6 w6 ⟨rfl, k1⟩; have K2 := hid (k1.1 _ HWx.out); have E2 := hid (HEx.out.trans k1.2); clear k1))
            go_ret
            exact ⟨by rw [hf.out]; rfl, HK.out _ (K2.out.drewN _), E2.out.trans (Ext.drewN _ _)⟩
        · have hxe : x = N := by omega
          subst hxe
          have hok := hid (show keepR p ⟨a, b, c', d, e, f⟩ y = true by unfold keepR; rw [← HN.out]; exact Hall2.out)
          clear hlx
          go_wp2
          go_roundw
          case rel => exact ⟨y + 1, Hlt.out, by go_num, by rw [Hn.out, Hall.out, hok.out]; rfl, HWx.out, HEx.out⟩
          case measure => have := Hlt.out; simp [intOf]; omega
    · have hye : y = N := by omega
      subst hye
      have hq := hid (show q = true by rw [Hq.out]; unfold keepsB; rw [← HN.out]; exact Hall.out)
      clear hlt
      go_wp2
      go_ret
      exact ⟨by rw [hq.out]; rfl, HK.out _ HW.out, HE.out⟩
end Go.Proofs.YteibbnmlmbhkpaaDoor

/-
  The walks of the reference's Lattice, symmetries, Symmetries.
-/
import Derived.Test.YteibbnmlmbhkpaaDoorRW5
namespace Go.Proofs.YteibbnmlmbhkpaaDoor
open Go.RowKit
set_option linter.unusedVariables false
set_option linter.unusedSimpArgs false
set_option maxHeartbeats 2000000
set_option maxRecDepth 100000

theorem refLatticeX_any {F : MS} {p : List ByteArray} {A : Option Addr} {c : Nat} {w : World} (h : Giv F p A c) (hH : Has w F) :
    Calls Tryd.prog 11 #[.slice A p.length c] w fun e w' => ∃ g er, e = .returned (.tuple #[.agg #[.int .i64 g.A, .int .i64 g.B, .int .i64 g.D], .int .i64 er]) ∧ Kp w w' ∧ (isPat p = true → IsLat p g ∧ er = 0) ∧ (isPat p = false → g = ⟨0, 0, 0⟩ ∧ er = 2) := by
  obtain ⟨W1, hW1⟩ : ∃ W1, W1 = w.alloc (.cells #[.int .i64 0, .int .i64 0, .int .i64 0] 26) := ⟨_, rfl⟩
  have HA := hid (show Has W1 (blk w.heap.size #[.int .i64 0, .int .i64 0, .int .i64 0] 26 + MS.all w) by rw [hW1]; exact (Has.all w).alloc _)
  have HE := hid (show Ext w W1 by rw [hW1]; exact Ext.alloc w _)
  have Hof := hid (pattern_any h.rd h.l h.s (hH.of_all HA.out))
  have HH := hid hH
  have Hrd := hid h.rd
  rw [hW1] at Hof
  clear h hH
  cases hp : isPat p with
  | false =>
    have Hp := hid hp
    rw [hp] at Hof
    clear hp
    go_enter Tryd.func11, Tryd.ntmps11
    go_wp2_with (first
      | (go_at_call 20; refine Hof.out.mono ?_; rintro e1 w1 ⟨rfl, q1, rfl⟩; rw [← hW1]; clear hW1; have K1 := hid (HA.out.drewN q1); have E1 := hid (HE.out.trans (Ext.drewN _ q1)))
      | (refine wpList_store_whole rfl (.tmp 2) (.tmp 7) 26 rfl 3 size26 w.heap.size (.agg #[.int .i64 0, .int .i64 0, .int .i64 0]) rfl rfl rfl (by simp [Value.cells, Value.oneCell']) #[.int .i64 0, .int .i64 0, .int .i64 0] 26 _ K1.out rfl ?_; intro w6 k1 k2; have K6 := hid (show Has w6 (blk w.heap.size #[.int .i64 0, .int .i64 0, .int .i64 0] 26 + MS.all w) from k1); have E6 := hid (E1.out.trans k2); clear k1 k2))
    have q0 : w6.cell? ⟨w.heap.size, 0, none⟩ = some (.int .i64 0) := K6.out.at_ rfl
    have q1 : w6.cell? ⟨w.heap.size, 1, none⟩ = some (.int .i64 0) := K6.out.at_ rfl
    have q2 : w6.cell? ⟨w.heap.size, 2, none⟩ = some (.int .i64 0) := K6.out.at_ rfl
    exact bodyPost_ret (v := .tuple #[.agg #[.int .i64 0, .int .i64 0, .int .i64 0], .int .i64 2]) (by simp [results, Tryd.results11, go_sem, q0, q1, q2]) rfl
      ⟨⟨0, 0, 0⟩, 2, rfl, ⟨fun M hM => hM.of_all K6.out, E6.out⟩, fun h => absurd h (by decide), fun _ => ⟨rfl, rfl⟩⟩
  | true =>
    have Hp := hid hp
    rw [hp] at Hof
    have Hlat := hid (fun (W : World) (hW : Has W F) => refLattice_any Hrd.out (isPat.ok hp).1 hW)
    clear hp
    go_enter Tryd.func11, Tryd.ntmps11
    go_wp2_with (first
      | (go_at_call 20; refine Hof.out.mono ?_; rintro e1 w1 ⟨rfl, q1, rfl⟩; rw [← hW1]; clear hW1; have K1 := hid (HA.out.drewN q1); have E1 := hid (HE.out.trans (Ext.drewN _ q1)))
      | (go_at_call 35; refine (Hlat.out _ (HH.out.of_all K1.out)).mono ?_; rintro e2 w2 ⟨g, hg, rfl, k2⟩; have Hg := hid hg; have K2 := hid (k2.1 _ K1.out); have E2 := hid (E1.out.trans k2.2); clear hg k2)
      | (refine wpList_store_whole rfl (.tmp 2) (.tmp 9) 26 rfl 3 size26 w.heap.size (.agg #[.int .i64 g.A, .int .i64 g.B, .int .i64 g.D]) rfl rfl rfl (by simp [Value.cells, Value.oneCell']) #[.int .i64 0, .int .i64 0, .int .i64 0] 26 _ K2.out rfl ?_; intro w6 k1 k2; have K6 := hid (show Has w6 (blk w.heap.size #[.int .i64 g.A, .int .i64 g.B, .int .i64 g.D] 26 + MS.all w) from k1); have E6 := hid (E2.out.trans k2); clear k1 k2))
    have q0 : w6.cell? ⟨w.heap.size, 0, none⟩ = some (.int .i64 g.A) := K6.out.at_ rfl
    have q1 : w6.cell? ⟨w.heap.size, 1, none⟩ = some (.int .i64 g.B) := K6.out.at_ rfl
    have q2 : w6.cell? ⟨w.heap.size, 2, none⟩ = some (.int .i64 g.D) := K6.out.at_ rfl
    exact bodyPost_ret (v := .tuple #[.agg #[.int .i64 g.A, .int .i64 g.B, .int .i64 g.D], .int .i64 0]) (by simp [results, Tryd.results11, go_sem, q0, q1, q2]) rfl
      ⟨g, 0, rfl, ⟨fun M hM => hM.of_all K6.out, E6.out⟩, fun _ => ⟨Hg.out, rfl⟩, fun h => absurd h (by decide)⟩
theorem symmetries_any {F : MS} {p : List ByteArray} {A : Option Addr} {c : Nat} {w : World} (hr : RdS F RT.str p (.slice A p.length c)) (hp : PatOk p) (hH : Has w F) :
    Calls Tryd.prog 37 #[.slice A p.length c] w fun e w' => ∃ g A' c' X, e = .returned (.slice A' (symL p g).length c') ∧ IsLat p g ∧ RdS X RT.mv (symL p g) (.slice A' (symL p g).length c') ∧ Has w' X ∧ Kp w w' := by
  have Hlat := hid (refLattice_any hr hp hH)
  have Hsym := hid (fun (W : World) (hW : Has W F) (m : Mv) => symmetric_any hr hp hW m)
  have HH := hid hH
  have Hp := hid hp
  clear hr hp hH
  go_enter Tryd.func37, Tryd.ntmps37
  go_wp2_with (go_at_call 35; refine Hlat.out.mono ?_; rintro e1 w1 ⟨g, hg, rfl, k1⟩; have Hg := hid hg; have K1 := hid k1; clear hg k1)
  obtain ⟨bg, hbg⟩ : ∃ bg, bg = w1.heap.size := ⟨_, rfl⟩
  obtain ⟨W1, hW1⟩ : ∃ W1, W1 = w1.alloc (.cells #[.int .i64 g.A, .int .i64 g.B, .int .i64 g.D] 26) := ⟨_, rfl⟩
  have HW1 := hid (show Has W1 (blk bg #[.int .i64 g.A, .int .i64 g.B, .int .i64 g.D] 26 + MS.all w1) by rw [hW1, hbg]; exact (Has.all w1).alloc _)
  have HE1 := hid (show Ext w W1 by rw [hW1]; exact K1.out.2.trans (Ext.alloc w1 _))
  rw [← hW1, ← hbg]
  clear hW1 hbg
  obtain ⟨G, hG⟩ : ∃ G, G = blk bg #[.int .i64 g.A, .int .i64 g.B, .int .i64 g.D] 26 + MS.all w1 := ⟨_, rfl⟩
  have HF := hid (show ∀ W X, Has W (X + G) → Has W F from fun W X h => (K1.out.1 _ HH.out).of_all (X := X + blk bg #[.int .i64 g.A, .int .i64 g.B, .int .i64 g.D] 26) (by rw [hG] at h; exact h.eq (by ac_rfl)))
  have HKp := hid (show ∀ W X, Has W (X + G) → Ext w W → Kp w W from fun W X h hE => ⟨fun M hM => (K1.out.1 M hM).of_all (X := X + blk bg #[.int .i64 g.A, .int .i64 g.B, .int .i64 g.D] 26) (by rw [hG] at h; exact h.eq (by ac_rfl)), hE⟩)
  have Hgc := hid (show ∀ W X, Has W (X + G) → W.cell? ⟨bg, 0, none⟩ = some (.int .i64 g.A) ∧ W.cell? ⟨bg, 2, none⟩ = some (.int .i64 g.D) from fun W X h => by
    rw [hG] at h
    have h1 : Has W (blk bg #[.int .i64 g.A, .int .i64 g.B, .int .i64 g.D] 26 + (X + MS.all w1)) := h.eq (by ac_rfl)
    exact ⟨h1.at_ rfl, h1.at_ rfl⟩)
  have HW2 := hid (show Has W1 G by rw [hG]; exact HW1.out)
  clear hG HW1
  have hA6 := hid (show g.A ≤ 6 by have := Hg.out.aw; have := Hp.out.w6; omega)
  have hD6 := hid (show g.D ≤ 6 by have := Hg.out.dh; have := Hp.out.h6; omega)
  go_loopw [4, 5] (fun vo v wr => ∃ k : Nat, ∃ B d ms, k ≤ 8 ∧ v = .int .i64 k ∧ vo = .slice B (listP p g k 0 0).length d ∧ SlR 41 6 MvR (listP p g k 0 0) (.slice B (listP p g k 0 0).length d) ms ∧ Has wr (ms + G) ∧ Ext w wr) (fun _ v _ => 8 - (intOf v).toNat)
  case atStart => exact ⟨0, none, 0, 0, Nat.zero_le _, rfl, rfl, ⟨[], 0, 0, Sl.nil _ _, RowsR.nil, by rw [MS.zero_add]⟩, HW2.out.eq (by rw [MS.zero_add]), HE1.out⟩
  case round =>
    obtain ⟨k, B, d, ms, hk8, rfl, rfl, hS, hW, hE⟩ := hrel
    have HS := hid hS
    have HW := hid hW
    have HE := hid hE
    clear hS hW hE HW2 HE1
    by_cases hlt : k < 8
    · have hltI : (k : Int) < 8 := by omega
      have Hlt := hid hlt
      clear hlt hk8
      go_wp2
      go_loopw [4, 6] (fun vo v wq => ∃ e : Nat, ∃ B d ms, e ≤ g.A ∧ v = .int .i64 e ∧ vo = .slice B (listP p g k e 0).length d ∧ SlR 41 6 MvR (listP p g k e 0) (.slice B (listP p g k e 0).length d) ms ∧ Has wq (ms + G) ∧ Ext w wq) (fun _ v _ => g.A - (intOf v).toNat)
      case atStart => exact ⟨0, B, d, ms, Nat.zero_le _, rfl, rfl, HS.out, HW.out, HE.out⟩
      case round =>
        clear HS HW HE
        obtain ⟨e, B, d, ms, heA, rfl, rfl, hS, hW, hE⟩ := hrel
        have HS := hid hS
        have HW := hid hW
        have HE := hid hE
        clear hS hW hE
        obtain ⟨g0, g2⟩ := Hgc.out _ _ HW.out
        by_cases hlt : e < g.A
        · have hltI : (e : Int) < g.A := by omega
          have HltE := hid hlt
          have heI : (e : Int) < 6 := by have := hA6.out; omega
          clear hlt heA
          go_wp2
          clear g0 g2
          go_loopw [4, 7] (fun vo v wq => ∃ f : Nat, ∃ B d ms, f ≤ g.D ∧ v = .int .i64 f ∧ vo = .slice B (listP p g k e f).length d ∧ SlR 41 6 MvR (listP p g k e f) (.slice B (listP p g k e f).length d) ms ∧ Has wq (ms + G) ∧ Ext w wq) (fun _ v _ => g.D - (intOf v).toNat)
          case atStart => exact ⟨0, B, d, ms, Nat.zero_le _, rfl, rfl, HS.out, HW.out, HE.out⟩
          case round =>
            clear HS HW HE
            obtain ⟨f, B, d, ms, hfD, rfl, rfl, hS, hW, hE⟩ := hrel
            have HS := hid hS
            have HW := hid hW
            have HE := hid hE
            clear hS hW hE
            obtain ⟨g0, g2⟩ := Hgc.out _ _ HW.out
            by_cases hlt : f < g.D
            · have hltI : (f : Int) < g.D := by omega
              have HltF := hid hlt
              have hfI : (f : Int) < 6 := by have := hD6.out; omega
              clear hlt hfD
              obtain ⟨ka, kb, kc, kd, hknd⟩ := knd_eq k
              have Hknd := hid hknd
              have Hkc := hid (show ∀ W, Calls Tryd.prog 43 #[.int .i64 k] W fun e w' => e = .returned (.agg #[.int .i64 ka, .int .i64 kb, .int .i64 kc, .int .i64 kd, .int .i64 0, .int .i64 0]) ∧ Kp W w' from fun W => by have := kind_at k Hlt.out W; rw [hknd] at this; exact this)
              have hkn : knd k e f = ⟨ka, kb, kc, kd, e, f⟩ := Hknd.out e f
              obtain ⟨q, hq⟩ : ∃ q, q = keepsB p (knd k e f) := ⟨_, rfl⟩
              have Hsc := hid (show ∀ W, Has W F → Calls Tryd.prog 62 #[.slice _ p.length _, .agg #[.int .i64 ka, .int .i64 kb, .int .i64 kc, .int .i64 kd, .int .i64 e, .int .i64 f]] W fun e w' => e = .returned (.bool q) ∧ Kp W w' from fun W hW => by have := Hsym.out W hW ⟨ka, kb, kc, kd, e, f⟩; rw [← hkn, ← hq, hkn] at this; exact this)
              have Hq := hid hq
              obtain ⟨n, hn⟩ : ∃ n, n = (listP p g k e f).length := ⟨_, rfl⟩
              rw [← hn] at HS ⊢
              have Hn := hid hn
              have Hn4 := hid (show n ≤ 400 by rw [hn]; exact listP_len (by have := Hlt.out; omega) (by have := HltE.out; have := hA6.out; omega) (by have := HltF.out; have := hD6.out; omega) hA6.out hD6.out)
              clear hknd hkn hq hn
              cases q with
              | false =>
                go_wp2_with (first
                  | (go_at_call 62; refine (Hsc.out _ (HF.out _ _ HA3.out)).mono ?_; rintro e7 w7 ⟨rfl, k7⟩; have K7 := hid (k7.1 _ HA3.out); have E7 := hid (EA3.out.trans k7.2); clear k7)
                  | (go_at_call 43; refine (Hkc.out _).mono ?_; rintro e6 w6 ⟨rfl, k6⟩; have K6 := hid (k6.1 _ HW.out); have E6 := hid (HE.out.trans k6.2); clear k6; have HA3 := hid (show Has (w6.alloc (.cells #[.int .i64 ka, .int .i64 kb, .int .i64 kc, .int .i64 kd, .int .i64 e, .int .i64 f] 41)) ((blk w6.heap.size #[.int .i64 ka, .int .i64 kb, .int .i64 kc, .int .i64 kd, .int .i64 e, .int .i64 f] 41 + ms) + G) from (K6.out.alloc _).eq (by show pts _ _ + _ = _; unfold blk; ac_rfl)); have EA3 := hid (E6.out.trans (Ext.alloc w6 (.cells #[.int .i64 ka, .int .i64 kb, .int .i64 kc, .int .i64 kd, .int .i64 e, .int .i64 f] 41)))))
                go_roundw
                case rel => exact ⟨f + 1, B, d, ms, HltF.out, by go_num, by rw [listP_miss Hq.out.symm, ← Hn.out], by rw [listP_miss Hq.out.symm, ← Hn.out]; exact HS.out, (K7.out.eq (b := blk w6.heap.size #[.int .i64 ka, .int .i64 kb, .int .i64 kc, .int .i64 kd, .int .i64 e, .int .i64 f] 41 + (ms + G)) (by ac_rfl)).right, E7.out⟩
                case measure => have := HltF.out; simp [intOf]; omega
              | true =>
                have Hl2 := hid (show listP p g k e (f + 1) = listP p g k e f ++ [⟨ka, kb, kc, kd, e, f⟩] by rw [listP_hit Hq.out.symm, Hknd.out])
                go_wp2_with (first
                  | (go_at_call 62; refine (Hsc.out _ (HF.out _ _ HA3.out)).mono ?_; rintro e7 w7 ⟨rfl, k7⟩; have K7 := hid (k7.1 _ HA3.out); have E7 := hid (EA3.out.trans k7.2); clear k7; have hm7 : Has w7 (blk w6.heap.size #[.int .i64 ka, .int .i64 kb, .int .i64 kc, .int .i64 kd, .int .i64 e, .int .i64 f] 41 + (ms + G)) := K7.out.eq (by ac_rfl); have m0 : w7.cell? ⟨w6.heap.size, 0, none⟩ = some (.int .i64 ka) := hm7.at_ rfl; have m1 : w7.cell? ⟨w6.heap.size, 1, none⟩ = some (.int .i64 kb) := hm7.at_ rfl; have m2 : w7.cell? ⟨w6.heap.size, 2, none⟩ = some (.int .i64 kc) := hm7.at_ rfl; have m3 : w7.cell? ⟨w6.heap.size, 3, none⟩ = some (.int .i64 kd) := hm7.at_ rfl; have m4 : w7.cell? ⟨w6.heap.size, 4, none⟩ = some (.int .i64 e) := hm7.at_ rfl; have m5 : w7.cell? ⟨w6.heap.size, 5, none⟩ = some (.int .i64 f) := hm7.at_ rfl; clear hm7)
                  | (go_at_call 43; refine (Hkc.out _).mono ?_; rintro e6 w6 ⟨rfl, k6⟩; have K6 := hid (k6.1 _ HW.out); have E6 := hid (HE.out.trans k6.2); clear k6; have HA3 := hid (show Has (w6.alloc (.cells #[.int .i64 ka, .int .i64 kb, .int .i64 kc, .int .i64 kd, .int .i64 e, .int .i64 f] 41)) ((blk w6.heap.size #[.int .i64 ka, .int .i64 kb, .int .i64 kc, .int .i64 kd, .int .i64 e, .int .i64 f] 41 + ms) + G) from (K6.out.alloc _).eq (by show pts _ _ + _ = _; unfold blk; ac_rfl)); have EA3 := hid (E6.out.trans (Ext.alloc w6 (.cells #[.int .i64 ka, .int .i64 kb, .int .i64 kc, .int .i64 kd, .int .i64 e, .int .i64 f] 41))))
                  | (at_builtin; refine wpList_push rfl (.tmp 36) (.tmp 38) row30 rfl (.slice B n d) rfl _ rfl rfl MvR MvR.one MvR.len (listP p g k e f) ⟨ka, kb, kc, kd, e, f⟩ ms 0 (blk w6.heap.size #[.int .i64 ka, .int .i64 kb, .int .i64 kc, .int .i64 kd, .int .i64 e, .int .i64 f] 41 + G) HS.out ⟨rfl, rfl⟩ (K7.out.eq (by rw [MS.zero_add]; ac_rfl)) n Hn.out.symm (by have := Hn4.out; omega) (by omega) ?_; intro A8 c8 w8 m8 j4 j5 j6; have J4 := hid j4; have J5 := hid j5; have J6 := hid (E7.out.trans j6); clear j4 j5 j6))
                go_roundw
                case rel =>
                  have hln : (listP p g k e (f + 1)).length = n + 1 := by rw [Hl2.out, List.length_append, ← Hn.out]; rfl
                  exact ⟨f + 1, A8, c8, m8, HltF.out, by go_num, by rw [hln], by rw [hln, Hl2.out]; exact J4.out, (J5.out.eq (b := blk w6.heap.size #[.int .i64 ka, .int .i64 kb, .int .i64 kc, .int .i64 kd, .int .i64 e, .int .i64 f] 41 + (m8 + G)) (by ac_rfl)).right, J6.out⟩
                case measure => have := HltF.out; simp [intOf]; omega
            · have hfe : f = g.D := by omega
              subst hfe
              clear hlt hfD
              go_wp2
              go_roundw
              case rel => exact ⟨e + 1, B, d, ms, HltE.out, by go_num, by rw [← listP_endF], by rw [← listP_endF]; exact HS.out, HW.out, HE.out⟩
              case measure => have := HltE.out; simp [intOf]; omega
        · have hee : e = g.A := by omega
          subst hee
          clear hlt heA
          go_wp2
          go_roundw
          case rel => exact ⟨k + 1, B, d, ms, Hlt.out, by go_num, by rw [← listP_endE], by rw [← listP_endE]; exact HS.out, HW.out, HE.out⟩
          case measure => have := Hlt.out; simp [intOf]; omega
    · have hke : k = 8 := by omega
      subst hke
      clear hlt
      go_wp2
      go_ret
      have hl := listP_endK p g
      exact ⟨g, B, d, ms, by rw [← hl]; rfl, Hg.out, by rw [← hl]; exact HS.out.rd (fun a cs m h => h.1), HW.out.left, HKp.out _ _ HW.out HE.out⟩
theorem SymmetriesR_any {F : MS} {p : List ByteArray} {A : Option Addr} {c : Nat} {w : World} (h : Giv F p A c) (hH : Has w F) :
    Calls Tryd.prog 13 #[.slice A p.length c] w fun e w' => ∃ A' c' l er X, e = .returned (.tuple #[.slice A' l.length c', .int .i64 er]) ∧ Kp w w' ∧ Has w' X ∧ RdS X RT.mv l (.slice A' l.length c') ∧ (isPat p = true → (∃ g, IsLat p g ∧ l = symL p g) ∧ er = 0) ∧ (isPat p = false → l = [] ∧ er = 2) := by
  have Hof := hid (pattern_any h.rd h.l h.s hH)
  have HH := hid hH
  have Hrd := hid h.rd
  clear h hH
  cases hp : isPat p with
  | false =>
    rw [hp] at Hof
    clear hp
    go_enter Tryd.func13, Tryd.ntmps13
    go_wp2_with (go_at_call 20; refine Hof.out.mono ?_; rintro e1 w1 ⟨rfl, q1, rfl⟩)
    go_ret2
    exact ⟨none, 0, [], 2, MS.all w, rfl, Kp.drewN (Kp.refl _) _, (Has.all _).drewN _, RdS.nil _ _, fun h => absurd h (by decide), fun _ => ⟨rfl, rfl⟩⟩
  | true =>
    rw [hp] at Hof
    have Hgr := hid (fun (W : World) (hW : Has W F) => symmetries_any Hrd.out (isPat.ok hp).1 hW)
    clear hp
    go_enter Tryd.func13, Tryd.ntmps13
    go_wp2_with (first
      | (go_at_call 20; refine Hof.out.mono ?_; rintro e1 w1 ⟨rfl, q1, rfl⟩)
      | (go_at_call 37; refine (Hgr.out _ (HH.out.drewN _)).mono ?_; rintro e2 w2 ⟨g, A', c', X, rfl, hg, hr, hX, k2⟩; have Hg := hid hg; have HX := hid hX; have Hr := hid hr; have K2 := hid (Kp.trans (Kp.drewN (Kp.refl w) _) k2); clear hg hX k2 hr))
    go_ret2
    exact ⟨A', c', symL p g, 0, X, rfl, K2.out, HX.out, Hr.out, fun _ => ⟨⟨g, Hg.out, rfl⟩, rfl⟩, fun h => absurd h (by decide)⟩
end Go.Proofs.YteibbnmlmbhkpaaDoor

/-
  The walk of PatternSame.
-/
import Derived.Test.YteibbnmlmbhkpaaDoorSW5
import Derived.Test.YteibbnmlmbhkpaaDoorGW1
namespace Go.Proofs.YteibbnmlmbhkpaaDoor
open Go.RowKit
set_option linter.unusedVariables false
set_option linter.unusedSimpArgs false
set_option maxHeartbeats 4000000
set_option maxRecDepth 100000

theorem eq57 (u0 u1 u2 u3 : Bool) (w : World) : (Op.equalIn 10000 57 (Value.agg #[Value.bool u0, Value.bool u1, Value.bool u2, Value.bool u3]) (Value.agg #[Value.bool true, Value.bool true, Value.bool true, Value.bool true])).run Tryd.prog w = .ok (u0 && (u1 && (u2 && u3))) w := by
  cases u0 <;> cases u1 <;> cases u2 <;> cases u3 <;> kernel_rfl
theorem used_put {f : Nat → Bool} {a : Nat} (ha : a < 4) : (#[Value.bool (f 0), .bool (f 1), .bool (f 2), .bool (f 3)] : Array Value).setIfInBounds a (.bool true) = #[.bool (if 0 = a then true else f 0), .bool (if 1 = a then true else f 1), .bool (if 2 = a then true else f 2), .bool (if 3 = a then true else f 3)] := by
  have h : a = 0 ∨ a = 1 ∨ a = 2 ∨ a = 3 := by omega
  rcases h with rfl | rfl | rfl | rfl <;> rfl
theorem arr4_get {v0 v1 v2 v3 : Int} {i : Nat} (hi : i < 4) : (#[Value.int .u8 v0, .int .u8 v1, .int .u8 v2, .int .u8 v3] : Array Value)[i]? = some (.int .u8 (if i = 0 then v0 else if i = 1 then v1 else if i = 2 then v2 else v3)) := by
  have h : i = 0 ∨ i = 1 ∨ i = 2 ∨ i = 3 := by omega
  rcases h with rfl | rfl | rfl | rfl <;> rfl
theorem patSame_any {F : MS} {p : List ByteArray} {A : Option Addr} {c : Nat} {w : World} (hr : RdS F RT.str p (.slice A p.length c)) (hs : ∀ s ∈ p, s.size ≤ maxLen) (hk : KinOk F) (hH : Has w F) {m : Mv} (hm : m.v = m.v) {v0 v1 v2 v3 : Int} (hv : (0 ≤ v0 ∧ v0 ≤ 255) ∧ (0 ≤ v1 ∧ v1 ≤ 255) ∧ (0 ≤ v2 ∧ v2 ≤ 255) ∧ (0 ≤ v3 ∧ v3 ≤ 255)) :
    Calls Tryd.prog 7 #[.slice A p.length c, m.v, .agg #[.int .u8 v0, .int .u8 v1, .int .u8 v2, .int .u8 v3]] w (LawPost w F) := by
  clear hm
  have Hv := hid hv
  clear hv
  obtain ⟨xa, xb, xc, xd, xe, xf⟩ := m
  obtain ⟨b1, hb1⟩ : ∃ b1, b1 = w.heap.size := ⟨_, rfl⟩
  obtain ⟨W2, hW2⟩ : ∃ W2, W2 = (w.alloc (.cells #[.int .i64 xa, .int .i64 xb, .int .i64 xc, .int .i64 xd, .int .i64 xe, .int .i64 xf] 41)).alloc (.cells #[.int .u8 v0, .int .u8 v1, .int .u8 v2, .int .u8 v3] 50) := ⟨_, rfl⟩
  have HA := hid (((Has.all w).alloc (.cells #[.int .i64 xa, .int .i64 xb, .int .i64 xc, .int .i64 xd, .int .i64 xe, .int .i64 xf] 41)).alloc (.cells #[.int .u8 v0, .int .u8 v1, .int .u8 v2, .int .u8 v3] 50))
  have HE := hid ((Ext.alloc w (.cells #[.int .i64 xa, .int .i64 xb, .int .i64 xc, .int .i64 xd, .int .i64 xe, .int .i64 xf] 41)).trans (Ext.alloc _ (.cells #[.int .u8 v0, .int .u8 v1, .int .u8 v2, .int .u8 v3] 50)))
  rw [show (w.alloc (.cells #[.int .i64 xa, .int .i64 xb, .int .i64 xc, .int .i64 xd, .int .i64 xe, .int .i64 xf] 41)).heap.size = b1 + 1 by rw [hb1]; simp, ← hb1] at HA
  rw [← hW2] at HA HE
  have HFW := hid (show Has W2 F from (hH.of_all (HA.out.eq (b := pts (b1 + 1) (.cells #[.int .u8 v0, .int .u8 v1, .int .u8 v2, .int .u8 v3] 50) + pts b1 (.cells #[.int .i64 xa, .int .i64 xb, .int .i64 xc, .int .i64 xd, .int .i64 xe, .int .i64 xf] 41) + MS.all w) (by ac_rfl))))
  have H2 := hid (show Has W2 (blk (b1 + 1) #[.int .u8 v0, .int .u8 v1, .int .u8 v2, .int .u8 v3] 50 + (blk b1 #[.int .i64 xa, .int .i64 xb, .int .i64 xc, .int .i64 xd, .int .i64 xe, .int .i64 xf] 41 + MS.all w)) from HA.out)
  have Keep := hid (show ∀ W, Kp W2 W → (W.cell? ⟨b1, 0, none⟩ = some (.int .i64 xa) ∧ W.cell? ⟨b1, 1, none⟩ = some (.int .i64 xb) ∧ W.cell? ⟨b1, 2, none⟩ = some (.int .i64 xc) ∧ W.cell? ⟨b1, 3, none⟩ = some (.int .i64 xd) ∧ W.cell? ⟨b1, 4, none⟩ = some (.int .i64 xe) ∧ W.cell? ⟨b1, 5, none⟩ = some (.int .i64 xf)) ∧ ∀ i u, (#[.int .u8 v0, .int .u8 v1, .int .u8 v2, .int .u8 v3] : Array Value)[i]? = some u → W.cell? ⟨b1 + 1, i, none⟩ = some u from fun W hK => by
    have h := hK.1 _ H2.out
    have h' : Has W (blk b1 #[.int .i64 xa, .int .i64 xb, .int .i64 xc, .int .i64 xd, .int .i64 xe, .int .i64 xf] 41 + (blk (b1 + 1) #[.int .u8 v0, .int .u8 v1, .int .u8 v2, .int .u8 v3] 50 + MS.all w)) := h.eq (by ac_rfl)
    exact ⟨⟨h'.at_ rfl, h'.at_ rfl, h'.at_ rfl, h'.at_ rfl, h'.at_ rfl, h'.at_ rfl⟩, fun i u hu => h.at_ hu⟩)
  clear HA H2
  have Hfew := hid (few_any hr hs HFW.out)
  have Hal := hid (fun (W : World) (hW : Has W F) => alive_any hk hW)
  have HFb := hid (show ∀ W, Kp W2 W → Has W F from fun W h => h.1 _ HFW.out)
  show Calls Tryd.prog 7 #[.slice A p.length c, .agg #[.int .i64 xa, .int .i64 xb, .int .i64 xc, .int .i64 xd, .int .i64 xe, .int .i64 xf], .agg #[.int .u8 v0, .int .u8 v1, .int .u8 v2, .int .u8 v3]] w (LawPost w F)
  cases hf : fewB p with
  | false =>
    rw [hf] at Hfew
    clear hf hr hs hk hH
    go_enter Tryd.func7, Tryd.ntmps7
    go_wp2_with (first
      | (go_at_call 8; rw [← hW2]; clear hW2; refine Hfew.out.mono ?_; rintro e1 w1 ⟨rfl, hw1⟩; rw [hw1]; clear hw1)
      | (go_at_call 9; refine (Hal.out _ HFW.out).mono ?_; rintro e2 w2 ⟨rfl, k2⟩; have K2 := hid k2; clear k2))
    go_ret
    exact ⟨rfl, HFb.out _ K2.out, HE.out.trans K2.out.2⟩
  | true =>
    rw [hf] at Hfew
    unfold fewB at hf
    rw [decide_eq_true_eq] at hf
    obtain ⟨hl20, hs20⟩ := hf
    have hgiv : Giv F p A c := ⟨hr, by omega, fun s h => by have := hs20 s h; omega⟩
    cases hp : isPat p with
    | false =>
      have Hgr := hid (fun (W : World) (hW : Has W F) => show Calls Tryd.prog 15 #[.slice A p.length c] W fun e w' => ∃ nm, e = .returned (.tuple #[.string nm, .int .i64 2]) ∧ Kp W w' from (Group_any hgiv hk hW).mono fun e w' he => by
        obtain ⟨nm', er, h1, h2, _, h3⟩ := he
        obtain ⟨h4, h5⟩ := h3 hp
        rw [h5] at h1
        exact ⟨nm', h1, h2⟩)
      have Hor := hid (fun (W : World) (hW : Has W F) => show Calls Tryd.prog 30 #[.slice A p.length c] W fun e w' => ∃ A' c', e = .returned (.tuple #[.slice A' 0 c', .int .i64 2]) ∧ Kp W w' from (orbits_no hgiv hW hp).mono fun e w' he => by
        obtain ⟨A', c', er, rows, X, h1, h2, _, _, h3, _⟩ := he
        obtain ⟨h4, h5⟩ := h3 hp
        rw [h4, h5] at h1
        exact ⟨A', c', h1, h2⟩)
      clear hr hs hk hH hl20 hs20 hgiv hp
      go_enter Tryd.func7, Tryd.ntmps7
      go_wp2_with (first
        | (go_at_call 9; refine (Hal.out _ (HFb.out _ K2.out)).mono ?_; rintro e3 w3 ⟨rfl, k3⟩; have K3 := hid (K2.out.trans k3); clear k3)
        | (go_at_call 30; refine (Hor.out _ (HFb.out _ K1.out)).mono ?_; rintro e2 w2 ⟨A', c', rfl, k2⟩; have K2 := hid (K1.out.trans k2); clear k2)
        | (go_at_call 15; refine (Hgr.out _ HFW.out).mono ?_; rintro e1 w1 ⟨nm, rfl, k1⟩; have K1 := hid k1; clear k1)
        | (go_at_call 8; rw [← hW2]; clear hW2; refine Hfew.out.mono ?_; rintro e1 w1 ⟨rfl, hw1⟩; rw [hw1]; clear hw1))
      go_ret
      exact ⟨rfl, HFb.out _ K3.out, HE.out.trans K3.out.2⟩
    | true =>
      have Hp := hid (isPat.ok hp).1
      have Hab := hid (isPat.ok hp).2
      have Hpt := hid hp
      have Hk := hid hk
      have Hrd := hid hr
      have hp6 := hid (show (1 ≤ p.length ∧ p.length ≤ 6) ∧ (1 ≤ wd p ∧ wd p ≤ 6) from ⟨⟨Hp.out.h1, Hp.out.h6⟩, Hp.out.w1, Hp.out.w6⟩)
      obtain ⟨g, hg⟩ := IsLat.ex Hp.out
      have Hg := hid hg
      obtain ⟨nm, hnm⟩ : ∃ nm, nm = nameOf p g := ⟨_, rfl⟩
      have Hgr := hid (fun (W : World) (hW : Has W F) => show Calls Tryd.prog 15 #[.slice A p.length c] W fun e w' => e = .returned (.tuple #[.string nm, .int .i64 0]) ∧ Kp W w' from (Group_any hgiv hk hW).mono fun e w' he => by
        obtain ⟨nm', er, h1, h2, h3, _⟩ := he
        obtain ⟨⟨g', hg', h4⟩, h5⟩ := h3 hp
        obtain rfl := hg.uniq hg'
        rw [h4, h5, ← hnm] at h1
        exact ⟨h1, h2⟩)
      have Hor := hid (fun (W : World) (hW : Has W F) => show Calls Tryd.prog 30 #[.slice A p.length c] W fun e w' => ∃ A' c' rows X, e = .returned (.tuple #[.slice A' (List.length rows) c', .int .i64 0]) ∧ Kp W w' ∧ Has w' X ∧ RdS X (RT.sl RT.int) rows (.slice A' (List.length rows) c') ∧ ∃ g f n, IsLat p g ∧ OInv p g f (wd p * p.length) n ∧ rows = labRows p g f p.length from (orbits_ok hgiv hk hW hp).mono fun e w' he => by
        obtain ⟨A', c', er, rows, X, h1, h2, h3, h4, _, h5⟩ := he
        obtain ⟨h6, h7⟩ := h5 hp
        rw [h6] at h1
        exact ⟨A', c', rows, X, h1, h2, h3, h4, h7⟩)
      have Hpa := hid (fun (W : World) (hW : Has W F) => show Calls Tryd.prog 20 #[.slice A p.length c] W fun e w' => e = .returned (.bool true) ∧ ∃ q, w' = W.drewN q from by
        have := pattern_any hgiv.rd hgiv.l hgiv.s hW
        rwa [hp] at this)
      have HapT := hid (fun (W : World) (hW : Has W F) (hm : apOk p ⟨xa, xb, xc, xd, xe, xf⟩ = true) => show Calls Tryd.prog 24 #[.slice A p.length c, .agg #[.int .i64 xa, .int .i64 xb, .int .i64 xc, .int .i64 xd, .int .i64 xe, .int .i64 xf]] W fun e w' => ∃ A' c' q X, e = .returned (.tuple #[.slice A' (List.length q) c', .int .i64 0]) ∧ Kp W w' ∧ Has w' X ∧ RdS X RT.str q (.slice A' (List.length q) c') ∧ isPat q = true ∧ ∃ k a b, k < 8 ∧ Mvs k a b p q ∧ Sides k p q from (apply_any hgiv hk hW ⟨xa, xb, xc, xd, xe, xf⟩).mono fun e w' h => by
        obtain ⟨A', c', l, er, X, h1, h2, h6, h7, h3, _⟩ := h
        obtain ⟨h4, h5⟩ := h3 hm
        rw [h5] at h1
        obtain ⟨k, k1, k2, k3⟩ := ap_mvs hm
        exact ⟨A', c', l, X, h1, h2, h6, h7, by rw [h4]; exact ap_isPat hp _, k, _, _, k1, by rw [h4]; exact k2, by rw [h4]; exact k3⟩)
      have HapF := hid (fun (W : World) (hW : Has W F) (hm : apOk p ⟨xa, xb, xc, xd, xe, xf⟩ = false) => show Calls Tryd.prog 24 #[.slice A p.length c, .agg #[.int .i64 xa, .int .i64 xb, .int .i64 xc, .int .i64 xd, .int .i64 xe, .int .i64 xf]] W fun e w' => ∃ A' c' n, e = .returned (.tuple #[.slice A' n c', .int .i64 2]) ∧ Kp W w' from (apply_any hgiv hk hW ⟨xa, xb, xc, xd, xe, xf⟩).mono fun e w' h => by
        obtain ⟨A', c', l, er, X, h1, h2, h6, h7, _, h3⟩ := h
        obtain ⟨h4, h5⟩ := h3 hm
        rw [h5] at h1
        exact ⟨A', c', _, h1, h2⟩)
      have Hsm := hid (fun (W : World) (hW : Has W F) => show Calls Tryd.prog 28 #[.slice A p.length c] W fun e w' => ∃ A' c' q X, e = .returned (.tuple #[.slice A' (List.length q) c', .int .i64 0]) ∧ Kp W w' ∧ Has w' X ∧ RdS X RT.str q (.slice A' (List.length q) c') ∧ isPat q = true ∧ (∀ x y, col q x y = col p x y) ∧ q.length ≤ p.length from (smallest_any hgiv hW).mono fun e w' h => by
        obtain ⟨A', c', l, er, X, h1, h2, h6, h7, h3, _⟩ := h
        obtain ⟨x, n, z1, z2, h4, h5⟩ := h3 hp
        obtain ⟨z3, z4⟩ := cut_facts hp z1 z2
        rw [h5] at h1
        rw [h4] at h1 h7
        exact ⟨A', c', _, X, h1, h2, h6, h7, z3, z4, by rw [cutL_len z2.nm]; exact z2.nm⟩)
      obtain ⟨sv, hsv⟩ : ∃ sv : Nat → Int, sv = fun i => if i = 0 then v0 else if i = 1 then v1 else if i = 2 then v2 else v3 := ⟨_, rfl⟩
      have Hsv := hid (show ∀ i, 0 ≤ sv i ∧ sv i ≤ 255 from fun i => by
        have := Hv.out
        rw [hsv]
        show 0 ≤ (if i = 0 then v0 else if i = 1 then v1 else if i = 2 then v2 else v3) ∧ (if i = 0 then v0 else if i = 1 then v1 else if i = 2 then v2 else v3) ≤ 255
        split
        · omega
        · split
          · omega
          · split <;> omega)
      have Kv := hid (show ∀ W, Kp W2 W → ∀ i : Nat, i < 4 → W.cell? ⟨b1 + 1, i, none⟩ = some (.int .u8 (sv i)) from fun W hK i hi => (Keep.out W hK).2 i _ (by rw [hsv]; exact arr4_get hi))
      obtain ⟨s, hs'⟩ : ∃ s : Nat → Nat, s = fun i => (sv i % 4).toNat := ⟨_, rfl⟩
      have Hs := hid (show ∀ i, s i < 4 ∧ (sv i).tmod 4 = (s i : Int) from fun i => by
        have := Hsv.out i
        rw [hs', Int.tmod_eq_emod_of_nonneg this.1]
        show (sv i % 4).toNat < 4 ∧ sv i % 4 = ((sv i % 4).toNat : Int)
        omega)
      have Hw := hid (swap_facts hp (s := s) fun i _ => (Hs.out i).1)
      have Hwi := hid (show useF s 4 0 = true → useF s 4 1 = true → useF s 4 2 = true → useF s 4 3 = true → Mvs 0 0 0 p (swL s p p.length) from fun h0 h1 h2 h3 => (swap_facts hp (s := s) fun i _ => (Hs.out i).1).2.2 (use_inj (fun i _ => (Hs.out i).1) h0 h1 h2 h3))
      have Hwd := hid (fun (h2 : 2 * wd p ≤ 6) => wide_facts hp h2)
      have Hnm := hid hnm
      clear hr hs hk hH hl20 hs20 hgiv hp hg hnm hsv hs' Hv
      cases hm : apOk p ⟨xa, xb, xc, xd, xe, xf⟩ with
      | true =>
        have Hm := hid hm
        clear hm
        go_enter Tryd.func7, Tryd.ntmps7
        go_wp2_with (first
          | (go_at_call 31; refine Hlk.out.mono ?_; rintro e6 w6 ⟨rfl, k6⟩; have K6 := hid (K5.out.trans k6); have X6 := hid (X5x.out.trans k6); clear k6)
          | (go_at_call 32; refine (orbsizes_any Hro.out (k4x.out.1 _ HX2.out) Hp.out Ho.out).mono ?_; rintro e5 w5 ⟨A5, c5, X5, L5, rfl, k5, hX5, hr5, lb, n, hlb, hL5⟩; have K5 := hid (K4.out.trans k5); have X5x := hid (k4x.out.trans k5); have Hlk := hid (show Calls Tryd.prog 31 #[.slice A4 (List.length q) c4, .string nm, .slice A5 40 c5] w5 fun e w' => e = .returned (.bool true) ∧ Kp w5 w' from by obtain ⟨kk, ka, kb, z1, z2, z3⟩ := Hq.out.2; rw [Hnm.out]; rw [hL5] at hr5; exact like_of Hp.out Hg.out Hq.out.1 z1 z2 z3 Hr4.out (k5.1 _ HX4.out) Hk.out (HFb.out _ K5.out) hlb hr5 hX5); clear k5 hX5 hr5 hlb hL5)
          | (go_at_call 24; refine (HapT.out _ (HFb.out _ K3.out) Hm.out).mono ?_; rintro e4 w4 ⟨A4, c4, q, X4, rfl, k4, hX4, hr4, hq4⟩; have K4 := hid (K3.out.trans k4); have k4x := hid (show Kp w2 w4 from (Kp.drewN (Kp.refl w2) q3).trans k4); have HX4 := hid hX4; have Hr4 := hid hr4; have Hq := hid hq4; clear k4 hX4 hr4 hq4)
          | (go_at_call 20; refine (Hpa.out _ (HFb.out _ K2.out)).mono ?_; rintro e3 w3 ⟨rfl, q3, rfl⟩; have K3 := hid (Kp.drewN K2.out q3); obtain ⟨⟨m0, m1, m2, m3, m4, m5⟩, _⟩ := Keep.out _ K3.out)
          | (go_at_call 30; refine (Hor.out _ (HFb.out _ K1.out)).mono ?_; rintro e2 w2 ⟨A2, c2, rows, X2, rfl, k2, hX2, hr2, ho⟩; have K2 := hid (K1.out.trans k2); have HX2 := hid hX2; have Hro := hid hr2; have Ho := hid ho; clear k2 hX2 hr2 ho)
          | (go_at_call 15; refine (Hgr.out _ HFW.out).mono ?_; rintro e1 w1 ⟨rfl, k1⟩; have K1 := hid k1; clear k1)
          | (go_at_call 8; rw [← hW2, ← hb1]; clear hW2 hb1; refine Hfew.out.mono ?_; rintro e1 w1 ⟨rfl, hw1⟩; rw [hw1]; clear hw1))
        clear m0 m1 m2 m3 m4 m5
        have HB := hid (show Has (w6.alloc (.cells #[.bool false, .bool false, .bool false, .bool false] 57)) (blk w6.heap.size #[.bool (useF s 0 0), .bool (useF s 0 1), .bool (useF s 0 2), .bool (useF s 0 3)] 57 + MS.all w6) from (Has.all w6).alloc _)
        have EB := hid (Ext.alloc w6 (.cells #[.bool false, .bool false, .bool false, .bool false] 57))
        generalize w6.heap.size = bu at *
        generalize w6.alloc _ = w7 at *
        go_loopw [14] (fun v wr => ∃ i : Nat, i ≤ 4 ∧ v = .int .i64 i ∧ Has wr (blk bu #[.bool (useF s i 0), .bool (useF s i 1), .bool (useF s i 2), .bool (useF s i 3)] 57 + MS.all w6) ∧ Ext w6 wr) (fun v _ => 4 - (intOf v).toNat)
        case atStart => exact ⟨0, Nat.zero_le _, rfl, HB.out, EB.out⟩
        case round =>
          clear HB EB
          obtain ⟨i, hi, rfl, hW, hE⟩ := hrel
          have HW := hid hW
          have HE1 := hid hE
          have K7 := hid (show Kp w6 wr from ⟨fun M hM => hM.of_all hW, hE⟩)
          clear hW hE
          by_cases hlt : i < 4
          · have hltI : (i : Int) < 4 := by omega
            have Hlt := hid hlt
            have f0 := Kv.out wr (K6.out.trans K7.out) i hlt
            obtain ⟨hal, ht4⟩ := Hs.out i
            have Hu := hid (fun j => useF_succ s i j)
            generalize sv i = z at *
            generalize s i = a at *
            have haI : (a : Int) < 4 := by omega
            have ha0 : (0 : Int) ≤ a := by omega
            have Hal := hid hal
            clear hlt hi hal
            go_wp2_with (refine wpList_store_blk rfl (.tmp 82) (.const (.bool true)) 4 rfl size4 bu a (.bool true) rfl rfl rfl #[.bool (useF s i 0), .bool (useF s i 1), .bool (useF s i 2), .bool (useF s i 3)] 57 (MS.all w6) HW.out (by have := Hal.out; simp; omega) ?_; intro w9 k1 k2; rw [used_put (f := fun j => useF s i j) Hal.out] at k1; have HW9 := hid k1; have HE9 := hid (HE1.out.trans k2); clear k1 k2)
            go_roundw
            case rel => exact ⟨i + 1, Hlt.out, by go_num, by rw [Hu.out 0, Hu.out 1, Hu.out 2, Hu.out 3]; exact HW9.out, HE9.out⟩
            case measure => have := Hlt.out; simp [intOf]; omega
          · have hie : i = 4 := by omega
            have hiI : ¬ ((i : Int) < 4) := by omega
            rw [hie] at HW
            clear hlt hi hie
            obtain ⟨wb, hwb⟩ : ∃ wb, wb = wr := ⟨_, rfl⟩
            subst hwb
            have HBU := hid (show ∀ W, Kp wb W → (W.cell? ⟨bu, 0, none⟩ = some (.bool (useF s 4 0)) ∧ W.cell? ⟨bu, 1, none⟩ = some (.bool (useF s 4 1)) ∧ W.cell? ⟨bu, 2, none⟩ = some (.bool (useF s 4 2)) ∧ W.cell? ⟨bu, 3, none⟩ = some (.bool (useF s 4 3))) from fun W hK => by
              have h := hK.1 _ HW.out
              exact ⟨h.at_ rfl, h.at_ rfl, h.at_ rfl, h.at_ rfl⟩)
            have K8 := hid (K6.out.trans K7.out)
            have X8 := hid (X6.out.trans K7.out)
            clear HW HE1 K7 K6 X6
            have HG1 := hid (show Has wb (MS.all wb) from Has.all wb)
            have HKG := hid (show ∀ W Y, Has W (Y + MS.all wb) → Ext wb W → Kp wb W from fun W Y hW hE => ⟨fun M hM => hM.of_all hW, hE⟩)
            have EG1 := hid (Ext.refl wb)
            generalize MS.all wb = G1 at *
            have hp6I : (p.length : Int) ≤ 6 := by have := hp6.out; omega
            have hw6I : (wd p : Int) ≤ 6 := by have := hp6.out; omega
            go_wp2
            go_loopw [12, 15] (fun vo v wq => ∃ y : Nat, ∃ B dd ms, y ≤ p.length ∧ v = .int .i64 y ∧ vo = .slice B y dd ∧ SlR 9 1 StrR (swL s p y) (.slice B y dd) ms ∧ Has wq (ms + G1) ∧ Ext wb wq) (fun _ v _ => p.length - (intOf v).toNat)
            case atStart => exact ⟨0, none, 0, 0, Nat.zero_le _, rfl, rfl, ⟨[], 0, 0, Sl.nil _ _, RowsR.nil, by rw [MS.zero_add]⟩, HG1.out.eq (by rw [MS.zero_add]), EG1.out⟩
            case round =>
              clear HG1 EG1
              obtain ⟨y, B, dd, ms, hy, rfl, rfl, hS, hW, hE⟩ := hrel
              have HS := hid hS
              have HW := hid hW
              have HE1 := hid hE
              clear hS hW hE
              by_cases hlt : y < p.length
              · have hltI : (y : Int) < p.length := by omega
                have Hlt := hid hlt
                have HyI := hid (show y ≤ 6 by omega)
                obtain ⟨r, hr⟩ : ∃ r, p[y]? = some r := ⟨_, List.getElem?_eq_getElem hlt⟩
                have hrm := List.mem_of_getElem? hr
                have hsz := Hp.out.rows r hrm
                have hab := (abB_iff r).1 (Hab.out r hrm)
                have Habr := hid hab
                obtain ⟨b, oo, hA, hat⟩ := Hrd.out.getStr hr
                have Hstr := hid (show ∀ W, Kp wb W → W.cell? ⟨b, oo + y, none⟩ = some (.string r) from fun W hK => hat.c0 (HFb.out _ (K8.out.trans hK)))
                have Hl2 := hid (swL_succ (s := s) hr)
                have hrI : (r.size : Int) ≤ 6 := by omega
                have Hrs := hid (show 1 ≤ r.size ∧ r.size ≤ 6 by have := hp6.out; omega)
                subst hA
                clear hlt hy hr hrm hsz hab hat
                go_wp2
                go_loopw [16, 17] (fun vr v wz => ∃ x : Nat, ∃ B2 d2 m2, x ≤ r.size ∧ v = .int .i64 x ∧ vr = .slice B2 x d2 ∧ SlR 5 1 ByR (swRow s r x) (.slice B2 x d2) m2 ∧ Has wz (m2 + (ms + G1)) ∧ Ext wb wz) (fun _ v _ => r.size - (intOf v).toNat)
                case atStart => exact ⟨0, none, 0, 0, Nat.zero_le _, rfl, rfl, ⟨[], 0, 0, Sl.nil _ _, RowsR.nil, by rw [MS.zero_add]⟩, HW.out.eq (by rw [MS.zero_add]), HE1.out⟩
                case round =>
                  clear HW HE1
                  obtain ⟨x, B2, d2, m2, hx, rfl, rfl, hS2, hW2, hE2⟩ := hrel
                  have HS2 := hid hS2
                  have HW2 := hid hW2
                  have HE2 := hid hE2
                  have KZ := hid (HKG.out _ (m2 + ms) (hW2.eq (by ac_rfl)) hE2)
                  clear hS2 hW2 hE2
                  have f1 := Hstr.out _ KZ.out
                  by_cases hlx : x < r.size
                  · have hlxI : (x : Int) < r.size := by omega
                    have Hlx := hid hlx
                    obtain ⟨bb, hbb⟩ : ∃ bb, r.data.toList[x]? = some bb := ⟨_, List.getElem?_eq_getElem (by rw [Array.length_toList]; exact hlx)⟩
                    have hba := Habr.out bb (List.mem_of_getElem? hbb)
                    have Hr2 := hid (swRow_succ (s := s) hbb)
                    have hval := swB_val (s := s) (fun i _ => (Hs.out i).1) hba
                    unfold ab at hba
                    rw [decide_eq_true_eq] at hba
                    have hbt : ((r[x]'hlx).toNat : Int) = (bb.toNat : Int) := by
                      have h1 : r.data.toList[x]? = some (r[x]'hlx) := by
                        rw [List.getElem?_eq_getElem (by rw [Array.length_toList]; exact hlx), Array.getElem_toList]; rfl
                      rw [h1] at hbb
                      injection hbb with hbb
                      rw [hbb]
                    obtain ⟨j, hj⟩ : ∃ j, j = bb.toNat - 97 := ⟨_, rfl⟩
                    rw [← hj] at hval
                    obtain ⟨hs4, ht4⟩ := Hs.out j
                    have f2 := Kv.out _ (K8.out.trans KZ.out) j (by omega)
                    have hsub : IntKind.u8.wrap ((bb.toNat : Int) - 97) = (j : Int) := by
                      have h1 : IntKind.u8.wrap ((bb.toNat : Int) - 97) = ((bb.toNat : Int) - 97) % 256 := rfl
                      rw [h1]; omega
                    have hjI : (j : Int) < 4 := by omega
                    have hj0 : (0 : Int) ≤ j := by omega
                    have hadd : IntKind.u8.wrap (97 + (s j : Int)) = ((swB s bb).toNat : Int) := by
                      have h1 : IntKind.u8.wrap (97 + (s j : Int)) = (97 + (s j : Int)) % 256 := rfl
                      rw [h1, hval]; omega
                    generalize sv j = z at *
                    generalize s j = a at *
                    have hu8a : IntKind.u8.wrap (a : Int) = a := by
                      have h1 : IntKind.u8.wrap (a : Int) = (a : Int) % 256 := rfl
                      rw [h1]; omega
                    clear hx hbb hba hj hs4 hval
                    go_wp2_with (at_builtin; refine wpList_push rfl (.tmp 98) (.tmp 110) row58 rfl (.slice B2 x d2) rfl _ rfl rfl ByR ByR.one ByR.len (swRow s r x) (swB s bb) m2 0 (ms + G1) HS2.out ⟨rfl, rfl⟩ (HW2.out.eq (by rw [MS.zero_add])) x (swRow_len (by have := Hlx.out; omega)) (by have := Hlx.out; have := Hrs.out; omega) (by omega) ?_; intro A9 c9 w9 m9 j4 j5 j6; have J4 := hid j4; have J5 := hid j5; have J6 := hid (HE2.out.trans j6); clear j4 j5 j6)
                    go_roundw
                    case rel => exact ⟨x + 1, A9, c9, m9, Hlx.out, by go_num, rfl, by rw [Hr2.out]; exact J4.out, J5.out, J6.out⟩
                    case measure => have := Hlx.out; simp [intOf]; omega
                  · have hxe : x = r.size := by omega
                    subst hxe
                    have hrow := swRow_len (s := s) (r := r) (x := r.size) (Nat.le_refl _)
                    have hby : RdS (m2 + (ms + G1)) RT.by8 (swRow s r r.size) (.slice B2 (swRow s r r.size).length d2) := by
                      rw [hrow]
                      exact (SlR.rd (R := ByR) (T := RT.by8) (fun a cs m h => h.1) HS2.out).less _
                    have hconv := conv_by hby (by rw [hrow]; exact Hrs.out.1) HW2.out
                    rw [hrow, swRow_all] at hconv
                    clear hlx hx hby hrow
                    go_wp2_with (at_builtin; refine wpList_push rfl (.tmp 112) (.tmp 115) row22 rfl (.slice B y dd) rfl _ rfl rfl StrR StrR.one StrR.len (swL s p y) (swS s r) ms 0 (m2 + G1) HS.out ⟨rfl, rfl⟩ (HW2.out.eq (by rw [MS.zero_add]; ac_rfl)) y (swL_len (by have := Hlt.out; omega)) (by have := HyI.out; omega) (by omega) ?_; intro A9 c9 w9 m9 j4 j5 j6; have J4 := hid j4; have J5 := hid j5; have J6 := hid (HE2.out.trans j6); clear j4 j5 j6)
                    go_roundw
                    case rel => exact ⟨y + 1, A9, c9, m9, Hlt.out, by go_num, rfl, by rw [Hl2.out]; exact J4.out, (J5.out.eq (b := m2 + (m9 + G1)) (by ac_rfl)).right, J6.out⟩
                    case measure => have := Hlt.out; simp [intOf]; omega
              · have hye : y = p.length := by omega
                subst hye
                clear hlt hy
                have KQ := hid (HKG.out _ ms HW.out HE1.out)
                have Hro' := hid (show Has wr X2 from (X8.out.trans KQ.out).1 _ HX2.out)
                have Hoth := hid (show RdS ms RT.str (swL s p p.length) (.slice B (swL s p p.length).length dd) from by
                  rw [swL_len (Nat.le_refl _)]
                  exact SlR.rd (R := StrR) (T := RT.str) (fun a cs m h => h.1) HS.out)
                have HSo := hid HS.out
                have HWo := hid HW.out
                clear Hor Hpa HapT HapF HS Hfew
                obtain ⟨k0, k1, k2, k3⟩ := HBU.out wr KQ.out
                have Hwi2 := hid Hwi.out
                generalize useF s 4 0 = u0 at *
                generalize useF s 4 1 = u1 at *
                generalize useF s 4 2 = u2 at *
                generalize useF s 4 3 = u3 at *
                have heq := eq57 u0 u1 u2 u3 wr
                have KW := hid (K8.out.trans KQ.out)
                have XW := hid (X8.out.trans KQ.out)
                have hL0 := hp6.out
                obtain ⟨r0, hr0⟩ : ∃ r0, p[0]? = some r0 := ⟨_, List.getElem?_eq_getElem (by omega)⟩
                have hr0s := Hp.out.rows r0 (List.mem_of_getElem? hr0)
                obtain ⟨b0, o0, hA0, hat0⟩ := Hrd.out.getStr hr0
                rw [Nat.add_zero] at hat0
                have Hs0 := hid (show ∀ W, Kp W2 W → W.cell? ⟨b0, o0, none⟩ = some (.string r0) from fun W hK => hat0.c0 (HFb.out _ hK))
                subst hA0
                obtain ⟨z0, hz0⟩ : ∃ z0 : Int, z0 = 2 * (r0.size : Int) := ⟨_, rfl⟩
                have Hz0 := hid (show z0 = 2 * (wd p : Int) by rw [hz0, hr0s])
                have hr6I : (r0.size : Int) ≤ 6 := by omega
                have hp1I : (0 : Int) < (p.length : Int) := by omega
                have hz1 : IntKind.i64.wrap (2 * (r0.size : Int)) = z0 := by rw [hz0, IntKind.wrap_i64]; omega
                have hz2 : wrap64 (2 * (r0.size : Int)) = z0 := by clear hz1; rw [hz0]; unfold wrap64; omega
                have HZ1 := hid hz1
                have HZ2 := hid hz2
                clear hz0 hz1 hz2 hr0 hr0s hat0 hL0
                by_cases hwide : 6 < z0
                · cases hall : (u0 && (u1 && (u2 && u3))) with
                  | true =>
                    rw [hall] at heq
                    have hz1 := HZ1.out
                    have hz2 := HZ2.out
                    have HMv := hid (Hwi2.out (by revert hall; cases u0 <;> simp) (by revert hall; cases u0 <;> cases u1 <;> simp) (by revert hall; cases u0 <;> cases u1 <;> cases u2 <;> simp) (by revert hall; cases u0 <;> cases u1 <;> cases u2 <;> cases u3 <;> simp))
                    clear hall
                    go_wp2_with (first
                      | (go_at_call 9; refine (Hal.out _ (HFb.out _ KD.out)).mono ?_; rintro e15 w15 ⟨rfl, k15⟩; have KL := hid (KD.out.trans k15); clear k15)
                      | (go_at_call 15; refine (group_of Hp.out Hg.out Hqs.out (by omega) (same_mvs Hcs.out) Hrs.out (KB.out.1 _ HXs.out) Hk.out (HFb.out _ KC.out)).mono ?_; rintro e13 w13 ⟨rfl, k13⟩; rw [← Hnm.out]; have KD := hid (KC.out.trans k13); have fs := Hs0.out _ KD.out; clear k13)
                      | (go_at_call 25; refine (floored_any (rd_all_str Hrd.out (HFb.out _ KA.out)) (rd_all_str Hrs.out HXs.out) Hp.out Hqs.out (Has.all _) Hcs.out).mono ?_; rintro e12 w12 ⟨rfl, n12, rfl⟩; have KB := hid (show Kp w11 (w11.drewN n12) from Kp.drewN (Kp.refl _) n12); have KC := hid (KA.out.trans KB.out))
                      | (go_at_call 28; refine (Hsm.out _ (HFb.out _ KS.out)).mono ?_; rintro e11 w11 ⟨As, cs, qs, Xs, rfl, k11, hXs, hrs, z1, z2, z3⟩; have KA := hid (KS.out.trans k11); have HXs := hid hXs; have Hrs := hid hrs; have Hqs := hid z1; have Hcs := hid z2; have hle : ¬ ((p.length : Int) < ((List.length qs : Nat) : Int)) := (by omega); clear k11 hXs hrs z1 z2 z3)
                      | (go_at_call 31; refine Hlk2.out.mono ?_; rintro e10 w10 ⟨rfl, k10⟩; have KS := hid (K9.out.trans k10); clear k10)
                      | (go_at_call 32; refine (orbsizes_any Hro.out (XW.out.1 _ HX2.out) Hp.out Ho.out).mono ?_; rintro e9 w9 ⟨A9, c9, X9, L9, rfl, k9, hX9, hr9, lb9, n9, hlb9, hL9⟩; have K9 := hid (KW.out.trans k9); have Hlk2 := hid (show Calls Tryd.prog 31 #[.slice B p.length dd, .string nm, .slice A9 40 c9] w9 fun e w' => e = .returned (.bool true) ∧ Kp w9 w' from by rw [Hnm.out]; rw [hL9] at hr9; have hx := like_of Hp.out Hg.out Hw.out.1 (show 0 < 8 by omega) HMv.out Hw.out.2.1 Hoth.out (k9.1 _ HWo.out.left) Hk.out (HFb.out _ K9.out) hlb9 hr9 hX9; rw [swL_len (Nat.le_refl _)] at hx; exact hx); clear k9 hX9 hr9 hlb9 hL9))
                    go_ret
                    exact ⟨rfl, HFb.out _ KL.out, HE.out.trans KL.out.2⟩
                  | false =>
                    rw [hall] at heq
                    have hz1 := HZ1.out
                    have hz2 := HZ2.out
                    clear hall
                    go_wp2_with (first
                      | (go_at_call 9; refine (Hal.out _ (HFb.out _ KD.out)).mono ?_; rintro e15 w15 ⟨rfl, k15⟩; have KL := hid (KD.out.trans k15); clear k15)
                      | (go_at_call 15; refine (group_of Hp.out Hg.out Hqs.out (by omega) (same_mvs Hcs.out) Hrs.out (KB.out.1 _ HXs.out) Hk.out (HFb.out _ KC.out)).mono ?_; rintro e13 w13 ⟨rfl, k13⟩; rw [← Hnm.out]; have KD := hid (KC.out.trans k13); have fs := Hs0.out _ KD.out; clear k13)
                      | (go_at_call 25; refine (floored_any (rd_all_str Hrd.out (HFb.out _ KA.out)) (rd_all_str Hrs.out HXs.out) Hp.out Hqs.out (Has.all _) Hcs.out).mono ?_; rintro e12 w12 ⟨rfl, n12, rfl⟩; have KB := hid (show Kp w11 (w11.drewN n12) from Kp.drewN (Kp.refl _) n12); have KC := hid (KA.out.trans KB.out))
                      | (go_at_call 28; refine (Hsm.out _ (HFb.out _ KW.out)).mono ?_; rintro e11 w11 ⟨As, cs, qs, Xs, rfl, k11, hXs, hrs, z1, z2, z3⟩; have KA := hid (KW.out.trans k11); have HXs := hid hXs; have Hrs := hid hrs; have Hqs := hid z1; have Hcs := hid z2; have hle : ¬ ((p.length : Int) < ((List.length qs : Nat) : Int)) := (by omega); clear k11 hXs hrs z1 z2 z3))
                    go_ret
                    exact ⟨rfl, HFb.out _ KL.out, HE.out.trans KL.out.2⟩
                · cases hall : (u0 && (u1 && (u2 && u3))) with
                  | true =>
                    rw [hall] at heq
                    have hz1 := HZ1.out
                    have hz2 := HZ2.out
                    have HMv := hid (Hwi2.out (by revert hall; cases u0 <;> simp) (by revert hall; cases u0 <;> cases u1 <;> simp) (by revert hall; cases u0 <;> cases u1 <;> cases u2 <;> simp) (by revert hall; cases u0 <;> cases u1 <;> cases u2 <;> cases u3 <;> simp))
                    clear hall
                    go_wp2_with (first
                      | (go_at_call 15; refine (group_of Hp.out Hg.out Hqs.out (by omega) (same_mvs Hcs.out) Hrs.out (KB.out.1 _ HXs.out) Hk.out (HFb.out _ KC.out)).mono ?_; rintro e13 w13 ⟨rfl, k13⟩; rw [← Hnm.out]; have KD := hid (KC.out.trans k13); have fs := Hs0.out _ KD.out; clear k13)
                      | (go_at_call 25; refine (floored_any (rd_all_str Hrd.out (HFb.out _ KA.out)) (rd_all_str Hrs.out HXs.out) Hp.out Hqs.out (Has.all _) Hcs.out).mono ?_; rintro e12 w12 ⟨rfl, n12, rfl⟩; have KB := hid (show Kp w11 (w11.drewN n12) from Kp.drewN (Kp.refl _) n12); have KC := hid (KA.out.trans KB.out))
                      | (go_at_call 28; refine (Hsm.out _ (HFb.out _ KS.out)).mono ?_; rintro e11 w11 ⟨As, cs, qs, Xs, rfl, k11, hXs, hrs, z1, z2, z3⟩; have KA := hid (KS.out.trans k11); have HXs := hid hXs; have Hrs := hid hrs; have Hqs := hid z1; have Hcs := hid z2; have hle : ¬ ((p.length : Int) < ((List.length qs : Nat) : Int)) := (by omega); clear k11 hXs hrs z1 z2 z3)
                      | (go_at_call 31; refine Hlk2.out.mono ?_; rintro e10 w10 ⟨rfl, k10⟩; have KS := hid (K9.out.trans k10); clear k10)
                      | (go_at_call 32; refine (orbsizes_any Hro.out (XW.out.1 _ HX2.out) Hp.out Ho.out).mono ?_; rintro e9 w9 ⟨A9, c9, X9, L9, rfl, k9, hX9, hr9, lb9, n9, hlb9, hL9⟩; have K9 := hid (KW.out.trans k9); have Hlk2 := hid (show Calls Tryd.prog 31 #[.slice B p.length dd, .string nm, .slice A9 40 c9] w9 fun e w' => e = .returned (.bool true) ∧ Kp w9 w' from by rw [Hnm.out]; rw [hL9] at hr9; have hx := like_of Hp.out Hg.out Hw.out.1 (show 0 < 8 by omega) HMv.out Hw.out.2.1 Hoth.out (k9.1 _ HWo.out.left) Hk.out (HFb.out _ K9.out) hlb9 hr9 hX9; rw [swL_len (Nat.le_refl _)] at hx; exact hx); clear k9 hX9 hr9 hlb9 hL9))
                    clear fs hz1 hz2 heq k0 k1 k2 k3
                    have HG2 := hid (Has.all w13)
                    have EG2 := hid (Ext.refl w13)
                    have HKG2 := hid (show ∀ W Y, Has W (Y + MS.all w13) → Ext w13 W → Kp w13 W from fun W Y hW hE => ⟨fun M hM => hM.of_all hW, hE⟩)
                    generalize MS.all w13 = G2 at *
                    go_loopw [20, 21] (fun vo v wz => ∃ y : Nat, ∃ B4 d4 m4, y ≤ p.length ∧ v = .int .i64 y ∧ vo = .slice B4 y d4 ∧ SlR 9 1 StrR (wideL p y) (.slice B4 y d4) m4 ∧ Has wz (m4 + G2) ∧ Ext w13 wz) (fun _ v _ => p.length - (intOf v).toNat)
                    case atStart => exact ⟨0, none, 0, 0, Nat.zero_le _, rfl, rfl, ⟨[], 0, 0, Sl.nil _ _, RowsR.nil, by rw [MS.zero_add]⟩, HG2.out.eq (by rw [MS.zero_add]), EG2.out⟩
                    case round =>
                      clear HG2 EG2
                      obtain ⟨y, B4, d4, m4, hy, rfl, rfl, hS, hW, hE⟩ := hrel
                      have HS4 := hid hS
                      have HW4 := hid hW
                      have HE4 := hid hE
                      have KZ := hid (HKG2.out _ m4 hW hE)
                      clear hS hW hE
                      by_cases hlt : y < p.length
                      · have hltI : (y : Int) < p.length := by omega
                        have Hlt := hid hlt
                        have HyI := hid (show y ≤ 6 by have := hp6.out; omega)
                        obtain ⟨r, hr⟩ : ∃ r, p[y]? = some r := ⟨_, List.getElem?_eq_getElem hlt⟩
                        obtain ⟨bb, ob, hA, hat⟩ := Hrd.out.getStr hr
                        injection hA with hA
                        injection hA with hb1' ho1' _
                        subst hb1'
                        subst ho1'
                        have Hstr := hid (show ∀ W, Kp w13 W → W.cell? ⟨b0, o0 + y, none⟩ = some (.string r) from fun W hK => hat.c0 (HFb.out _ (KD.out.trans hK)))
                        have Hl2 := hid (wideL_succ hr)
                        have hrz := Hp.out.rows r (List.mem_of_getElem? hr)
                        have hrI : (r.size : Int) ≤ 6 := by have := hp6.out; omega
                        have hr6N : r.size ≤ 6 := by have := hp6.out; omega
                        have hcat : ¬ (9223372036854775807 < r.size + r.size) := Nat.not_lt.2 (Nat.le_trans (Nat.add_le_add hr6N hr6N) (by decide))
                        clear hlt hy hr hat hrz hr6N
                        go_wp2
                        have KZd := hid (KZ.out.trans (Kp.refl wr).drew)
                        have HWd := hid (show Has wr.drew (m4 + G2) from HW4.out.drew)
                        have hS := Hstr.out wr.drew KZd.out
                        refine wp_region_txt (fun W => W.cell? ⟨b0, o0 + y, none⟩ = some (.string r)) none
                          [(0, true), (1, true), (2, true), (3, true), (4, true), (5, true), (6, true), (7, true), (8, true), (9, true), (10, false), (11, false), (12, true)] (by kernel_rfl) rfl (by kernel_rfl) (by kernel_rfl) (by repeat (first | with_reducible refine PanicOk.thn ?_ | with_reducible refine PanicOk.blk ?_ | exact PanicOk.body _ _ _)) ?_
                        repeat
                          (refine txt_quiet ?_ hS rfl rfl (fun W hW => ?_) ?_
                           rotate_left 1
                           · obtain hW1 := hW
                             go_simp
                             exact rfl
                           simp only [Act.put, List.setIfInBounds_toArray, List.set_cons_zero, List.set_cons_succ])
                        refine txt_op rfl rfl ?_
                        refine op_run (.slice (some ⟨wr.drew.heap.size, 0, none⟩) 1 1) (wr.drew.alloc (.cells #[.string (r ++ r)] 9)) (by go_simp) ?_
                        have hS6 := Hstr.out (wr.drew.alloc (.cells #[.string (r ++ r)] 9)) (KZd.out.trans ⟨fun M hM => hM.of_all ((Has.all _).alloc _), Ext.alloc _ _⟩)
                        refine ⟨fun _ => hS6, ?_⟩
                        simp only [Act.put, List.setIfInBounds_toArray, List.set_cons_zero, List.set_cons_succ]
                        clear hS
                        refine txt_op rfl rfl ?_
                        refine op_push (.tmp 173) (.tmp 183) row22 rfl (.slice B4 y d4) rfl _ rfl rfl StrR StrR.one StrR.len (wideL p y) (r ++ r) m4 0 G2 HS4.out ⟨rfl, rfl⟩ (HWd.out.eq (by rw [MS.zero_add])) y (wideL_len (by have := Hlt.out; omega)) (by have := HyI.out; omega) (by omega) ?_
                        intro A7 c7 w8 ms7 j4 j5 j6
                        have J4 := hid j4
                        have J5 := hid j5
                        have J6 := hid ((HE4.out.trans (Ext.drew _)).trans j6)
                        have hS7 := Hstr.out w8 (HKG2.out _ _ j5 J6.out)
                        clear j4 j5 j6
                        refine ⟨fun _ => hS7, ?_⟩
                        simp only [Act.put, List.setIfInBounds_toArray, List.set_cons_zero, List.set_cons_succ]
                        clear hS6
                        repeat
                          (refine txt_quiet ?_ hS7 rfl rfl (fun W hW => ?_) ?_
                           rotate_left 1
                           · obtain hW1 := hW
                             go_simp
                             exact rfl
                           simp only [Act.put, List.setIfInBounds_toArray, List.set_cons_zero, List.set_cons_succ])
                        refine txt_done ?_
                        clear hS7 hcat
                        go_wp2
                        go_roundw
                        case rel => exact ⟨y + 1, A7, c7, ms7, Hlt.out, by go_num, rfl, by rw [Hl2.out]; exact J4.out, J5.out, J6.out⟩
                        case measure => have := Hlt.out; simp [intOf]; omega
                      · have hye : y = p.length := by omega
                        subst hye
                        clear hlt hy
                        have Hwr := hid (show RdS m4 RT.str (wideL p p.length) (.slice B4 (wideL p p.length).length d4) from by
                          rw [wideL_len (Nat.le_refl _)]
                          exact SlR.rd (R := StrR) (T := RT.str) (fun a cs m h => h.1) HS4.out)
                        have KE := hid (KD.out.trans KZ.out)
                        have Hgw := hid (show Calls Tryd.prog 15 #[.slice B4 p.length d4] wr fun e w' => e = .returned (.tuple #[.string nm, .int .i64 0]) ∧ Kp wr w' from by
                          rw [Hnm.out]
                          obtain ⟨q1, q2⟩ := Hwd.out (by have := Hz0.out; omega)
                          have hx := group_of Hp.out Hg.out q1 (show 0 < 8 by omega) (same_mvs q2) Hwr.out HW4.out.left Hk.out (HFb.out _ KE.out)
                          rw [wideL_len (Nat.le_refl _)] at hx
                          exact hx)
                        go_wp2_with (first
                          | (go_at_call 9; refine (Hal.out _ (HFb.out _ KF.out)).mono ?_; rintro e15 w15 ⟨rfl, k15⟩; have KL := hid (KF.out.trans k15); clear k15)
                          | (go_at_call 15; refine Hgw.out.mono ?_; rintro e14 w14 ⟨rfl, k14⟩; have KF := hid (KE.out.trans k14); clear k14))
                        go_ret
                        exact ⟨rfl, HFb.out _ KL.out, HE.out.trans KL.out.2⟩
                  | false =>
                    rw [hall] at heq
                    have hz1 := HZ1.out
                    have hz2 := HZ2.out
                    clear hall
                    go_wp2_with (first
                      | (go_at_call 15; refine (group_of Hp.out Hg.out Hqs.out (by omega) (same_mvs Hcs.out) Hrs.out (KB.out.1 _ HXs.out) Hk.out (HFb.out _ KC.out)).mono ?_; rintro e13 w13 ⟨rfl, k13⟩; rw [← Hnm.out]; have KD := hid (KC.out.trans k13); have fs := Hs0.out _ KD.out; clear k13)
                      | (go_at_call 25; refine (floored_any (rd_all_str Hrd.out (HFb.out _ KA.out)) (rd_all_str Hrs.out HXs.out) Hp.out Hqs.out (Has.all _) Hcs.out).mono ?_; rintro e12 w12 ⟨rfl, n12, rfl⟩; have KB := hid (show Kp w11 (w11.drewN n12) from Kp.drewN (Kp.refl _) n12); have KC := hid (KA.out.trans KB.out))
                      | (go_at_call 28; refine (Hsm.out _ (HFb.out _ KW.out)).mono ?_; rintro e11 w11 ⟨As, cs, qs, Xs, rfl, k11, hXs, hrs, z1, z2, z3⟩; have KA := hid (KW.out.trans k11); have HXs := hid hXs; have Hrs := hid hrs; have Hqs := hid z1; have Hcs := hid z2; have hle : ¬ ((p.length : Int) < ((List.length qs : Nat) : Int)) := (by omega); clear k11 hXs hrs z1 z2 z3))
                    clear fs hz1 hz2 heq k0 k1 k2 k3
                    have HG2 := hid (Has.all w13)
                    have EG2 := hid (Ext.refl w13)
                    have HKG2 := hid (show ∀ W Y, Has W (Y + MS.all w13) → Ext w13 W → Kp w13 W from fun W Y hW hE => ⟨fun M hM => hM.of_all hW, hE⟩)
                    generalize MS.all w13 = G2 at *
                    go_loopw [20, 21] (fun vo v wz => ∃ y : Nat, ∃ B4 d4 m4, y ≤ p.length ∧ v = .int .i64 y ∧ vo = .slice B4 y d4 ∧ SlR 9 1 StrR (wideL p y) (.slice B4 y d4) m4 ∧ Has wz (m4 + G2) ∧ Ext w13 wz) (fun _ v _ => p.length - (intOf v).toNat)
                    case atStart => exact ⟨0, none, 0, 0, Nat.zero_le _, rfl, rfl, ⟨[], 0, 0, Sl.nil _ _, RowsR.nil, by rw [MS.zero_add]⟩, HG2.out.eq (by rw [MS.zero_add]), EG2.out⟩
                    case round =>
                      clear HG2 EG2
                      obtain ⟨y, B4, d4, m4, hy, rfl, rfl, hS, hW, hE⟩ := hrel
                      have HS4 := hid hS
                      have HW4 := hid hW
                      have HE4 := hid hE
                      have KZ := hid (HKG2.out _ m4 hW hE)
                      clear hS hW hE
                      by_cases hlt : y < p.length
                      · have hltI : (y : Int) < p.length := by omega
                        have Hlt := hid hlt
                        have HyI := hid (show y ≤ 6 by have := hp6.out; omega)
                        obtain ⟨r, hr⟩ : ∃ r, p[y]? = some r := ⟨_, List.getElem?_eq_getElem hlt⟩
                        obtain ⟨bb, ob, hA, hat⟩ := Hrd.out.getStr hr
                        injection hA with hA
                        injection hA with hb1' ho1' _
                        subst hb1'
                        subst ho1'
                        have Hstr := hid (show ∀ W, Kp w13 W → W.cell? ⟨b0, o0 + y, none⟩ = some (.string r) from fun W hK => hat.c0 (HFb.out _ (KD.out.trans hK)))
                        have Hl2 := hid (wideL_succ hr)
                        have hrz := Hp.out.rows r (List.mem_of_getElem? hr)
                        have hrI : (r.size : Int) ≤ 6 := by have := hp6.out; omega
                        have hr6N : r.size ≤ 6 := by have := hp6.out; omega
                        have hcat : ¬ (9223372036854775807 < r.size + r.size) := Nat.not_lt.2 (Nat.le_trans (Nat.add_le_add hr6N hr6N) (by decide))
                        clear hlt hy hr hat hrz hr6N
                        go_wp2
                        have KZd := hid (KZ.out.trans (Kp.refl wr).drew)
                        have HWd := hid (show Has wr.drew (m4 + G2) from HW4.out.drew)
                        have hS := Hstr.out wr.drew KZd.out
                        refine wp_region_txt (fun W => W.cell? ⟨b0, o0 + y, none⟩ = some (.string r)) none
                          [(0, true), (1, true), (2, true), (3, true), (4, true), (5, true), (6, true), (7, true), (8, true), (9, true), (10, false), (11, false), (12, true)] (by kernel_rfl) rfl (by kernel_rfl) (by kernel_rfl) (by repeat (first | with_reducible refine PanicOk.thn ?_ | with_reducible refine PanicOk.blk ?_ | exact PanicOk.body _ _ _)) ?_
                        repeat
                          (refine txt_quiet ?_ hS rfl rfl (fun W hW => ?_) ?_
                           rotate_left 1
                           · obtain hW1 := hW
                             go_simp
                             exact rfl
                           simp only [Act.put, List.setIfInBounds_toArray, List.set_cons_zero, List.set_cons_succ])
                        refine txt_op rfl rfl ?_
                        refine op_run (.slice (some ⟨wr.drew.heap.size, 0, none⟩) 1 1) (wr.drew.alloc (.cells #[.string (r ++ r)] 9)) (by go_simp) ?_
                        have hS6 := Hstr.out (wr.drew.alloc (.cells #[.string (r ++ r)] 9)) (KZd.out.trans ⟨fun M hM => hM.of_all ((Has.all _).alloc _), Ext.alloc _ _⟩)
                        refine ⟨fun _ => hS6, ?_⟩
                        simp only [Act.put, List.setIfInBounds_toArray, List.set_cons_zero, List.set_cons_succ]
                        clear hS
                        refine txt_op rfl rfl ?_
                        refine op_push (.tmp 173) (.tmp 183) row22 rfl (.slice B4 y d4) rfl _ rfl rfl StrR StrR.one StrR.len (wideL p y) (r ++ r) m4 0 G2 HS4.out ⟨rfl, rfl⟩ (HWd.out.eq (by rw [MS.zero_add])) y (wideL_len (by have := Hlt.out; omega)) (by have := HyI.out; omega) (by omega) ?_
                        intro A7 c7 w8 ms7 j4 j5 j6
                        have J4 := hid j4
                        have J5 := hid j5
                        have J6 := hid ((HE4.out.trans (Ext.drew _)).trans j6)
                        have hS7 := Hstr.out w8 (HKG2.out _ _ j5 J6.out)
                        clear j4 j5 j6
                        refine ⟨fun _ => hS7, ?_⟩
                        simp only [Act.put, List.setIfInBounds_toArray, List.set_cons_zero, List.set_cons_succ]
                        clear hS6
                        repeat
                          (refine txt_quiet ?_ hS7 rfl rfl (fun W hW => ?_) ?_
                           rotate_left 1
                           · obtain hW1 := hW
                             go_simp
                             exact rfl
                           simp only [Act.put, List.setIfInBounds_toArray, List.set_cons_zero, List.set_cons_succ])
                        refine txt_done ?_
                        clear hS7 hcat
                        go_wp2
                        go_roundw
                        case rel => exact ⟨y + 1, A7, c7, ms7, Hlt.out, by go_num, rfl, by rw [Hl2.out]; exact J4.out, J5.out, J6.out⟩
                        case measure => have := Hlt.out; simp [intOf]; omega
                      · have hye : y = p.length := by omega
                        subst hye
                        clear hlt hy
                        have Hwr := hid (show RdS m4 RT.str (wideL p p.length) (.slice B4 (wideL p p.length).length d4) from by
                          rw [wideL_len (Nat.le_refl _)]
                          exact SlR.rd (R := StrR) (T := RT.str) (fun a cs m h => h.1) HS4.out)
                        have KE := hid (KD.out.trans KZ.out)
                        have Hgw := hid (show Calls Tryd.prog 15 #[.slice B4 p.length d4] wr fun e w' => e = .returned (.tuple #[.string nm, .int .i64 0]) ∧ Kp wr w' from by
                          rw [Hnm.out]
                          obtain ⟨q1, q2⟩ := Hwd.out (by have := Hz0.out; omega)
                          have hx := group_of Hp.out Hg.out q1 (show 0 < 8 by omega) (same_mvs q2) Hwr.out HW4.out.left Hk.out (HFb.out _ KE.out)
                          rw [wideL_len (Nat.le_refl _)] at hx
                          exact hx)
                        go_wp2_with (first
                          | (go_at_call 9; refine (Hal.out _ (HFb.out _ KF.out)).mono ?_; rintro e15 w15 ⟨rfl, k15⟩; have KL := hid (KF.out.trans k15); clear k15)
                          | (go_at_call 15; refine Hgw.out.mono ?_; rintro e14 w14 ⟨rfl, k14⟩; have KF := hid (KE.out.trans k14); clear k14))
                        go_ret
                        exact ⟨rfl, HFb.out _ KL.out, HE.out.trans KL.out.2⟩
      | false =>
        have Hm := hid hm
        clear hm
        go_enter Tryd.func7, Tryd.ntmps7
        go_wp2_with (first
          | (go_at_call 24; refine (HapF.out _ (HFb.out _ K3.out) Hm.out).mono ?_; rintro e4 w6 ⟨A4, c4, nq, rfl, k4⟩; have K6 := hid (K3.out.trans k4); have X6 := hid (show Kp w2 w6 from (Kp.drewN (Kp.refl w2) q3).trans k4); clear k4)
          | (go_at_call 20; refine (Hpa.out _ (HFb.out _ K2.out)).mono ?_; rintro e3 w3 ⟨rfl, q3, rfl⟩; have K3 := hid (Kp.drewN K2.out q3); obtain ⟨⟨m0, m1, m2, m3, m4, m5⟩, _⟩ := Keep.out _ K3.out)
          | (go_at_call 30; refine (Hor.out _ (HFb.out _ K1.out)).mono ?_; rintro e2 w2 ⟨A2, c2, rows, X2, rfl, k2, hX2, hr2, ho⟩; have K2 := hid (K1.out.trans k2); have HX2 := hid hX2; have Hro := hid hr2; have Ho := hid ho; clear k2 hX2 hr2 ho)
          | (go_at_call 15; refine (Hgr.out _ HFW.out).mono ?_; rintro e1 w1 ⟨rfl, k1⟩; have K1 := hid k1; clear k1)
          | (go_at_call 8; rw [← hW2, ← hb1]; clear hW2 hb1; refine Hfew.out.mono ?_; rintro e1 w1 ⟨rfl, hw1⟩; rw [hw1]; clear hw1))
        clear m0 m1 m2 m3 m4 m5
        have HB := hid (show Has (w6.alloc (.cells #[.bool false, .bool false, .bool false, .bool false] 57)) (blk w6.heap.size #[.bool (useF s 0 0), .bool (useF s 0 1), .bool (useF s 0 2), .bool (useF s 0 3)] 57 + MS.all w6) from (Has.all w6).alloc _)
        have EB := hid (Ext.alloc w6 (.cells #[.bool false, .bool false, .bool false, .bool false] 57))
        generalize w6.heap.size = bu at *
        generalize w6.alloc _ = w7 at *
        go_loopw [14] (fun v wr => ∃ i : Nat, i ≤ 4 ∧ v = .int .i64 i ∧ Has wr (blk bu #[.bool (useF s i 0), .bool (useF s i 1), .bool (useF s i 2), .bool (useF s i 3)] 57 + MS.all w6) ∧ Ext w6 wr) (fun v _ => 4 - (intOf v).toNat)
        case atStart => exact ⟨0, Nat.zero_le _, rfl, HB.out, EB.out⟩
        case round =>
          clear HB EB
          obtain ⟨i, hi, rfl, hW, hE⟩ := hrel
          have HW := hid hW
          have HE1 := hid hE
          have K7 := hid (show Kp w6 wr from ⟨fun M hM => hM.of_all hW, hE⟩)
          clear hW hE
          by_cases hlt : i < 4
          · have hltI : (i : Int) < 4 := by omega
            have Hlt := hid hlt
            have f0 := Kv.out wr (K6.out.trans K7.out) i hlt
            obtain ⟨hal, ht4⟩ := Hs.out i
            have Hu := hid (fun j => useF_succ s i j)
            generalize sv i = z at *
            generalize s i = a at *
            have haI : (a : Int) < 4 := by omega
            have ha0 : (0 : Int) ≤ a := by omega
            have Hal := hid hal
            clear hlt hi hal
            go_wp2_with (refine wpList_store_blk rfl (.tmp 82) (.const (.bool true)) 4 rfl size4 bu a (.bool true) rfl rfl rfl #[.bool (useF s i 0), .bool (useF s i 1), .bool (useF s i 2), .bool (useF s i 3)] 57 (MS.all w6) HW.out (by have := Hal.out; simp; omega) ?_; intro w9 k1 k2; rw [used_put (f := fun j => useF s i j) Hal.out] at k1; have HW9 := hid k1; have HE9 := hid (HE1.out.trans k2); clear k1 k2)
            go_roundw
            case rel => exact ⟨i + 1, Hlt.out, by go_num, by rw [Hu.out 0, Hu.out 1, Hu.out 2, Hu.out 3]; exact HW9.out, HE9.out⟩
            case measure => have := Hlt.out; simp [intOf]; omega
          · have hie : i = 4 := by omega
            have hiI : ¬ ((i : Int) < 4) := by omega
            rw [hie] at HW
            clear hlt hi hie
            obtain ⟨wb, hwb⟩ : ∃ wb, wb = wr := ⟨_, rfl⟩
            subst hwb
            have HBU := hid (show ∀ W, Kp wb W → (W.cell? ⟨bu, 0, none⟩ = some (.bool (useF s 4 0)) ∧ W.cell? ⟨bu, 1, none⟩ = some (.bool (useF s 4 1)) ∧ W.cell? ⟨bu, 2, none⟩ = some (.bool (useF s 4 2)) ∧ W.cell? ⟨bu, 3, none⟩ = some (.bool (useF s 4 3))) from fun W hK => by
              have h := hK.1 _ HW.out
              exact ⟨h.at_ rfl, h.at_ rfl, h.at_ rfl, h.at_ rfl⟩)
            have K8 := hid (K6.out.trans K7.out)
            have X8 := hid (X6.out.trans K7.out)
            clear HW HE1 K7 K6 X6
            have HG1 := hid (show Has wb (MS.all wb) from Has.all wb)
            have HKG := hid (show ∀ W Y, Has W (Y + MS.all wb) → Ext wb W → Kp wb W from fun W Y hW hE => ⟨fun M hM => hM.of_all hW, hE⟩)
            have EG1 := hid (Ext.refl wb)
            generalize MS.all wb = G1 at *
            have hp6I : (p.length : Int) ≤ 6 := by have := hp6.out; omega
            have hw6I : (wd p : Int) ≤ 6 := by have := hp6.out; omega
            go_wp2
            go_loopw [12, 15] (fun vo v wq => ∃ y : Nat, ∃ B dd ms, y ≤ p.length ∧ v = .int .i64 y ∧ vo = .slice B y dd ∧ SlR 9 1 StrR (swL s p y) (.slice B y dd) ms ∧ Has wq (ms + G1) ∧ Ext wb wq) (fun _ v _ => p.length - (intOf v).toNat)
            case atStart => exact ⟨0, none, 0, 0, Nat.zero_le _, rfl, rfl, ⟨[], 0, 0, Sl.nil _ _, RowsR.nil, by rw [MS.zero_add]⟩, HG1.out.eq (by rw [MS.zero_add]), EG1.out⟩
            case round =>
              clear HG1 EG1
              obtain ⟨y, B, dd, ms, hy, rfl, rfl, hS, hW, hE⟩ := hrel
              have HS := hid hS
              have HW := hid hW
              have HE1 := hid hE
              clear hS hW hE
              by_cases hlt : y < p.length
              · have hltI : (y : Int) < p.length := by omega
                have Hlt := hid hlt
                have HyI := hid (show y ≤ 6 by omega)
                obtain ⟨r, hr⟩ : ∃ r, p[y]? = some r := ⟨_, List.getElem?_eq_getElem hlt⟩
                have hrm := List.mem_of_getElem? hr
                have hsz := Hp.out.rows r hrm
                have hab := (abB_iff r).1 (Hab.out r hrm)
                have Habr := hid hab
                obtain ⟨b, oo, hA, hat⟩ := Hrd.out.getStr hr
                have Hstr := hid (show ∀ W, Kp wb W → W.cell? ⟨b, oo + y, none⟩ = some (.string r) from fun W hK => hat.c0 (HFb.out _ (K8.out.trans hK)))
                have Hl2 := hid (swL_succ (s := s) hr)
                have hrI : (r.size : Int) ≤ 6 := by omega
                have Hrs := hid (show 1 ≤ r.size ∧ r.size ≤ 6 by have := hp6.out; omega)
                subst hA
                clear hlt hy hr hrm hsz hab hat
                go_wp2
                go_loopw [16, 17] (fun vr v wz => ∃ x : Nat, ∃ B2 d2 m2, x ≤ r.size ∧ v = .int .i64 x ∧ vr = .slice B2 x d2 ∧ SlR 5 1 ByR (swRow s r x) (.slice B2 x d2) m2 ∧ Has wz (m2 + (ms + G1)) ∧ Ext wb wz) (fun _ v _ => r.size - (intOf v).toNat)
                case atStart => exact ⟨0, none, 0, 0, Nat.zero_le _, rfl, rfl, ⟨[], 0, 0, Sl.nil _ _, RowsR.nil, by rw [MS.zero_add]⟩, HW.out.eq (by rw [MS.zero_add]), HE1.out⟩
                case round =>
                  clear HW HE1
                  obtain ⟨x, B2, d2, m2, hx, rfl, rfl, hS2, hW2, hE2⟩ := hrel
                  have HS2 := hid hS2
                  have HW2 := hid hW2
                  have HE2 := hid hE2
                  have KZ := hid (HKG.out _ (m2 + ms) (hW2.eq (by ac_rfl)) hE2)
                  clear hS2 hW2 hE2
                  have f1 := Hstr.out _ KZ.out
                  by_cases hlx : x < r.size
                  · have hlxI : (x : Int) < r.size := by omega
                    have Hlx := hid hlx
                    obtain ⟨bb, hbb⟩ : ∃ bb, r.data.toList[x]? = some bb := ⟨_, List.getElem?_eq_getElem (by rw [Array.length_toList]; exact hlx)⟩
                    have hba := Habr.out bb (List.mem_of_getElem? hbb)
                    have Hr2 := hid (swRow_succ (s := s) hbb)
                    have hval := swB_val (s := s) (fun i _ => (Hs.out i).1) hba
                    unfold ab at hba
                    rw [decide_eq_true_eq] at hba
                    have hbt : ((r[x]'hlx).toNat : Int) = (bb.toNat : Int) := by
                      have h1 : r.data.toList[x]? = some (r[x]'hlx) := by
                        rw [List.getElem?_eq_getElem (by rw [Array.length_toList]; exact hlx), Array.getElem_toList]; rfl
                      rw [h1] at hbb
                      injection hbb with hbb
                      rw [hbb]
                    obtain ⟨j, hj⟩ : ∃ j, j = bb.toNat - 97 := ⟨_, rfl⟩
                    rw [← hj] at hval
                    obtain ⟨hs4, ht4⟩ := Hs.out j
                    have f2 := Kv.out _ (K8.out.trans KZ.out) j (by omega)
                    have hsub : IntKind.u8.wrap ((bb.toNat : Int) - 97) = (j : Int) := by
                      have h1 : IntKind.u8.wrap ((bb.toNat : Int) - 97) = ((bb.toNat : Int) - 97) % 256 := rfl
                      rw [h1]; omega
                    have hjI : (j : Int) < 4 := by omega
                    have hj0 : (0 : Int) ≤ j := by omega
                    have hadd : IntKind.u8.wrap (97 + (s j : Int)) = ((swB s bb).toNat : Int) := by
                      have h1 : IntKind.u8.wrap (97 + (s j : Int)) = (97 + (s j : Int)) % 256 := rfl
                      rw [h1, hval]; omega
                    generalize sv j = z at *
                    generalize s j = a at *
                    have hu8a : IntKind.u8.wrap (a : Int) = a := by
                      have h1 : IntKind.u8.wrap (a : Int) = (a : Int) % 256 := rfl
                      rw [h1]; omega
                    clear hx hbb hba hj hs4 hval
                    go_wp2_with (at_builtin; refine wpList_push rfl (.tmp 98) (.tmp 110) row58 rfl (.slice B2 x d2) rfl _ rfl rfl ByR ByR.one ByR.len (swRow s r x) (swB s bb) m2 0 (ms + G1) HS2.out ⟨rfl, rfl⟩ (HW2.out.eq (by rw [MS.zero_add])) x (swRow_len (by have := Hlx.out; omega)) (by have := Hlx.out; have := Hrs.out; omega) (by omega) ?_; intro A9 c9 w9 m9 j4 j5 j6; have J4 := hid j4; have J5 := hid j5; have J6 := hid (HE2.out.trans j6); clear j4 j5 j6)
                    go_roundw
                    case rel => exact ⟨x + 1, A9, c9, m9, Hlx.out, by go_num, rfl, by rw [Hr2.out]; exact J4.out, J5.out, J6.out⟩
                    case measure => have := Hlx.out; simp [intOf]; omega
                  · have hxe : x = r.size := by omega
                    subst hxe
                    have hrow := swRow_len (s := s) (r := r) (x := r.size) (Nat.le_refl _)
                    have hby : RdS (m2 + (ms + G1)) RT.by8 (swRow s r r.size) (.slice B2 (swRow s r r.size).length d2) := by
                      rw [hrow]
                      exact (SlR.rd (R := ByR) (T := RT.by8) (fun a cs m h => h.1) HS2.out).less _
                    have hconv := conv_by hby (by rw [hrow]; exact Hrs.out.1) HW2.out
                    rw [hrow, swRow_all] at hconv
                    clear hlx hx hby hrow
                    go_wp2_with (at_builtin; refine wpList_push rfl (.tmp 112) (.tmp 115) row22 rfl (.slice B y dd) rfl _ rfl rfl StrR StrR.one StrR.len (swL s p y) (swS s r) ms 0 (m2 + G1) HS.out ⟨rfl, rfl⟩ (HW2.out.eq (by rw [MS.zero_add]; ac_rfl)) y (swL_len (by have := Hlt.out; omega)) (by have := HyI.out; omega) (by omega) ?_; intro A9 c9 w9 m9 j4 j5 j6; have J4 := hid j4; have J5 := hid j5; have J6 := hid (HE2.out.trans j6); clear j4 j5 j6)
                    go_roundw
                    case rel => exact ⟨y + 1, A9, c9, m9, Hlt.out, by go_num, rfl, by rw [Hl2.out]; exact J4.out, (J5.out.eq (b := m2 + (m9 + G1)) (by ac_rfl)).right, J6.out⟩
                    case measure => have := Hlt.out; simp [intOf]; omega
              · have hye : y = p.length := by omega
                subst hye
                clear hlt hy
                have KQ := hid (HKG.out _ ms HW.out HE1.out)
                have Hro' := hid (show Has wr X2 from (X8.out.trans KQ.out).1 _ HX2.out)
                have Hoth := hid (show RdS ms RT.str (swL s p p.length) (.slice B (swL s p p.length).length dd) from by
                  rw [swL_len (Nat.le_refl _)]
                  exact SlR.rd (R := StrR) (T := RT.str) (fun a cs m h => h.1) HS.out)
                have HSo := hid HS.out
                have HWo := hid HW.out
                clear Hor Hpa HapT HapF HS Hfew
                obtain ⟨k0, k1, k2, k3⟩ := HBU.out wr KQ.out
                have Hwi2 := hid Hwi.out
                generalize useF s 4 0 = u0 at *
                generalize useF s 4 1 = u1 at *
                generalize useF s 4 2 = u2 at *
                generalize useF s 4 3 = u3 at *
                have heq := eq57 u0 u1 u2 u3 wr
                have KW := hid (K8.out.trans KQ.out)
                have XW := hid (X8.out.trans KQ.out)
                have hL0 := hp6.out
                obtain ⟨r0, hr0⟩ : ∃ r0, p[0]? = some r0 := ⟨_, List.getElem?_eq_getElem (by omega)⟩
                have hr0s := Hp.out.rows r0 (List.mem_of_getElem? hr0)
                obtain ⟨b0, o0, hA0, hat0⟩ := Hrd.out.getStr hr0
                rw [Nat.add_zero] at hat0
                have Hs0 := hid (show ∀ W, Kp W2 W → W.cell? ⟨b0, o0, none⟩ = some (.string r0) from fun W hK => hat0.c0 (HFb.out _ hK))
                subst hA0
                obtain ⟨z0, hz0⟩ : ∃ z0 : Int, z0 = 2 * (r0.size : Int) := ⟨_, rfl⟩
                have Hz0 := hid (show z0 = 2 * (wd p : Int) by rw [hz0, hr0s])
                have hr6I : (r0.size : Int) ≤ 6 := by omega
                have hp1I : (0 : Int) < (p.length : Int) := by omega
                have hz1 : IntKind.i64.wrap (2 * (r0.size : Int)) = z0 := by rw [hz0, IntKind.wrap_i64]; omega
                have hz2 : wrap64 (2 * (r0.size : Int)) = z0 := by clear hz1; rw [hz0]; unfold wrap64; omega
                have HZ1 := hid hz1
                have HZ2 := hid hz2
                clear hz0 hz1 hz2 hr0 hr0s hat0 hL0
                by_cases hwide : 6 < z0
                · cases hall : (u0 && (u1 && (u2 && u3))) with
                  | true =>
                    rw [hall] at heq
                    have hz1 := HZ1.out
                    have hz2 := HZ2.out
                    have HMv := hid (Hwi2.out (by revert hall; cases u0 <;> simp) (by revert hall; cases u0 <;> cases u1 <;> simp) (by revert hall; cases u0 <;> cases u1 <;> cases u2 <;> simp) (by revert hall; cases u0 <;> cases u1 <;> cases u2 <;> cases u3 <;> simp))
                    clear hall
                    go_wp2_with (first
                      | (go_at_call 9; refine (Hal.out _ (HFb.out _ KD.out)).mono ?_; rintro e15 w15 ⟨rfl, k15⟩; have KL := hid (KD.out.trans k15); clear k15)
                      | (go_at_call 15; refine (group_of Hp.out Hg.out Hqs.out (by omega) (same_mvs Hcs.out) Hrs.out (KB.out.1 _ HXs.out) Hk.out (HFb.out _ KC.out)).mono ?_; rintro e13 w13 ⟨rfl, k13⟩; rw [← Hnm.out]; have KD := hid (KC.out.trans k13); have fs := Hs0.out _ KD.out; clear k13)
                      | (go_at_call 25; refine (floored_any (rd_all_str Hrd.out (HFb.out _ KA.out)) (rd_all_str Hrs.out HXs.out) Hp.out Hqs.out (Has.all _) Hcs.out).mono ?_; rintro e12 w12 ⟨rfl, n12, rfl⟩; have KB := hid (show Kp w11 (w11.drewN n12) from Kp.drewN (Kp.refl _) n12); have KC := hid (KA.out.trans KB.out))
                      | (go_at_call 28; refine (Hsm.out _ (HFb.out _ KS.out)).mono ?_; rintro e11 w11 ⟨As, cs, qs, Xs, rfl, k11, hXs, hrs, z1, z2, z3⟩; have KA := hid (KS.out.trans k11); have HXs := hid hXs; have Hrs := hid hrs; have Hqs := hid z1; have Hcs := hid z2; have hle : ¬ ((p.length : Int) < ((List.length qs : Nat) : Int)) := (by omega); clear k11 hXs hrs z1 z2 z3)
                      | (go_at_call 31; refine Hlk2.out.mono ?_; rintro e10 w10 ⟨rfl, k10⟩; have KS := hid (K9.out.trans k10); clear k10)
                      | (go_at_call 32; refine (orbsizes_any Hro.out (XW.out.1 _ HX2.out) Hp.out Ho.out).mono ?_; rintro e9 w9 ⟨A9, c9, X9, L9, rfl, k9, hX9, hr9, lb9, n9, hlb9, hL9⟩; have K9 := hid (KW.out.trans k9); have Hlk2 := hid (show Calls Tryd.prog 31 #[.slice B p.length dd, .string nm, .slice A9 40 c9] w9 fun e w' => e = .returned (.bool true) ∧ Kp w9 w' from by rw [Hnm.out]; rw [hL9] at hr9; have hx := like_of Hp.out Hg.out Hw.out.1 (show 0 < 8 by omega) HMv.out Hw.out.2.1 Hoth.out (k9.1 _ HWo.out.left) Hk.out (HFb.out _ K9.out) hlb9 hr9 hX9; rw [swL_len (Nat.le_refl _)] at hx; exact hx); clear k9 hX9 hr9 hlb9 hL9))
                    go_ret
                    exact ⟨rfl, HFb.out _ KL.out, HE.out.trans KL.out.2⟩
                  | false =>
                    rw [hall] at heq
                    have hz1 := HZ1.out
                    have hz2 := HZ2.out
                    clear hall
                    go_wp2_with (first
                      | (go_at_call 9; refine (Hal.out _ (HFb.out _ KD.out)).mono ?_; rintro e15 w15 ⟨rfl, k15⟩; have KL := hid (KD.out.trans k15); clear k15)
                      | (go_at_call 15; refine (group_of Hp.out Hg.out Hqs.out (by omega) (same_mvs Hcs.out) Hrs.out (KB.out.1 _ HXs.out) Hk.out (HFb.out _ KC.out)).mono ?_; rintro e13 w13 ⟨rfl, k13⟩; rw [← Hnm.out]; have KD := hid (KC.out.trans k13); have fs := Hs0.out _ KD.out; clear k13)
                      | (go_at_call 25; refine (floored_any (rd_all_str Hrd.out (HFb.out _ KA.out)) (rd_all_str Hrs.out HXs.out) Hp.out Hqs.out (Has.all _) Hcs.out).mono ?_; rintro e12 w12 ⟨rfl, n12, rfl⟩; have KB := hid (show Kp w11 (w11.drewN n12) from Kp.drewN (Kp.refl _) n12); have KC := hid (KA.out.trans KB.out))
                      | (go_at_call 28; refine (Hsm.out _ (HFb.out _ KW.out)).mono ?_; rintro e11 w11 ⟨As, cs, qs, Xs, rfl, k11, hXs, hrs, z1, z2, z3⟩; have KA := hid (KW.out.trans k11); have HXs := hid hXs; have Hrs := hid hrs; have Hqs := hid z1; have Hcs := hid z2; have hle : ¬ ((p.length : Int) < ((List.length qs : Nat) : Int)) := (by omega); clear k11 hXs hrs z1 z2 z3))
                    go_ret
                    exact ⟨rfl, HFb.out _ KL.out, HE.out.trans KL.out.2⟩
                · cases hall : (u0 && (u1 && (u2 && u3))) with
                  | true =>
                    rw [hall] at heq
                    have hz1 := HZ1.out
                    have hz2 := HZ2.out
                    have HMv := hid (Hwi2.out (by revert hall; cases u0 <;> simp) (by revert hall; cases u0 <;> cases u1 <;> simp) (by revert hall; cases u0 <;> cases u1 <;> cases u2 <;> simp) (by revert hall; cases u0 <;> cases u1 <;> cases u2 <;> cases u3 <;> simp))
                    clear hall
                    go_wp2_with (first
                      | (go_at_call 15; refine (group_of Hp.out Hg.out Hqs.out (by omega) (same_mvs Hcs.out) Hrs.out (KB.out.1 _ HXs.out) Hk.out (HFb.out _ KC.out)).mono ?_; rintro e13 w13 ⟨rfl, k13⟩; rw [← Hnm.out]; have KD := hid (KC.out.trans k13); have fs := Hs0.out _ KD.out; clear k13)
                      | (go_at_call 25; refine (floored_any (rd_all_str Hrd.out (HFb.out _ KA.out)) (rd_all_str Hrs.out HXs.out) Hp.out Hqs.out (Has.all _) Hcs.out).mono ?_; rintro e12 w12 ⟨rfl, n12, rfl⟩; have KB := hid (show Kp w11 (w11.drewN n12) from Kp.drewN (Kp.refl _) n12); have KC := hid (KA.out.trans KB.out))
                      | (go_at_call 28; refine (Hsm.out _ (HFb.out _ KS.out)).mono ?_; rintro e11 w11 ⟨As, cs, qs, Xs, rfl, k11, hXs, hrs, z1, z2, z3⟩; have KA := hid (KS.out.trans k11); have HXs := hid hXs; have Hrs := hid hrs; have Hqs := hid z1; have Hcs := hid z2; have hle : ¬ ((p.length : Int) < ((List.length qs : Nat) : Int)) := (by omega); clear k11 hXs hrs z1 z2 z3)
                      | (go_at_call 31; refine Hlk2.out.mono ?_; rintro e10 w10 ⟨rfl, k10⟩; have KS := hid (K9.out.trans k10); clear k10)
                      | (go_at_call 32; refine (orbsizes_any Hro.out (XW.out.1 _ HX2.out) Hp.out Ho.out).mono ?_; rintro e9 w9 ⟨A9, c9, X9, L9, rfl, k9, hX9, hr9, lb9, n9, hlb9, hL9⟩; have K9 := hid (KW.out.trans k9); have Hlk2 := hid (show Calls Tryd.prog 31 #[.slice B p.length dd, .string nm, .slice A9 40 c9] w9 fun e w' => e = .returned (.bool true) ∧ Kp w9 w' from by rw [Hnm.out]; rw [hL9] at hr9; have hx := like_of Hp.out Hg.out Hw.out.1 (show 0 < 8 by omega) HMv.out Hw.out.2.1 Hoth.out (k9.1 _ HWo.out.left) Hk.out (HFb.out _ K9.out) hlb9 hr9 hX9; rw [swL_len (Nat.le_refl _)] at hx; exact hx); clear k9 hX9 hr9 hlb9 hL9))
                    clear fs hz1 hz2 heq k0 k1 k2 k3
                    have HG2 := hid (Has.all w13)
                    have EG2 := hid (Ext.refl w13)
                    have HKG2 := hid (show ∀ W Y, Has W (Y + MS.all w13) → Ext w13 W → Kp w13 W from fun W Y hW hE => ⟨fun M hM => hM.of_all hW, hE⟩)
                    generalize MS.all w13 = G2 at *
                    go_loopw [20, 21] (fun vo v wz => ∃ y : Nat, ∃ B4 d4 m4, y ≤ p.length ∧ v = .int .i64 y ∧ vo = .slice B4 y d4 ∧ SlR 9 1 StrR (wideL p y) (.slice B4 y d4) m4 ∧ Has wz (m4 + G2) ∧ Ext w13 wz) (fun _ v _ => p.length - (intOf v).toNat)
                    case atStart => exact ⟨0, none, 0, 0, Nat.zero_le _, rfl, rfl, ⟨[], 0, 0, Sl.nil _ _, RowsR.nil, by rw [MS.zero_add]⟩, HG2.out.eq (by rw [MS.zero_add]), EG2.out⟩
                    case round =>
                      clear HG2 EG2
                      obtain ⟨y, B4, d4, m4, hy, rfl, rfl, hS, hW, hE⟩ := hrel
                      have HS4 := hid hS
                      have HW4 := hid hW
                      have HE4 := hid hE
                      have KZ := hid (HKG2.out _ m4 hW hE)
                      clear hS hW hE
                      by_cases hlt : y < p.length
                      · have hltI : (y : Int) < p.length := by omega
                        have Hlt := hid hlt
                        have HyI := hid (show y ≤ 6 by have := hp6.out; omega)
                        obtain ⟨r, hr⟩ : ∃ r, p[y]? = some r := ⟨_, List.getElem?_eq_getElem hlt⟩
                        obtain ⟨bb, ob, hA, hat⟩ := Hrd.out.getStr hr
                        injection hA with hA
                        injection hA with hb1' ho1' _
                        subst hb1'
                        subst ho1'
                        have Hstr := hid (show ∀ W, Kp w13 W → W.cell? ⟨b0, o0 + y, none⟩ = some (.string r) from fun W hK => hat.c0 (HFb.out _ (KD.out.trans hK)))
                        have Hl2 := hid (wideL_succ hr)
                        have hrz := Hp.out.rows r (List.mem_of_getElem? hr)
                        have hrI : (r.size : Int) ≤ 6 := by have := hp6.out; omega
                        have hr6N : r.size ≤ 6 := by have := hp6.out; omega
                        have hcat : ¬ (9223372036854775807 < r.size + r.size) := Nat.not_lt.2 (Nat.le_trans (Nat.add_le_add hr6N hr6N) (by decide))
                        clear hlt hy hr hat hrz hr6N
                        go_wp2
                        have KZd := hid (KZ.out.trans (Kp.refl wr).drew)
                        have HWd := hid (show Has wr.drew (m4 + G2) from HW4.out.drew)
                        have hS := Hstr.out wr.drew KZd.out
                        refine wp_region_txt (fun W => W.cell? ⟨b0, o0 + y, none⟩ = some (.string r)) none
                          [(0, true), (1, true), (2, true), (3, true), (4, true), (5, true), (6, true), (7, true), (8, true), (9, true), (10, false), (11, false), (12, true)] (by kernel_rfl) rfl (by kernel_rfl) (by kernel_rfl) (by repeat (first | with_reducible refine PanicOk.thn ?_ | with_reducible refine PanicOk.blk ?_ | exact PanicOk.body _ _ _)) ?_
                        repeat
                          (refine txt_quiet ?_ hS rfl rfl (fun W hW => ?_) ?_
                           rotate_left 1
                           · obtain hW1 := hW
                             go_simp
                             exact rfl
                           simp only [Act.put, List.setIfInBounds_toArray, List.set_cons_zero, List.set_cons_succ])
                        refine txt_op rfl rfl ?_
                        refine op_run (.slice (some ⟨wr.drew.heap.size, 0, none⟩) 1 1) (wr.drew.alloc (.cells #[.string (r ++ r)] 9)) (by go_simp) ?_
                        have hS6 := Hstr.out (wr.drew.alloc (.cells #[.string (r ++ r)] 9)) (KZd.out.trans ⟨fun M hM => hM.of_all ((Has.all _).alloc _), Ext.alloc _ _⟩)
                        refine ⟨fun _ => hS6, ?_⟩
                        simp only [Act.put, List.setIfInBounds_toArray, List.set_cons_zero, List.set_cons_succ]
                        clear hS
                        refine txt_op rfl rfl ?_
                        refine op_push (.tmp 173) (.tmp 183) row22 rfl (.slice B4 y d4) rfl _ rfl rfl StrR StrR.one StrR.len (wideL p y) (r ++ r) m4 0 G2 HS4.out ⟨rfl, rfl⟩ (HWd.out.eq (by rw [MS.zero_add])) y (wideL_len (by have := Hlt.out; omega)) (by have := HyI.out; omega) (by omega) ?_
                        intro A7 c7 w8 ms7 j4 j5 j6
                        have J4 := hid j4
                        have J5 := hid j5
                        have J6 := hid ((HE4.out.trans (Ext.drew _)).trans j6)
                        have hS7 := Hstr.out w8 (HKG2.out _ _ j5 J6.out)
                        clear j4 j5 j6
                        refine ⟨fun _ => hS7, ?_⟩
                        simp only [Act.put, List.setIfInBounds_toArray, List.set_cons_zero, List.set_cons_succ]
                        clear hS6
                        repeat
                          (refine txt_quiet ?_ hS7 rfl rfl (fun W hW => ?_) ?_
                           rotate_left 1
                           · obtain hW1 := hW
                             go_simp
                             exact rfl
                           simp only [Act.put, List.setIfInBounds_toArray, List.set_cons_zero, List.set_cons_succ])
                        refine txt_done ?_
                        clear hS7 hcat
                        go_wp2
                        go_roundw
                        case rel => exact ⟨y + 1, A7, c7, ms7, Hlt.out, by go_num, rfl, by rw [Hl2.out]; exact J4.out, J5.out, J6.out⟩
                        case measure => have := Hlt.out; simp [intOf]; omega
                      · have hye : y = p.length := by omega
                        subst hye
                        clear hlt hy
                        have Hwr := hid (show RdS m4 RT.str (wideL p p.length) (.slice B4 (wideL p p.length).length d4) from by
                          rw [wideL_len (Nat.le_refl _)]
                          exact SlR.rd (R := StrR) (T := RT.str) (fun a cs m h => h.1) HS4.out)
                        have KE := hid (KD.out.trans KZ.out)
                        have Hgw := hid (show Calls Tryd.prog 15 #[.slice B4 p.length d4] wr fun e w' => e = .returned (.tuple #[.string nm, .int .i64 0]) ∧ Kp wr w' from by
                          rw [Hnm.out]
                          obtain ⟨q1, q2⟩ := Hwd.out (by have := Hz0.out; omega)
                          have hx := group_of Hp.out Hg.out q1 (show 0 < 8 by omega) (same_mvs q2) Hwr.out HW4.out.left Hk.out (HFb.out _ KE.out)
                          rw [wideL_len (Nat.le_refl _)] at hx
                          exact hx)
                        go_wp2_with (first
                          | (go_at_call 9; refine (Hal.out _ (HFb.out _ KF.out)).mono ?_; rintro e15 w15 ⟨rfl, k15⟩; have KL := hid (KF.out.trans k15); clear k15)
                          | (go_at_call 15; refine Hgw.out.mono ?_; rintro e14 w14 ⟨rfl, k14⟩; have KF := hid (KE.out.trans k14); clear k14))
                        go_ret
                        exact ⟨rfl, HFb.out _ KL.out, HE.out.trans KL.out.2⟩
                  | false =>
                    rw [hall] at heq
                    have hz1 := HZ1.out
                    have hz2 := HZ2.out
                    clear hall
                    go_wp2_with (first
                      | (go_at_call 15; refine (group_of Hp.out Hg.out Hqs.out (by omega) (same_mvs Hcs.out) Hrs.out (KB.out.1 _ HXs.out) Hk.out (HFb.out _ KC.out)).mono ?_; rintro e13 w13 ⟨rfl, k13⟩; rw [← Hnm.out]; have KD := hid (KC.out.trans k13); have fs := Hs0.out _ KD.out; clear k13)
                      | (go_at_call 25; refine (floored_any (rd_all_str Hrd.out (HFb.out _ KA.out)) (rd_all_str Hrs.out HXs.out) Hp.out Hqs.out (Has.all _) Hcs.out).mono ?_; rintro e12 w12 ⟨rfl, n12, rfl⟩; have KB := hid (show Kp w11 (w11.drewN n12) from Kp.drewN (Kp.refl _) n12); have KC := hid (KA.out.trans KB.out))
                      | (go_at_call 28; refine (Hsm.out _ (HFb.out _ KW.out)).mono ?_; rintro e11 w11 ⟨As, cs, qs, Xs, rfl, k11, hXs, hrs, z1, z2, z3⟩; have KA := hid (KW.out.trans k11); have HXs := hid hXs; have Hrs := hid hrs; have Hqs := hid z1; have Hcs := hid z2; have hle : ¬ ((p.length : Int) < ((List.length qs : Nat) : Int)) := (by omega); clear k11 hXs hrs z1 z2 z3))
                    clear fs hz1 hz2 heq k0 k1 k2 k3
                    have HG2 := hid (Has.all w13)
                    have EG2 := hid (Ext.refl w13)
                    have HKG2 := hid (show ∀ W Y, Has W (Y + MS.all w13) → Ext w13 W → Kp w13 W from fun W Y hW hE => ⟨fun M hM => hM.of_all hW, hE⟩)
                    generalize MS.all w13 = G2 at *
                    go_loopw [20, 21] (fun vo v wz => ∃ y : Nat, ∃ B4 d4 m4, y ≤ p.length ∧ v = .int .i64 y ∧ vo = .slice B4 y d4 ∧ SlR 9 1 StrR (wideL p y) (.slice B4 y d4) m4 ∧ Has wz (m4 + G2) ∧ Ext w13 wz) (fun _ v _ => p.length - (intOf v).toNat)
                    case atStart => exact ⟨0, none, 0, 0, Nat.zero_le _, rfl, rfl, ⟨[], 0, 0, Sl.nil _ _, RowsR.nil, by rw [MS.zero_add]⟩, HG2.out.eq (by rw [MS.zero_add]), EG2.out⟩
                    case round =>
                      clear HG2 EG2
                      obtain ⟨y, B4, d4, m4, hy, rfl, rfl, hS, hW, hE⟩ := hrel
                      have HS4 := hid hS
                      have HW4 := hid hW
                      have HE4 := hid hE
                      have KZ := hid (HKG2.out _ m4 hW hE)
                      clear hS hW hE
                      by_cases hlt : y < p.length
                      · have hltI : (y : Int) < p.length := by omega
                        have Hlt := hid hlt
                        have HyI := hid (show y ≤ 6 by have := hp6.out; omega)
                        obtain ⟨r, hr⟩ : ∃ r, p[y]? = some r := ⟨_, List.getElem?_eq_getElem hlt⟩
                        obtain ⟨bb, ob, hA, hat⟩ := Hrd.out.getStr hr
                        injection hA with hA
                        injection hA with hb1' ho1' _
                        subst hb1'
                        subst ho1'
                        have Hstr := hid (show ∀ W, Kp w13 W → W.cell? ⟨b0, o0 + y, none⟩ = some (.string r) from fun W hK => hat.c0 (HFb.out _ (KD.out.trans hK)))
                        have Hl2 := hid (wideL_succ hr)
                        have hrz := Hp.out.rows r (List.mem_of_getElem? hr)
                        have hrI : (r.size : Int) ≤ 6 := by have := hp6.out; omega
                        have hr6N : r.size ≤ 6 := by have := hp6.out; omega
                        have hcat : ¬ (9223372036854775807 < r.size + r.size) := Nat.not_lt.2 (Nat.le_trans (Nat.add_le_add hr6N hr6N) (by decide))
                        clear hlt hy hr hat hrz hr6N
                        go_wp2
                        have KZd := hid (KZ.out.trans (Kp.refl wr).drew)
                        have HWd := hid (show Has wr.drew (m4 + G2) from HW4.out.drew)
                        have hS := Hstr.out wr.drew KZd.out
                        refine wp_region_txt (fun W => W.cell? ⟨b0, o0 + y, none⟩ = some (.string r)) none
                          [(0, true), (1, true), (2, true), (3, true), (4, true), (5, true), (6, true), (7, true), (8, true), (9, true), (10, false), (11, false), (12, true)] (by kernel_rfl) rfl (by kernel_rfl) (by kernel_rfl) (by repeat (first | with_reducible refine PanicOk.thn ?_ | with_reducible refine PanicOk.blk ?_ | exact PanicOk.body _ _ _)) ?_
                        repeat
                          (refine txt_quiet ?_ hS rfl rfl (fun W hW => ?_) ?_
                           rotate_left 1
                           · obtain hW1 := hW
                             go_simp
                             exact rfl
                           simp only [Act.put, List.setIfInBounds_toArray, List.set_cons_zero, List.set_cons_succ])
                        refine txt_op rfl rfl ?_
                        refine op_run (.slice (some ⟨wr.drew.heap.size, 0, none⟩) 1 1) (wr.drew.alloc (.cells #[.string (r ++ r)] 9)) (by go_simp) ?_
                        have hS6 := Hstr.out (wr.drew.alloc (.cells #[.string (r ++ r)] 9)) (KZd.out.trans ⟨fun M hM => hM.of_all ((Has.all _).alloc _), Ext.alloc _ _⟩)
                        refine ⟨fun _ => hS6, ?_⟩
                        simp only [Act.put, List.setIfInBounds_toArray, List.set_cons_zero, List.set_cons_succ]
                        clear hS
                        refine txt_op rfl rfl ?_
                        refine op_push (.tmp 173) (.tmp 183) row22 rfl (.slice B4 y d4) rfl _ rfl rfl StrR StrR.one StrR.len (wideL p y) (r ++ r) m4 0 G2 HS4.out ⟨rfl, rfl⟩ (HWd.out.eq (by rw [MS.zero_add])) y (wideL_len (by have := Hlt.out; omega)) (by have := HyI.out; omega) (by omega) ?_
                        intro A7 c7 w8 ms7 j4 j5 j6
                        have J4 := hid j4
                        have J5 := hid j5
                        have J6 := hid ((HE4.out.trans (Ext.drew _)).trans j6)
                        have hS7 := Hstr.out w8 (HKG2.out _ _ j5 J6.out)
                        clear j4 j5 j6
                        refine ⟨fun _ => hS7, ?_⟩
                        simp only [Act.put, List.setIfInBounds_toArray, List.set_cons_zero, List.set_cons_succ]
                        clear hS6
                        repeat
                          (refine txt_quiet ?_ hS7 rfl rfl (fun W hW => ?_) ?_
                           rotate_left 1
                           · obtain hW1 := hW
                             go_simp
                             exact rfl
                           simp only [Act.put, List.setIfInBounds_toArray, List.set_cons_zero, List.set_cons_succ])
                        refine txt_done ?_
                        clear hS7 hcat
                        go_wp2
                        go_roundw
                        case rel => exact ⟨y + 1, A7, c7, ms7, Hlt.out, by go_num, rfl, by rw [Hl2.out]; exact J4.out, J5.out, J6.out⟩
                        case measure => have := Hlt.out; simp [intOf]; omega
                      · have hye : y = p.length := by omega
                        subst hye
                        clear hlt hy
                        have Hwr := hid (show RdS m4 RT.str (wideL p p.length) (.slice B4 (wideL p p.length).length d4) from by
                          rw [wideL_len (Nat.le_refl _)]
                          exact SlR.rd (R := StrR) (T := RT.str) (fun a cs m h => h.1) HS4.out)
                        have KE := hid (KD.out.trans KZ.out)
                        have Hgw := hid (show Calls Tryd.prog 15 #[.slice B4 p.length d4] wr fun e w' => e = .returned (.tuple #[.string nm, .int .i64 0]) ∧ Kp wr w' from by
                          rw [Hnm.out]
                          obtain ⟨q1, q2⟩ := Hwd.out (by have := Hz0.out; omega)
                          have hx := group_of Hp.out Hg.out q1 (show 0 < 8 by omega) (same_mvs q2) Hwr.out HW4.out.left Hk.out (HFb.out _ KE.out)
                          rw [wideL_len (Nat.le_refl _)] at hx
                          exact hx)
                        go_wp2_with (first
                          | (go_at_call 9; refine (Hal.out _ (HFb.out _ KF.out)).mono ?_; rintro e15 w15 ⟨rfl, k15⟩; have KL := hid (KF.out.trans k15); clear k15)
                          | (go_at_call 15; refine Hgw.out.mono ?_; rintro e14 w14 ⟨rfl, k14⟩; have KF := hid (KE.out.trans k14); clear k14))
                        go_ret
                        exact ⟨rfl, HFb.out _ KL.out, HE.out.trans KL.out.2⟩
end Go.Proofs.YteibbnmlmbhkpaaDoor

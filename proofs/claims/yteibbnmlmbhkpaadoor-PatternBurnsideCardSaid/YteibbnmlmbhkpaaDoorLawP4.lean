/-
  The walk of PatternBurnside.
-/
import Derived.Test.YteibbnmlmbhkpaaDoorBW8
import Derived.Test.YteibbnmlmbhkpaaDoorLawP1
namespace Go.Proofs.YteibbnmlmbhkpaaDoor
open Go.RowKit
set_option linter.unusedVariables false
set_option linter.unusedSimpArgs false
set_option maxHeartbeats 4000000
set_option maxRecDepth 100000

theorem patBurn_any {F : MS} {p : List ByteArray} {A : Option Addr} {c : Nat} {w : World} (hr : RdS F RT.str p (.slice A p.length c)) (hs : ∀ s ∈ p, s.size ≤ maxLen) (hk : KinOk F) (hH : Has w F) {n : Int} (hm : 0 ≤ n ∧ n ≤ 255) :
    Calls Tryd.prog 4 #[.slice A p.length c, .int .u8 n] w (LawPost w F) := by
  have Hfew := hid (few_any hr hs hH)
  have Hal := hid (fun (W : World) (hW : Has W F) => alive_any hk hW)
  have HF := hid hH
  cases hf : fewB p with
  | false =>
    rw [hf] at Hfew
    clear hf hr hs hk hH
    go_enter Tryd.func4, Tryd.ntmps4
    go_wp2_with (first
      | (go_at_call 8; refine Hfew.out.mono ?_; rintro e1 w1 ⟨rfl, hw1⟩; rw [hw1]; clear hw1)
      | (go_at_call 9; refine (Hal.out _ HF.out).mono ?_; rintro e2 w2 ⟨rfl, k2⟩; have K2 := hid k2; clear k2))
    go_ret
    exact ⟨rfl, K2.out.1 _ HF.out, K2.out.2⟩
  | true =>
    rw [hf] at Hfew
    unfold fewB at hf
    rw [decide_eq_true_eq] at hf
    obtain ⟨hl20, hs20⟩ := hf
    have hgiv : Giv F p A c := ⟨hr, by omega, fun s h => by have := hs20 s h; omega⟩
    have htm := Int.tmod_eq_emod_of_nonneg hm.1 (b := 4)
    obtain ⟨m4, hm4⟩ : ∃ m4 : Nat, (m4 : Int) = n.tmod 4 := ⟨(n.tmod 4).toNat, by omega⟩
    have hm3 : m4 ≤ 3 := by omega
    have hq1 := hm4.symm
    have hq2 : IntKind.u8.wrap (m4 : Int) = m4 := by
      have h1 : IntKind.u8.wrap (m4 : Int) = (m4 : Int) % 256 := rfl
      rw [h1]; omega
    obtain ⟨k, hkm⟩ : ∃ k, k = 1 + m4 := ⟨_, rfl⟩
    have hk1 : 1 ≤ k := by omega
    have hk4 : k ≤ 4 := by omega
    have hq3 : IntKind.i64.wrap (m4 : Int) = m4 := by rw [IntKind.wrap_i64]; omega
    have hq4 : IntKind.i64.wrap (1 + (m4 : Int)) = k := by rw [IntKind.wrap_i64]; omega
    have hq5 : wrap64 (1 + (m4 : Int)) = k := by unfold wrap64; omega
    clear hm4 hkm hm3 htm hm
    have Hc := hid (fun (W : World) (hW : Has W F) (k : Nat) (h1 : 1 ≤ k) (h4 : k ≤ 4) => colourings_any hgiv hk hW k h1 h4)
    by_cases hbad : isPat p = false ∨ ∃ g, IsLat p g ∧ 16 < g.A * g.D
    · have Hce := hid (show ∃ er : Int, (er = 2 ∨ er = 8) ∧ ∀ (W : World) (hW : Has W F) (k : Nat) (h1 : 1 ≤ k) (h4 : k ≤ 4), Calls Tryd.prog 18 #[.slice A p.length c, .int .i64 k] W fun e w' => e = .returned (.tuple #[.int .i64 0, .int .i64 er]) ∧ Kp W w' from by
        rcases hbad with hp | ⟨g, hg, h16⟩
        · exact ⟨2, .inl rfl, fun W hW k h1 h4 => (Hc.out W hW k h1 h4).mono fun e w' h => by
            obtain ⟨a, er, q1, q2, q3, _⟩ := h
            obtain ⟨q4, q5⟩ := q3 hp
            rw [q4, q5] at q1
            exact ⟨q1, q2⟩⟩
        · by_cases hp : isPat p = false
          · exact ⟨2, .inl rfl, fun W hW k h1 h4 => (Hc.out W hW k h1 h4).mono fun e w' h => by
              obtain ⟨a, er, q1, q2, q3, _⟩ := h
              obtain ⟨q4, q5⟩ := q3 hp
              rw [q4, q5] at q1
              exact ⟨q1, q2⟩⟩
          · exact ⟨8, .inr rfl, fun W hW k h1 h4 => (Hc.out W hW k h1 h4).mono fun e w' h => by
              obtain ⟨a, er, q1, q2, _, q3⟩ := h
              obtain ⟨g', hg', q4, _⟩ := q3 (by cases h : isPat p with | true => rfl | false => exact absurd h hp)
              obtain rfl := hg'.uniq hg
              obtain ⟨q5, q6⟩ := q4 h16
              rw [q5, q6] at q1
              exact ⟨q1, q2⟩⟩)
      obtain ⟨er, hel, hce⟩ := Hce.out
      have Hca := hid (fun (W : World) (hW : Has W F) => hce W hW k hk1 hk4)
      have Hcb := hid (fun (W : World) (hW : Has W F) => show Calls Tryd.prog 18 #[.slice A p.length c, .int .i64 1] W fun e w' => e = .returned (.tuple #[.int .i64 0, .int .i64 er]) ∧ Kp W w' from hce W hW 1 (by omega) (by omega))
      have hne : ¬ (er = 0) := by omega
      clear hr hs hk hH hl20 hs20 hgiv hbad Hce hce hel Hc hk1 hk4
      go_enter Tryd.func4, Tryd.ntmps4
      go_wp2_with (first
        | (go_at_call 9; refine (Hal.out _ (K2.out.1 _ HF.out)).mono ?_; rintro e3 w3 ⟨rfl, k3⟩; have K3 := hid (K2.out.trans k3); clear k3)
        | (go_at_call 18; have kk := K1; clear kk; refine (Hcb.out _ (K1.out.1 _ HF.out)).mono ?_; rintro e2 w2 ⟨rfl, k2⟩; have K2 := hid (K1.out.trans k2); clear k2)
        | (go_at_call 18; refine (Hca.out _ HF.out).mono ?_; rintro e1 w1 ⟨rfl, k1⟩; have K1 := hid k1; clear k1)
        | (go_at_call 8; refine Hfew.out.mono ?_; rintro e1 w1 ⟨rfl, hw1⟩; rw [hw1]; clear hw1))
      go_ret
      exact ⟨rfl, K3.out.1 _ HF.out, K3.out.2⟩
    · have hpt : isPat p = true := by
        cases h : isPat p with
        | true => rfl
        | false => exact absurd (.inl h) hbad
      have Hp := hid (isPat.ok hpt).1
      have Hsm := hid (show ∀ g, IsLat p g → g.A * g.D ≤ 16 from fun g hg => Nat.le_of_not_lt fun h => hbad (.inr ⟨g, hg, h⟩))
      have Hla := hid (fun (W : World) (hW : Has W F) => show Calls Tryd.prog 10 #[.slice A p.length c] W fun e w' => ∃ g, IsLat p g ∧ e = .returned (.tuple #[.agg #[.int .i64 g.A, .int .i64 g.B, .int .i64 g.D], .int .i64 0]) ∧ Kp W w' from (Lattice_any hgiv hW).mono fun e w' h => by
        obtain ⟨g, er, h1, h2, h3, _⟩ := h
        obtain ⟨h4, h5⟩ := h3 hpt
        rw [h5] at h1
        exact ⟨g, h4, h1, h2⟩)
      have Hsy := hid (fun (W : World) (hW : Has W F) => show Calls Tryd.prog 12 #[.slice A p.length c] W fun e w' => ∃ g A' c' X, IsLat p g ∧ e = .returned (.tuple #[.slice A' (symL p g).length c', .int .i64 0]) ∧ Kp W w' ∧ Has w' X ∧ RdS X RT.mv (symL p g) (.slice A' (symL p g).length c') from (Symmetries_any hgiv hk hW).mono fun e w' h => by
        obtain ⟨A', c', l, er, X, h1, h2, h6, h7, h3, _⟩ := h
        obtain ⟨⟨g, h4, h8⟩, h5⟩ := h3 hpt
        rw [h5, h8] at h1
        rw [h8] at h7
        exact ⟨g, A', c', X, h4, h1, h2, h6, h7⟩)
      have Hcc := hid (fun (W : World) (hW : Has W F) (k : Nat) (h1 : 1 ≤ k) (h4 : k ≤ 4) => show Calls Tryd.prog 18 #[.slice A p.length c, .int .i64 k] W fun e w' => ∃ (g : Gd) (cyc : Mv → Nat) (a : Nat), IsLat p g ∧ (∀ m ∈ symL p g, CycN g m (cyc m)) ∧ a = sumL (fun m => k ^ cyc m) (symL p g) / (symL p g).length ∧ e = .returned (.tuple #[.int .i64 a, .int .i64 0]) ∧ Kp W w' from (Hc.out W hW k h1 h4).mono fun e w' h => by
        obtain ⟨a, er, q1, q2, _, q3⟩ := h
        obtain ⟨g, hg, _, q4⟩ := q3 hpt
        obtain ⟨q5, cyc, q6, q7⟩ := q4 (Hsm.out g hg)
        rw [q5, q7] at q1
        exact ⟨g, cyc, _, hg, q6, rfl, q1, q2⟩)
      have HK1 := hid hk1
      have HK4 := hid hk4
      clear hr hs hk hH hl20 hs20 hgiv hbad Hc hpt hk1 hk4
      -- one lattice, one count of cycles for all calls
      have hex : ∃ g, IsLat p g := IsLat.ex Hp.out
      obtain ⟨g, hg⟩ := hex
      have Hg := hid hg
      obtain ⟨cyc, hcyc⟩ := Classical.axiomOfChoice (fun m => CycN.ex g m)
      have Hsum := hid (show ∀ (k : Nat) (cyc' : Mv → Nat), (∀ m ∈ symL p g, CycN g m (cyc' m)) → sumL (fun m => k ^ cyc' m) (symL p g) = sumL (fun m => k ^ cyc m) (symL p g) from fun k cyc' h => sumL_congr fun m hm => by rw [(h m hm).uniq (hcyc m)])
      obtain ⟨cnt, hcnt⟩ : ∃ cnt : Nat → Nat, cnt = fun k => sumL (fun m => k ^ cyc m) (symL p g) / (symL p g).length := ⟨_, rfl⟩
      have Hcd := hid (fun (W : World) (hW : Has W F) (k : Nat) (h1 : 1 ≤ k) (h4 : k ≤ 4) => show Calls Tryd.prog 18 #[.slice A p.length c, .int .i64 k] W fun e w' => e = .returned (.tuple #[.int .i64 (cnt k : Nat), .int .i64 0]) ∧ Kp W w' from (Hcc.out W hW k h1 h4).mono fun e w' h => by
        obtain ⟨g', cyc', a, h1, h2, h3, h4, h5⟩ := h
        obtain rfl := h1.uniq hg
        rw [Hsum.out k cyc' h2] at h3
        rw [h3] at h4
        rw [hcnt]
        exact ⟨h4, h5⟩)
      have hL1 := symL_one Hp.out hg
      have hL8 := symL_le Hp.out hg
      have hc1 : cnt 1 = 1 := by rw [hcnt]; exact burn_one hL1 cyc
      have h16 := Hsm.out g hg
      have hA1 := hg.a1
      have hD1 := hg.d1
      have hn1 : 1 ≤ g.A * g.D := Nat.mul_pos (by omega) (by omega)
      have hcm : cnt k < cnt (k + 1) := by rw [hcnt]; exact burn_more hL1 fun m hm => (hcyc m).pos hn1
      -- what each symmetry makes of each colouring
      have htk0 : ∀ m x, ∃ y, m ∈ symL p g → x ≤ 4096 → Mvd (sig g (kd m) m.e m.f) k (g.A * g.D) x y := fun m x => by
        by_cases hm : m ∈ symL p g
        · obtain ⟨k', e, f, hk', _, _, h1, hs⟩ := (mem_symL Hp.out hg m).1 hm
          obtain ⟨τ, hτ⟩ := sig_perm Hp.out hg hk' hs
          have hkd : kd m = k' ∧ m.e = e ∧ m.f = f := by rw [h1]; exact ⟨kd_knd hk' _ _, rfl, rfl⟩
          obtain ⟨y, hy⟩ := Mvd.ex hτ HK1.out x
          exact ⟨y, fun _ _ => by rw [hkd.1, hkd.2.1, hkd.2.2]; exact hy⟩
        · exact ⟨0, fun h => absurd h hm⟩
      obtain ⟨tk, htk⟩ : ∃ tk : Mv → Nat → Nat, ∀ m x, m ∈ symL p g → x ≤ 4096 → Mvd (sig g (kd m) m.e m.f) k (g.A * g.D) x (tk m x) := by
        obtain ⟨f, hf⟩ := Classical.axiomOfChoice (fun (q : Mv × Nat) => htk0 q.1 q.2)
        exact ⟨fun m x => f (m, x), fun m x => hf (m, x)⟩
      have Htk := hid htk
      have Hta := hid (fun (W : World) (m : Mv) (hm : m ∈ symL p g) (x : Nat) (hx : x ≤ 4096) => show Calls Tryd.prog 19 #[.agg #[.int .i64 g.A, .int .i64 g.B, .int .i64 g.D], m.v, .int .i64 k, .int .i64 x] W fun e w' => e = .returned (.int .i64 (tk m x : Nat)) ∧ Kp W w' from (taken_any Hp.out hg hm HK1.out HK4.out h16 hx W).mono fun e w' h => by
        obtain ⟨y, h1, h2, h3⟩ := h
        obtain ⟨k', e', f', hk', _, _, hm1, hs⟩ := (mem_symL Hp.out hg m).1 hm
        obtain ⟨τ, hτ⟩ := sig_perm Hp.out hg hk' hs
        have hkd : kd m = k' ∧ m.e = e' ∧ m.f = f' := by rw [hm1]; exact ⟨kd_knd hk' _ _, rfl, rfl⟩
        have h4 := htk m x hm hx
        rw [hkd.1, hkd.2.1, hkd.2.2] at h2 h4
        rw [h2.uniq hτ HK1.out h4] at h1
        exact ⟨h1, h3⟩)
      have Hfin := hid (show k ^ (g.A * g.D) ≤ 4096 → (List.range (k ^ (g.A * g.D))).countP (fun x => (symL p g).all fun m => decide (x ≤ tk m x)) = cnt k from fun hT => by
        rw [hcnt]
        refine (burn_div hL1 (burn_pat Hp.out hg HK1.out cyc (fun m _ => hcyc m) tk fun m hm x hx => htk m x hm (by omega))).symm)
      have Hca := hid (fun (W : World) (hW : Has W F) => Hcd.out W hW k HK1.out HK4.out)
      have Hcb := hid (fun (W : World) (hW : Has W F) => show Calls Tryd.prog 18 #[.slice A p.length c, .int .i64 1] W fun e w' => e = .returned (.tuple #[.int .i64 1, .int .i64 0]) ∧ Kp W w' from by
        have := Hcd.out W hW 1 (by omega) (by omega)
        rw [hc1] at this
        exact this)
      obtain ⟨k5, hk5⟩ : ∃ k5 : Int, k5 = ((k + 1 : Nat) : Int) := ⟨_, rfl⟩
      have Hcx := hid (fun (W : World) (hW : Has W F) (hk : k < 4) => show Calls Tryd.prog 18 #[.slice A p.length c, .int .i64 k5] W fun e w' => e = .returned (.tuple #[.int .i64 (cnt (k + 1) : Nat), .int .i64 0]) ∧ Kp W w' from by rw [hk5]; exact Hcd.out W hW (k + 1) (by omega) (by omega))
      obtain ⟨N, hN⟩ : ∃ N, N = g.A * g.D := ⟨_, rfl⟩
      rw [← hN] at h16 hn1 Hfin
      obtain ⟨L, hL⟩ : ∃ L, L = (symL p g).length := ⟨_, rfl⟩
      rw [← hL] at hL1 hL8
      have HL := hid hL
      obtain ⟨ca, hca⟩ : ∃ ca, ca = cnt k := ⟨_, rfl⟩
      obtain ⟨cx, hcx⟩ : ∃ cx, cx = cnt (k + 1) := ⟨_, rfl⟩
      rw [← hca] at Hca Hfin hcm
      rw [← hcx] at Hcx hcm
      obtain ⟨hk1I, hkI⟩ : (1 : Int) ≤ k ∧ (k : Int) ≤ 4 := by have := HK1.out; have := HK4.out; omega
      obtain ⟨hN1I, hNI⟩ : (1 : Int) ≤ N ∧ (N : Int) ≤ 16 := by omega
      obtain ⟨hL1I, hLI⟩ : (1 : Int) ≤ L ∧ (L : Int) ≤ 8 := by omega
      have hgA : ¬ ((g.A : Int) < 1) := by omega
      have hgD : ¬ ((g.D : Int) < 1) := by omega
      have hgN : (g.A : Int) * g.D = N := by rw [hN, Int.natCast_mul]
      have hN16 : ¬ (16 < (N : Int)) := by omega
      have hcxn : ¬ ((cx : Int) ≤ ca) := Int.not_le.2 (Int.ofNat_lt.2 hcm)
      have hk4I : ∀ h : (k : Int) < 4, k < 4 := fun h => by omega
      have Hk4 := hid hk4I
      clear hk4I
      have u3 : IntKind.i64.wrap ((k : Int) + 1) = k5 := by rw [hk5, IntKind.wrap_i64]; omega
      have u4 : wrap64 ((k : Int) + 1) = k5 := by rw [hk5]; unfold wrap64; omega
      have u1 : IntKind.i64.wrap ((g.A : Int) * g.D) = N := by rw [hgN, IntKind.wrap_i64]; omega
      have u2 : wrap64 ((g.A : Int) * g.D) = N := by rw [hgN]; unfold wrap64; omega
      have U1 := hid u1
      have U2 := hid u2
      clear hk5 hg hcyc hcnt Hcc Hcd Hsum Hsm htk htk0 Htk hc1 hN hL hca hcx hcm hgN hA1 hD1
      go_enter Tryd.func4, Tryd.ntmps4
      go_wp2_with (first
        | (go_at_call 18; have kk := K5; clear kk; refine (Hcx.out _ (K5.out.1 _ HF.out) (Hk4.out (by assumption))).mono ?_; rintro e6 w6 ⟨rfl, k6⟩; have K6 := hid k6; clear k6)
        | (go_at_call 12; refine (Hsy.out _ (K3.out.1 _ HF.out)).mono ?_; rintro e5 w5 ⟨g', A', c', X, hg', rfl, k5, kX, kr⟩; obtain rfl := Hg.out.uniq hg'; rw [← HL.out] at kr ⊢; have KX := hid kX; have Hm := hid kr; have B5 := hid (k5.1 _ B4.out); have K5 := hid (K3.out.trans k5); have q0 : w5.cell? ⟨w4.heap.size, 0, none⟩ = some (.int .i64 g.A) := B5.out.at_ rfl; have q1 : w5.cell? ⟨w4.heap.size, 1, none⟩ = some (.int .i64 g.B) := B5.out.at_ rfl; have q2 : w5.cell? ⟨w4.heap.size, 2, none⟩ = some (.int .i64 g.D) := B5.out.at_ rfl; clear k5 kX kr hg')
        | (go_at_call 10; refine (Hla.out _ (K2.out.1 _ HF.out)).mono ?_; rintro e4 w4 ⟨g', hg', rfl, k4⟩; obtain rfl := Hg.out.uniq hg'; have B4 := hid (show Has (w4.alloc (.cells #[.int .i64 g.A, .int .i64 g.B, .int .i64 g.D] 26)) (blk w4.heap.size #[.int .i64 g.A, .int .i64 g.B, .int .i64 g.D] 26 + MS.all w4) from (Has.all w4).alloc _); have K3 := hid (show Kp w (w4.alloc (.cells #[.int .i64 g.A, .int .i64 g.B, .int .i64 g.D] 26)) from (K2.out.trans k4).trans ⟨fun M hM => hM.of_all B4.out, Ext.alloc _ _⟩); clear k4 hg')
        | (go_at_call 18; have kk := K1; clear kk; refine (Hcb.out _ (K1.out.1 _ HF.out)).mono ?_; rintro e2 w2 ⟨rfl, k2⟩; have K2 := hid (K1.out.trans k2); clear k2)
        | (go_at_call 18; refine (Hca.out _ HF.out).mono ?_; rintro e1 w1 ⟨rfl, k1⟩; have K1 := hid k1; clear k1)
        | (go_at_call 8; refine Hfew.out.mono ?_; rintro e1 w1 ⟨rfl, hw1⟩; rw [hw1]; clear hw1))
      · rename_i hbad
        exfalso
        clear u1 u2 u3 u4 hq4 hq5
        omega
      · have KQ := hid (show Kp w w6 from K5.out.trans K6.out)
        have KX2 := hid (show Has w6 X from K6.out.1 _ KX.out)
        have BX2 := hid (show Has w6 (blk w4.heap.size #[.int .i64 g.A, .int .i64 g.B, .int .i64 g.D] 26 + MS.all w4) from K6.out.1 _ B5.out)
        clear q0 q1 q2 u1 u2 u3 u4 hq1 hq2 hq3 hq4 hq5
        generalize w4.heap.size = gb at *
        generalize MS.all w4 = M4 at *
        have HWB := hid (show ∀ W, Kp w6 W → (W.cell? ⟨gb, 0, none⟩ = some (.int .i64 g.A) ∧ W.cell? ⟨gb, 1, none⟩ = some (.int .i64 g.B) ∧ W.cell? ⟨gb, 2, none⟩ = some (.int .i64 g.D)) from fun W h => by
          have hb := h.1 _ BX2.out
          exact ⟨hb.at_ rfl, hb.at_ rfl, hb.at_ rfl⟩)
        have HWF := hid (show ∀ W, Kp w6 W → Has W F from fun W h => h.1 _ (KQ.out.1 _ HF.out))
        have HWX := hid (show ∀ W, Kp w6 W → Has W X from fun W h => h.1 _ KX2.out)
        clear Hsy Hla Hca Hcb Hcx Hfew KX B5 K5 BX2 KX2
        generalize symL p g = l at *
        have hnc := Hm.out.cells.2.1
        go_loopw [16, 17] (fun va v wr => ∃ j : Nat, j ≤ N ∧ v = .int .i64 j ∧ va = .int .i64 (k ^ j : Nat) ∧ k ^ j ≤ 4096 ∧ Kp w6 wr) (fun _ v _ => N - (intOf v).toNat)
        case atStart => exact ⟨0, Nat.zero_le _, rfl, by rw [Nat.pow_zero]; rfl, by rw [Nat.pow_zero]; omega, Kp.refl _⟩
        case round =>
          obtain ⟨j, hj, rfl, rfl, hkj, hK⟩ := hrel
          have HK := hid hK
          have Hkj := hid hkj
          clear hK
          obtain ⟨q0, q1, q2⟩ := HWB.out wr HK.out
          by_cases hlt : j < N
          · have hltI : (j : Int) < N := by omega
            have Hlt := hid hlt
            obtain ⟨z, hz⟩ : ∃ z, z = k ^ (j + 1) := ⟨_, rfl⟩
            have hz2 : ((k ^ j : Nat) : Int) * k = (z : Int) := by rw [hz, Nat.pow_succ, Int.natCast_mul]
            have hz3 : z ≤ 4096 * 4 := by rw [hz, Nat.pow_succ]; exact Nat.mul_le_mul hkj HK4.out
            have Hz := hid hz
            generalize k ^ j = y at *
            have a1 : IntKind.i64.wrap ((y : Int) * k) = z := by rw [hz2, IntKind.wrap_i64]; omega
            have a2 : wrap64 ((y : Int) * k) = z := by clear a1; rw [hz2]; unfold wrap64; omega
            have A1 := hid a1
            have A2 := hid a2
            clear a1 a2
            have e1 : IntKind.i64.wrap ((j : Int) + 1) = (j : Int) + 1 := by clear hz2 hz; rw [IntKind.wrap_i64]; omega
            have e2 : wrap64 ((j : Int) + 1) = (j : Int) + 1 := by clear e1 hz2 hz; unfold wrap64; omega
            clear hlt hj hz hz2 hz3 hkj
            by_cases hz4 : z ≤ 4096
            · have hzI : ¬ (4096 < (z : Int)) := by omega
              have Hz4 := hid hz4
              clear hz4
              have a1 := A1.out
              have a2 := A2.out
              have u1 := U1.out
              have u2 := U2.out
              go_wp2
              clear u1 u2 a1 a2 e1 e2
              go_roundw
              case rel => exact ⟨j + 1, Hlt.out, by go_num, by rw [← Hz.out], by rw [← Hz.out]; exact Hz4.out, HK.out⟩
              case measure => have := Hlt.out; simp [intOf]; omega
            · have hzI : 4096 < (z : Int) := by omega
              clear hz4
              have a1 := A1.out
              have a2 := A2.out
              have u1 := U1.out
              have u2 := U2.out
              go_wp2_with (go_at_call 9; refine (Hal.out _ (HWF.out _ HK.out)).mono ?_; rintro e8 w8 ⟨rfl, k8⟩; have J8 := hid (HK.out.trans k8); clear k8)
              go_ret
              exact ⟨rfl, HWF.out _ J8.out, KQ.out.2.trans J8.out.2⟩
          · have hje : j = N := by omega
            subst hje
            have hfin := Hfin.out hkj
            generalize k ^ j = T at *
            have hTI : (T : Int) ≤ 4096 := by omega
            clear hlt hj Hfin
            have u1 := U1.out
            have u2 := U2.out
            go_wp2
            clear u1 u2
            go_loopw [18, 19] (fun vl v wr => ∃ x : Nat, x ≤ T ∧ v = .int .i64 x ∧ vl = .int .i64 ((List.range x).countP (fun x => l.all fun m => decide (x ≤ tk m x)) : Nat) ∧ Kp w6 wr) (fun _ v _ => T - (intOf v).toNat)
            case atStart => exact ⟨0, Nat.zero_le _, rfl, rfl, HK.out⟩
            case round =>
              clear HK q0 q1 q2
              obtain ⟨x, hx, rfl, rfl, hK⟩ := hrel
              have HK := hid hK
              clear hK
              have hcn : (List.range x).countP (fun x => l.all fun m => decide (x ≤ tk m x)) ≤ 4096 := by have := List.countP_le_length (p := fun x => l.all fun m => decide (x ≤ tk m x)) (l := List.range x); rw [List.length_range] at this; omega
              by_cases hlx : x < T
              · have hlxI : (x : Int) < T := by omega
                have Hlx := hid hlx
                have Hx4 := hid (show x ≤ 4096 by omega)
                have Hcs := hid (show (List.range (x + 1)).countP (fun x => l.all fun m => decide (x ≤ tk m x)) = (List.range x).countP (fun x => l.all fun m => decide (x ≤ tk m x)) + if (l.all fun m => decide (x ≤ tk m x)) = true then 1 else 0 by rw [List.range_succ, List.countP_append]; simp [List.countP_cons])
                generalize (List.range x).countP (fun x => l.all fun m => decide (x ≤ tk m x)) = cn at *
                have hcnI : (cn : Int) ≤ 4096 := by omega
                clear hlx hx hcn
                go_wp2
                go_loopw [20, 21] (fun vi v wr => ∃ i : Nat, i ≤ L ∧ v = .int .i64 i ∧ vi = .bool ((l.take i).all fun m => decide (x ≤ tk m x)) ∧ Kp w6 wr) (fun _ v _ => L - (intOf v).toNat)
                case atStart => exact ⟨0, Nat.zero_le _, rfl, rfl, HK.out⟩
                case round =>
                  clear HK
                  obtain ⟨j, hj, rfl, rfl, hK⟩ := hrel
                  have HK := hid hK
                  clear hK
                  cases hall : (l.take j).all fun m => decide (x ≤ tk m x) with
                  | false =>
                    have hwh : (l.all fun m => decide (x ≤ tk m x)) = false := by
                      cases hc : (l.all fun m => decide (x ≤ tk m x)) with
                      | false => rfl
                      | true =>
                        rw [List.all_eq_true] at hc
                        have h1 : ((l.take j).all fun m => decide (x ≤ tk m x)) = true := by
                          rw [List.all_eq_true]
                          exact fun m hm => hc m (List.mem_of_mem_take hm)
                        rw [hall] at h1
                        cases h1
                    rw [hwh] at Hcs
                    clear hall hwh
                    by_cases hlj : j < L
                    · have hljI : (j : Int) < L := by omega
                      clear hlj hj
                      go_wp2
                      go_roundw
                      case rel => exact ⟨x + 1, Hlx.out, by go_num, by rw [Hcs.out]; rfl, HK.out⟩
                      case measure => have := Hlx.out; simp [intOf]; omega
                    · have hljI : ¬ ((j : Int) < L) := by omega
                      clear hlj hj
                      go_wp2
                      go_roundw
                      case rel => exact ⟨x + 1, Hlx.out, by go_num, by rw [Hcs.out]; rfl, HK.out⟩
                      case measure => have := Hlx.out; simp [intOf]; omega
                  | true =>
                    by_cases hlj : j < L
                    · have hljI : (j : Int) < L := by omega
                      have Hlj := hid hlj
                      obtain ⟨m, hm⟩ : ∃ m, l[j]? = some m := ⟨_, List.getElem?_eq_getElem (by have := HL.out; omega)⟩
                      obtain ⟨b, o, hA', hcs⟩ := Hm.out.mvAt hm
                      subst hA'
                      have hmem := List.mem_of_getElem? hm
                      have Hsu := hid (show ((l.take (j + 1)).all fun m => decide (x ≤ tk m x)) = decide (x ≤ tk m x) by rw [take_more hm, List.all_append, hall]; simp)
                      have Ht := hid (fun W => Hta.out W m hmem x Hx4.out)
                      generalize tk m x = y at *
                      obtain ⟨xa, xb, xc, xd, xe, xf⟩ := m
                      have Hcx := hid (show ∀ W, Has W X → (W.cell? ⟨b, o + j * 6, none⟩ = some (.int .i64 xa) ∧ W.cell? ⟨b, o + j * 6 + 1, none⟩ = some (.int .i64 xb) ∧ W.cell? ⟨b, o + j * 6 + 2, none⟩ = some (.int .i64 xc) ∧ W.cell? ⟨b, o + j * 6 + 3, none⟩ = some (.int .i64 xd) ∧ W.cell? ⟨b, o + j * 6 + 4, none⟩ = some (.int .i64 xe) ∧ W.cell? ⟨b, o + j * 6 + 5, none⟩ = some (.int .i64 xf)) from hcs)
                      have Ht2 := hid (show ∀ W, Calls Tryd.prog 19 #[.agg #[.int .i64 g.A, .int .i64 g.B, .int .i64 g.D], .agg #[.int .i64 xa, .int .i64 xb, .int .i64 xc, .int .i64 xd, .int .i64 xe, .int .i64 xf], .int .i64 k, .int .i64 x] W fun e w' => e = .returned (.int .i64 y) ∧ Kp W w' from Ht.out)
                      have KA := hid (show ∀ W, Kp w6 W → (W.cell? ⟨gb, 0, none⟩ = some (.int .i64 g.A) ∧ W.cell? ⟨gb, 1, none⟩ = some (.int .i64 g.B) ∧ W.cell? ⟨gb, 2, none⟩ = some (.int .i64 g.D) ∧ W.cell? ⟨b, o + j * 6, none⟩ = some (.int .i64 xa) ∧ W.cell? ⟨b, o + j * 6 + 1, none⟩ = some (.int .i64 xb) ∧ W.cell? ⟨b, o + j * 6 + 2, none⟩ = some (.int .i64 xc) ∧ W.cell? ⟨b, o + j * 6 + 3, none⟩ = some (.int .i64 xd) ∧ W.cell? ⟨b, o + j * 6 + 4, none⟩ = some (.int .i64 xe) ∧ W.cell? ⟨b, o + j * 6 + 5, none⟩ = some (.int .i64 xf)) from fun W h => by
                        obtain ⟨c0, c1, c2, c3, c4, c5⟩ := Hcx.out W (HWX.out W h)
                        obtain ⟨g0, g1, g2⟩ := HWB.out W h
                        exact ⟨g0, g1, g2, c0, c1, c2, c3, c4, c5⟩)
                      clear hcs Ht hm hmem hlj hj hall Hcx
                      go_wp2
                      have hS := KA.out wr.drew HK.out.drew
                      refine wp_region_txt (fun W => W.cell? ⟨gb, 0, none⟩ = some (.int .i64 g.A) ∧ W.cell? ⟨gb, 1, none⟩ = some (.int .i64 g.B) ∧ W.cell? ⟨gb, 2, none⟩ = some (.int .i64 g.D) ∧ W.cell? ⟨b, o + j * 6, none⟩ = some (.int .i64 xa) ∧ W.cell? ⟨b, o + j * 6 + 1, none⟩ = some (.int .i64 xb) ∧ W.cell? ⟨b, o + j * 6 + 2, none⟩ = some (.int .i64 xc) ∧ W.cell? ⟨b, o + j * 6 + 3, none⟩ = some (.int .i64 xd) ∧ W.cell? ⟨b, o + j * 6 + 4, none⟩ = some (.int .i64 xe) ∧ W.cell? ⟨b, o + j * 6 + 5, none⟩ = some (.int .i64 xf)) none
                        [(0, true), (1, true), (2, true), (3, true), (4, true), (5, true), (6, true), (8, true), (7, false), (9, true), (10, true)] (by kernel_rfl) rfl (by kernel_rfl) (by kernel_rfl) (by repeat (first | with_reducible refine PanicOk.thn ?_ | with_reducible refine PanicOk.blk ?_ | exact PanicOk.body _ _ _)) ?_
                      repeat
                        (refine txt_quiet ?_ hS rfl rfl (fun W hW => ?_) ?_
                         rotate_left 1
                         · obtain ⟨hW1, hW2, hW3, hW4, hW5, hW6, hW7, hW8, hW9⟩ := hW
                           go_simp
                           exact rfl
                         simp only [Act.put, List.setIfInBounds_toArray, List.set_cons_zero, List.set_cons_succ])
                      refine txt_op rfl rfl ?_
                      refine op_call 19 #[.agg #[.int .i64 g.A, .int .i64 g.B, .int .i64 g.D], .agg #[.int .i64 xa, .int .i64 xb, .int .i64 xc, .int .i64 xd, .int .i64 xe, .int .i64 xf], .int .i64 k, .int .i64 x] wr.drew (by go_simp) _ (Ht2.out wr.drew) ?_
                      rintro e1 w7 ⟨rfl, k7⟩
                      have J7 := hid (HK.out.drew.trans k7)
                      refine ⟨_, rfl, fun _ => KA.out w7 J7.out, ?_⟩
                      clear hS k7
                      simp only [Act.put, List.setIfInBounds_toArray, List.set_cons_zero, List.set_cons_succ]
                      have hS := KA.out w7 J7.out
                      repeat
                        (refine txt_quiet ?_ hS rfl rfl (fun W hW => ?_) ?_
                         rotate_left 1
                         · obtain ⟨hW1, hW2, hW3, hW4, hW5, hW6, hW7, hW8, hW9⟩ := hW
                           go_simp
                           exact rfl
                         simp only [Act.put, List.setIfInBounds_toArray, List.set_cons_zero, List.set_cons_succ])
                      refine txt_done ?_
                      clear hS
                      go_wp2
                      go_roundw
                      case rel => exact ⟨j + 1, Hlj.out, by go_num, by rw [Hsu.out], J7.out⟩
                      case measure => have := Hlj.out; simp [intOf]; omega
                    · have hljI : ¬ ((j : Int) < L) := by omega
                      have hje : j = l.length := by have := HL.out; omega
                      rw [hje, List.take_length] at hall
                      rw [hall] at Hcs
                      clear hlj hj hje hall
                      go_wp2
                      go_roundw
                      case rel => exact ⟨x + 1, Hlx.out, by go_num, by rw [Hcs.out] <;> go_num, HK.out⟩
                      case measure => have := Hlx.out; simp [intOf]; omega
              · have hxe : x = T := by omega
                subst hxe
                rw [hfin] at hcn ⊢
                clear hlx hx hfin
                go_wp2_with (go_at_call 9; refine (Hal.out _ (HWF.out _ HK.out)).mono ?_; rintro e8 w8 ⟨rfl, k8⟩; have J8 := hid (HK.out.trans k8); clear k8)
                go_ret
                exact ⟨rfl, HWF.out _ J8.out, KQ.out.2.trans J8.out.2⟩
      · have KQ := hid (show Kp w w5 from K5.out)
        have KX2 := hid (show Has w5 X from KX.out)
        have BX2 := hid (show Has w5 (blk w4.heap.size #[.int .i64 g.A, .int .i64 g.B, .int .i64 g.D] 26 + MS.all w4) from B5.out)
        clear q0 q1 q2 u1 u2 u3 u4 hq1 hq2 hq3 hq4 hq5
        generalize w4.heap.size = gb at *
        generalize MS.all w4 = M4 at *
        have HWB := hid (show ∀ W, Kp w5 W → (W.cell? ⟨gb, 0, none⟩ = some (.int .i64 g.A) ∧ W.cell? ⟨gb, 1, none⟩ = some (.int .i64 g.B) ∧ W.cell? ⟨gb, 2, none⟩ = some (.int .i64 g.D)) from fun W h => by
          have hb := h.1 _ BX2.out
          exact ⟨hb.at_ rfl, hb.at_ rfl, hb.at_ rfl⟩)
        have HWF := hid (show ∀ W, Kp w5 W → Has W F from fun W h => h.1 _ (KQ.out.1 _ HF.out))
        have HWX := hid (show ∀ W, Kp w5 W → Has W X from fun W h => h.1 _ KX2.out)
        clear Hsy Hla Hca Hcb Hcx Hfew KX B5 K5 BX2 KX2
        generalize symL p g = l at *
        have hnc := Hm.out.cells.2.1
        go_loopw [16, 17] (fun va v wr => ∃ j : Nat, j ≤ N ∧ v = .int .i64 j ∧ va = .int .i64 (k ^ j : Nat) ∧ k ^ j ≤ 4096 ∧ Kp w5 wr) (fun _ v _ => N - (intOf v).toNat)
        case atStart => exact ⟨0, Nat.zero_le _, rfl, by rw [Nat.pow_zero]; rfl, by rw [Nat.pow_zero]; omega, Kp.refl _⟩
        case round =>
          obtain ⟨j, hj, rfl, rfl, hkj, hK⟩ := hrel
          have HK := hid hK
          have Hkj := hid hkj
          clear hK
          obtain ⟨q0, q1, q2⟩ := HWB.out wr HK.out
          by_cases hlt : j < N
          · have hltI : (j : Int) < N := by omega
            have Hlt := hid hlt
            obtain ⟨z, hz⟩ : ∃ z, z = k ^ (j + 1) := ⟨_, rfl⟩
            have hz2 : ((k ^ j : Nat) : Int) * k = (z : Int) := by rw [hz, Nat.pow_succ, Int.natCast_mul]
            have hz3 : z ≤ 4096 * 4 := by rw [hz, Nat.pow_succ]; exact Nat.mul_le_mul hkj HK4.out
            have Hz := hid hz
            generalize k ^ j = y at *
            have a1 : IntKind.i64.wrap ((y : Int) * k) = z := by rw [hz2, IntKind.wrap_i64]; omega
            have a2 : wrap64 ((y : Int) * k) = z := by clear a1; rw [hz2]; unfold wrap64; omega
            have A1 := hid a1
            have A2 := hid a2
            clear a1 a2
            have e1 : IntKind.i64.wrap ((j : Int) + 1) = (j : Int) + 1 := by clear hz2 hz; rw [IntKind.wrap_i64]; omega
            have e2 : wrap64 ((j : Int) + 1) = (j : Int) + 1 := by clear e1 hz2 hz; unfold wrap64; omega
            clear hlt hj hz hz2 hz3 hkj
            by_cases hz4 : z ≤ 4096
            · have hzI : ¬ (4096 < (z : Int)) := by omega
              have Hz4 := hid hz4
              clear hz4
              have a1 := A1.out
              have a2 := A2.out
              have u1 := U1.out
              have u2 := U2.out
              go_wp2
              clear u1 u2 a1 a2 e1 e2
              go_roundw
              case rel => exact ⟨j + 1, Hlt.out, by go_num, by rw [← Hz.out], by rw [← Hz.out]; exact Hz4.out, HK.out⟩
              case measure => have := Hlt.out; simp [intOf]; omega
            · have hzI : 4096 < (z : Int) := by omega
              clear hz4
              have a1 := A1.out
              have a2 := A2.out
              have u1 := U1.out
              have u2 := U2.out
              go_wp2_with (go_at_call 9; refine (Hal.out _ (HWF.out _ HK.out)).mono ?_; rintro e8 w8 ⟨rfl, k8⟩; have J8 := hid (HK.out.trans k8); clear k8)
              go_ret
              exact ⟨rfl, HWF.out _ J8.out, KQ.out.2.trans J8.out.2⟩
          · have hje : j = N := by omega
            subst hje
            have hfin := Hfin.out hkj
            generalize k ^ j = T at *
            have hTI : (T : Int) ≤ 4096 := by omega
            clear hlt hj Hfin
            have u1 := U1.out
            have u2 := U2.out
            go_wp2
            clear u1 u2
            go_loopw [18, 19] (fun vl v wr => ∃ x : Nat, x ≤ T ∧ v = .int .i64 x ∧ vl = .int .i64 ((List.range x).countP (fun x => l.all fun m => decide (x ≤ tk m x)) : Nat) ∧ Kp w5 wr) (fun _ v _ => T - (intOf v).toNat)
            case atStart => exact ⟨0, Nat.zero_le _, rfl, rfl, HK.out⟩
            case round =>
              clear HK q0 q1 q2
              obtain ⟨x, hx, rfl, rfl, hK⟩ := hrel
              have HK := hid hK
              clear hK
              have hcn : (List.range x).countP (fun x => l.all fun m => decide (x ≤ tk m x)) ≤ 4096 := by have := List.countP_le_length (p := fun x => l.all fun m => decide (x ≤ tk m x)) (l := List.range x); rw [List.length_range] at this; omega
              by_cases hlx : x < T
              · have hlxI : (x : Int) < T := by omega
                have Hlx := hid hlx
                have Hx4 := hid (show x ≤ 4096 by omega)
                have Hcs := hid (show (List.range (x + 1)).countP (fun x => l.all fun m => decide (x ≤ tk m x)) = (List.range x).countP (fun x => l.all fun m => decide (x ≤ tk m x)) + if (l.all fun m => decide (x ≤ tk m x)) = true then 1 else 0 by rw [List.range_succ, List.countP_append]; simp [List.countP_cons])
                generalize (List.range x).countP (fun x => l.all fun m => decide (x ≤ tk m x)) = cn at *
                have hcnI : (cn : Int) ≤ 4096 := by omega
                clear hlx hx hcn
                go_wp2
                go_loopw [20, 21] (fun vi v wr => ∃ i : Nat, i ≤ L ∧ v = .int .i64 i ∧ vi = .bool ((l.take i).all fun m => decide (x ≤ tk m x)) ∧ Kp w5 wr) (fun _ v _ => L - (intOf v).toNat)
                case atStart => exact ⟨0, Nat.zero_le _, rfl, rfl, HK.out⟩
                case round =>
                  clear HK
                  obtain ⟨j, hj, rfl, rfl, hK⟩ := hrel
                  have HK := hid hK
                  clear hK
                  cases hall : (l.take j).all fun m => decide (x ≤ tk m x) with
                  | false =>
                    have hwh : (l.all fun m => decide (x ≤ tk m x)) = false := by
                      cases hc : (l.all fun m => decide (x ≤ tk m x)) with
                      | false => rfl
                      | true =>
                        rw [List.all_eq_true] at hc
                        have h1 : ((l.take j).all fun m => decide (x ≤ tk m x)) = true := by
                          rw [List.all_eq_true]
                          exact fun m hm => hc m (List.mem_of_mem_take hm)
                        rw [hall] at h1
                        cases h1
                    rw [hwh] at Hcs
                    clear hall hwh
                    by_cases hlj : j < L
                    · have hljI : (j : Int) < L := by omega
                      clear hlj hj
                      go_wp2
                      go_roundw
                      case rel => exact ⟨x + 1, Hlx.out, by go_num, by rw [Hcs.out]; rfl, HK.out⟩
                      case measure => have := Hlx.out; simp [intOf]; omega
                    · have hljI : ¬ ((j : Int) < L) := by omega
                      clear hlj hj
                      go_wp2
                      go_roundw
                      case rel => exact ⟨x + 1, Hlx.out, by go_num, by rw [Hcs.out]; rfl, HK.out⟩
                      case measure => have := Hlx.out; simp [intOf]; omega
                  | true =>
                    by_cases hlj : j < L
                    · have hljI : (j : Int) < L := by omega
                      have Hlj := hid hlj
                      obtain ⟨m, hm⟩ : ∃ m, l[j]? = some m := ⟨_, List.getElem?_eq_getElem (by have := HL.out; omega)⟩
                      obtain ⟨b, o, hA', hcs⟩ := Hm.out.mvAt hm
                      subst hA'
                      have hmem := List.mem_of_getElem? hm
                      have Hsu := hid (show ((l.take (j + 1)).all fun m => decide (x ≤ tk m x)) = decide (x ≤ tk m x) by rw [take_more hm, List.all_append, hall]; simp)
                      have Ht := hid (fun W => Hta.out W m hmem x Hx4.out)
                      generalize tk m x = y at *
                      obtain ⟨xa, xb, xc, xd, xe, xf⟩ := m
                      have Hcx := hid (show ∀ W, Has W X → (W.cell? ⟨b, o + j * 6, none⟩ = some (.int .i64 xa) ∧ W.cell? ⟨b, o + j * 6 + 1, none⟩ = some (.int .i64 xb) ∧ W.cell? ⟨b, o + j * 6 + 2, none⟩ = some (.int .i64 xc) ∧ W.cell? ⟨b, o + j * 6 + 3, none⟩ = some (.int .i64 xd) ∧ W.cell? ⟨b, o + j * 6 + 4, none⟩ = some (.int .i64 xe) ∧ W.cell? ⟨b, o + j * 6 + 5, none⟩ = some (.int .i64 xf)) from hcs)
                      have Ht2 := hid (show ∀ W, Calls Tryd.prog 19 #[.agg #[.int .i64 g.A, .int .i64 g.B, .int .i64 g.D], .agg #[.int .i64 xa, .int .i64 xb, .int .i64 xc, .int .i64 xd, .int .i64 xe, .int .i64 xf], .int .i64 k, .int .i64 x] W fun e w' => e = .returned (.int .i64 y) ∧ Kp W w' from Ht.out)
                      have KA := hid (show ∀ W, Kp w5 W → (W.cell? ⟨gb, 0, none⟩ = some (.int .i64 g.A) ∧ W.cell? ⟨gb, 1, none⟩ = some (.int .i64 g.B) ∧ W.cell? ⟨gb, 2, none⟩ = some (.int .i64 g.D) ∧ W.cell? ⟨b, o + j * 6, none⟩ = some (.int .i64 xa) ∧ W.cell? ⟨b, o + j * 6 + 1, none⟩ = some (.int .i64 xb) ∧ W.cell? ⟨b, o + j * 6 + 2, none⟩ = some (.int .i64 xc) ∧ W.cell? ⟨b, o + j * 6 + 3, none⟩ = some (.int .i64 xd) ∧ W.cell? ⟨b, o + j * 6 + 4, none⟩ = some (.int .i64 xe) ∧ W.cell? ⟨b, o + j * 6 + 5, none⟩ = some (.int .i64 xf)) from fun W h => by
                        obtain ⟨c0, c1, c2, c3, c4, c5⟩ := Hcx.out W (HWX.out W h)
                        obtain ⟨g0, g1, g2⟩ := HWB.out W h
                        exact ⟨g0, g1, g2, c0, c1, c2, c3, c4, c5⟩)
                      clear hcs Ht hm hmem hlj hj hall Hcx
                      go_wp2
                      have hS := KA.out wr.drew HK.out.drew
                      refine wp_region_txt (fun W => W.cell? ⟨gb, 0, none⟩ = some (.int .i64 g.A) ∧ W.cell? ⟨gb, 1, none⟩ = some (.int .i64 g.B) ∧ W.cell? ⟨gb, 2, none⟩ = some (.int .i64 g.D) ∧ W.cell? ⟨b, o + j * 6, none⟩ = some (.int .i64 xa) ∧ W.cell? ⟨b, o + j * 6 + 1, none⟩ = some (.int .i64 xb) ∧ W.cell? ⟨b, o + j * 6 + 2, none⟩ = some (.int .i64 xc) ∧ W.cell? ⟨b, o + j * 6 + 3, none⟩ = some (.int .i64 xd) ∧ W.cell? ⟨b, o + j * 6 + 4, none⟩ = some (.int .i64 xe) ∧ W.cell? ⟨b, o + j * 6 + 5, none⟩ = some (.int .i64 xf)) none
                        [(0, true), (1, true), (2, true), (3, true), (4, true), (5, true), (6, true), (8, true), (7, false), (9, true), (10, true)] (by kernel_rfl) rfl (by kernel_rfl) (by kernel_rfl) (by repeat (first | with_reducible refine PanicOk.thn ?_ | with_reducible refine PanicOk.blk ?_ | exact PanicOk.body _ _ _)) ?_
                      repeat
                        (refine txt_quiet ?_ hS rfl rfl (fun W hW => ?_) ?_
                         rotate_left 1
                         · obtain ⟨hW1, hW2, hW3, hW4, hW5, hW6, hW7, hW8, hW9⟩ := hW
                           go_simp
                           exact rfl
                         simp only [Act.put, List.setIfInBounds_toArray, List.set_cons_zero, List.set_cons_succ])
                      refine txt_op rfl rfl ?_
                      refine op_call 19 #[.agg #[.int .i64 g.A, .int .i64 g.B, .int .i64 g.D], .agg #[.int .i64 xa, .int .i64 xb, .int .i64 xc, .int .i64 xd, .int .i64 xe, .int .i64 xf], .int .i64 k, .int .i64 x] wr.drew (by go_simp) _ (Ht2.out wr.drew) ?_
                      rintro e1 w7 ⟨rfl, k7⟩
                      have J7 := hid (HK.out.drew.trans k7)
                      refine ⟨_, rfl, fun _ => KA.out w7 J7.out, ?_⟩
                      clear hS k7
                      simp only [Act.put, List.setIfInBounds_toArray, List.set_cons_zero, List.set_cons_succ]
                      have hS := KA.out w7 J7.out
                      repeat
                        (refine txt_quiet ?_ hS rfl rfl (fun W hW => ?_) ?_
                         rotate_left 1
                         · obtain ⟨hW1, hW2, hW3, hW4, hW5, hW6, hW7, hW8, hW9⟩ := hW
                           go_simp
                           exact rfl
                         simp only [Act.put, List.setIfInBounds_toArray, List.set_cons_zero, List.set_cons_succ])
                      refine txt_done ?_
                      clear hS
                      go_wp2
                      go_roundw
                      case rel => exact ⟨j + 1, Hlj.out, by go_num, by rw [Hsu.out], J7.out⟩
                      case measure => have := Hlj.out; simp [intOf]; omega
                    · have hljI : ¬ ((j : Int) < L) := by omega
                      have hje : j = l.length := by have := HL.out; omega
                      rw [hje, List.take_length] at hall
                      rw [hall] at Hcs
                      clear hlj hj hje hall
                      go_wp2
                      go_roundw
                      case rel => exact ⟨x + 1, Hlx.out, by go_num, by rw [Hcs.out] <;> go_num, HK.out⟩
                      case measure => have := Hlx.out; simp [intOf]; omega
              · have hxe : x = T := by omega
                subst hxe
                rw [hfin] at hcn ⊢
                clear hlx hx hfin
                go_wp2_with (go_at_call 9; refine (Hal.out _ (HWF.out _ HK.out)).mono ?_; rintro e8 w8 ⟨rfl, k8⟩; have J8 := hid (HK.out.trans k8); clear k8)
                go_ret
                exact ⟨rfl, HWF.out _ J8.out, KQ.out.2.trans J8.out.2⟩
end Go.Proofs.YteibbnmlmbhkpaaDoor

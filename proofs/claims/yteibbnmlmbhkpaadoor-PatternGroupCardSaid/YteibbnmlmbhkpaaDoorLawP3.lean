/-
  The walk of PatternGroup.
-/
import Derived.Test.YteibbnmlmbhkpaaDoorGW2
import Derived.Test.YteibbnmlmbhkpaaDoorPTree
namespace Go.Proofs.YteibbnmlmbhkpaaDoor
open Go.RowKit
set_option linter.unusedVariables false
set_option linter.unusedSimpArgs false
set_option maxHeartbeats 4000000
set_option maxRecDepth 100000
theorem patGrp_any {F : MS} {p : List ByteArray} {A : Option Addr} {c : Nat} {w : World} (hr : RdS F RT.str p (.slice A p.length c)) (hs : ∀ s ∈ p, s.size ≤ maxLen) (hk : KinOk F) (hH : Has w F) :
    Calls Tryd.prog 5 #[.slice A p.length c] w (LawPost w F) := by
  have Hfew := hid (few_any hr hs hH)
  have Hal := hid (fun (W : World) (hW : Has W F) => alive_any hk hW)
  have HF := hid hH
  cases hf : fewB p with
  | false =>
    rw [hf] at Hfew
    clear hf hr hs hk hH
    go_enter Tryd.func5, Tryd.ntmps5
    go_wp2_with (first
      | (go_at_call 8; refine Hfew.out.mono ?_; rintro e1 w1 ⟨rfl, hw1⟩; rw [hw1]; clear hw1)
      | (go_at_call 9; refine (Hal.out _ HF.out).mono ?_; rintro e2 w2 ⟨rfl, k2⟩; have K2 := hid k2; clear k2))
    go_ret
    exact ⟨rfl, K2.out.1 _ HF.out, K2.out.2⟩
  | true =>
    rw [hf] at Hfew
    unfold fewB at hf
    rw [decide_eq_true_eq] at hf
    obtain ⟨hl20, hs20⟩ := hf
    have hgiv : Giv F p A c := ⟨hr, by omega, fun s h => by have := hs20 s h; omega⟩
    cases hp : isPat p with
    | false =>
      have Hla := hid (fun (W : World) (hW : Has W F) => show Calls Tryd.prog 10 #[.slice A p.length c] W fun e w' => e = .returned (.tuple #[.agg #[.int .i64 0, .int .i64 0, .int .i64 0], .int .i64 2]) ∧ Kp W w' from (Lattice_any hgiv hW).mono fun e w' h => by
        obtain ⟨g, er, h1, h2, _, h3⟩ := h
        obtain ⟨h4, h5⟩ := h3 hp
        rw [h4, h5] at h1
        exact ⟨h1, h2⟩)
      have Hsy := hid (show Calls Tryd.prog 12 #[.slice A p.length c] w fun e w' => ∃ A' c', e = .returned (.tuple #[.slice A' 0 c', .int .i64 2]) ∧ Kp w w' from (Symmetries_any hgiv hk hH).mono fun e w' h => by
        obtain ⟨A', c', l, er, X, h1, h2, _, _, _, h3⟩ := h
        obtain ⟨h4, h5⟩ := h3 hp
        rw [h4, h5] at h1
        exact ⟨A', c', h1, h2⟩)
      clear hr hs hk hH hl20 hs20 hgiv hp
      go_enter Tryd.func5, Tryd.ntmps5
      go_wp2_with (first
        | (go_at_call 9; refine (Hal.out _ (K2.out.1 _ HF.out)).mono ?_; rintro e3 w3 ⟨rfl, k3⟩; have K3 := hid (K2.out.trans k3); clear k3)
        | (go_at_call 10; refine (Hla.out _ (K1.out.1 _ HF.out)).mono ?_; rintro e2 w2 ⟨rfl, k2⟩; have K2 := hid (show Kp w (w2.alloc (.cells #[.int .i64 0, .int .i64 0, .int .i64 0] 26)) from (K1.out.trans k2).trans ⟨fun M hM => hM.of_all ((Has.all w2).alloc _), Ext.alloc _ _⟩); clear k2)
        | (go_at_call 12; refine Hsy.out.mono ?_; rintro e1 w1 ⟨A', c', rfl, k1⟩; have K1 := hid k1; clear k1)
        | (go_at_call 8; refine Hfew.out.mono ?_; rintro e1 w1 ⟨rfl, hw1⟩; rw [hw1]; clear hw1))
      go_ret
      exact ⟨rfl, K3.out.1 _ HF.out, K3.out.2⟩
    | true =>
      have Hp := hid (isPat.ok hp).1
      have Hpt := hid hp
      have Hla := hid (fun (W : World) (hW : Has W F) => show Calls Tryd.prog 10 #[.slice A p.length c] W fun e w' => ∃ g, IsLat p g ∧ e = .returned (.tuple #[.agg #[.int .i64 g.A, .int .i64 g.B, .int .i64 g.D], .int .i64 0]) ∧ Kp W w' from (Lattice_any hgiv hW).mono fun e w' h => by
        obtain ⟨g, er, h1, h2, h3, _⟩ := h
        obtain ⟨h4, h5⟩ := h3 hp
        rw [h5] at h1
        exact ⟨g, h4, h1, h2⟩)
      have Hsy := hid (show Calls Tryd.prog 12 #[.slice A p.length c] w fun e w' => ∃ g A' c' X, IsLat p g ∧ e = .returned (.tuple #[.slice A' (symL p g).length c', .int .i64 0]) ∧ Kp w w' ∧ Has w' X ∧ RdS X RT.mv (symL p g) (.slice A' (symL p g).length c') from (Symmetries_any hgiv hk hH).mono fun e w' h => by
        obtain ⟨A', c', l, er, X, h1, h2, h6, h7, h3, _⟩ := h
        obtain ⟨⟨g, h4, h8⟩, h5⟩ := h3 hp
        rw [h5, h8] at h1
        rw [h8] at h7
        exact ⟨g, A', c', X, h4, h1, h2, h6, h7⟩)
      have Hpa := hid (fun (W : World) (hW : Has W F) => show Calls Tryd.prog 20 #[.slice A p.length c] W fun e w' => e = .returned (.bool true) ∧ ∃ q, w' = W.drewN q from by
        have := pattern_any hgiv.rd hgiv.l hgiv.s hW
        rwa [hp] at this)
      have Hap := hid (fun (W : World) (hW : Has W F) (m : Mv) (hm : apOk p m = true) => show Calls Tryd.prog 24 #[.slice A p.length c, m.v] W fun e w' => ∃ A' c' X, e = .returned (.tuple #[.slice A' (apL p m (apH p m)).length c', .int .i64 0]) ∧ Kp W w' ∧ Has w' X ∧ RdS X RT.str (apL p m (apH p m)) (.slice A' (apL p m (apH p m)).length c') from (apply_any hgiv hk hW m).mono fun e w' h => by
        obtain ⟨A', c', l, er, X, h1, h2, h6, h7, h3, _⟩ := h
        obtain ⟨h4, h5⟩ := h3 hm
        rw [h5, h4] at h1
        rw [h4] at h7
        exact ⟨A', c', X, h1, h2, h6, h7⟩)
      have Hrd := hid hgiv.rd
      clear hr hs hk hH hl20 hs20 hgiv hp
      go_enter Tryd.func5, Tryd.ntmps5
      go_wp2_with (first
        | (go_at_call 20; refine (Hpa.out _ (K2.out.1 _ HF.out)).mono ?_; rintro e3 w3 ⟨rfl, q3, rfl⟩; have K3 := hid (Kp.drewN K2.out q3))
        | (go_at_call 10; refine (Hla.out _ (K1.out.1 _ HF.out)).mono ?_; rintro e2 w2 ⟨g, hgu, rfl, k2⟩; obtain rfl := hgu.uniq Hg.out; have B2 := hid (show Has (w2.alloc (.cells #[.int .i64 g.A, .int .i64 g.B, .int .i64 g.D] 26)) (blk w2.heap.size #[.int .i64 g.A, .int .i64 g.B, .int .i64 g.D] 26 + MS.all w2) from (Has.all w2).alloc _); have KX2 := hid (k2.1 _ KX.out); have K2 := hid (show Kp w (w2.alloc (.cells #[.int .i64 g.A, .int .i64 g.B, .int .i64 g.D] 26)) from (K1.out.trans k2).trans ⟨fun M hM => hM.of_all B2.out, Ext.alloc _ _⟩); have q0 : (w2.alloc (.cells #[.int .i64 g.A, .int .i64 g.B, .int .i64 g.D] 26)).cell? ⟨w2.heap.size, 0, none⟩ = some (.int .i64 g.A) := B2.out.at_ rfl; have q1 : (w2.alloc (.cells #[.int .i64 g.A, .int .i64 g.B, .int .i64 g.D] 26)).cell? ⟨w2.heap.size, 1, none⟩ = some (.int .i64 g.B) := B2.out.at_ rfl; have q2 : (w2.alloc (.cells #[.int .i64 g.A, .int .i64 g.B, .int .i64 g.D] 26)).cell? ⟨w2.heap.size, 2, none⟩ = some (.int .i64 g.D) := B2.out.at_ rfl; clear k2 hgu)
        | (go_at_call 12; refine Hsy.out.mono ?_; rintro e1 w1 ⟨g0, A', c', X, hg, rfl, k1, kX, kr⟩; have K1 := hid k1; have KX := hid kX; have Hg := hid hg; have Hm := hid kr; obtain ⟨N, hN⟩ : ∃ N, N = (symL p g0).length := ⟨_, rfl⟩; rw [← hN] at Hm ⊢; have HN := hid hN; have hN1 : ¬ ((N : Int) = 0) := (by have := symL_one Hp.out hg; omega); have hN8 : ¬ (8 < (N : Int)) := (by have := symL_le Hp.out hg; omega); have HgS := hid (show (1 ≤ g0.A ∧ g0.A ≤ 6) ∧ (1 ≤ g0.D ∧ g0.D ≤ 6) ∧ g0.B < g0.D from ⟨⟨hg.a1, (hg.a6 Hp.out).1⟩, ⟨hg.d1, (hg.a6 Hp.out).2.1⟩, hg.bd⟩); have hA1 : ¬ ((g0.A : Int) < 1) := (by have := hg.a1; omega); have hD1 : ¬ ((g0.D : Int) < 1) := (by have := hg.d1; omega); have hB0 : ¬ ((g0.B : Int) < 0) := (by omega); have hBD : ¬ ((g0.D : Int) ≤ g0.B) := (by have := hg.bd; omega); clear k1 kX kr hg hN)
        | (go_at_call 8; refine Hfew.out.mono ?_; rintro e1 w1 ⟨rfl, hw1⟩; rw [hw1]; clear hw1))
      · rename_i hbad
        exfalso
        have h1 := HgS.out
        rcases hbad with ((((h | h) | h) | h) | h) | h
        · rw [beq_iff_eq] at h; omega
        all_goals omega
      clear q0 q1 q2 hN1 hN8 hA1 hD1 hB0 hBD
      rename_i hx1 hx2 hx3
      clear hx1
      have KX3 := hid ((KX2.out.of_all B2.out).drewN q3)
      have B3 := hid (B2.out.drewN q3)
      clear K2 K1 KX KX2 B2 Hla Hsy Hfew Hpa
      generalize w2.heap.size = gb at *
      generalize hwb : World.drewN _ q3 = wb at *
      clear hwb
      have HWF := hid (show ∀ W, Kp wb W → Has W F from fun W h => h.1 _ (K3.out.1 _ HF.out))
      have HWX := hid (show ∀ W, Kp wb W → Has W X from fun W h => h.1 _ KX3.out)
      have HWB := hid (show ∀ W, Kp wb W → (W.cell? ⟨gb, 0, none⟩ = some (.int .i64 g.A) ∧ W.cell? ⟨gb, 1, none⟩ = some (.int .i64 g.B) ∧ W.cell? ⟨gb, 2, none⟩ = some (.int .i64 g.D)) from fun W h => by
        have hb := h.1 _ B3.out
        exact ⟨hb.at_ rfl, hb.at_ rfl, hb.at_ rfl⟩)
      have Hthen := hid (fun (x y : Mv) (W : World) => then_any x y W)
      have Hkin := hid (fun (x : Mv) (W : World) => refKindOf_any x W)
      have Hpair := hid (fun (x y : Mv) (hx : x ∈ symL p g) (hy : y ∈ symL p g) => pair_ok Hp.out Hg.out hx hy)
      have Hback := hid (fun (x : Mv) (hx : x ∈ symL p g) => pair_back Hp.out Hg.out hx)
      have Happ := hid (fun (x : Mv) (hx : x ∈ symL p g) => ap_ok Hpt.out Hg.out hx)
      have Hflo := hid (fun (x : Mv) (hx : x ∈ symL p g) => ap_floor Hp.out Hg.out hx)
      have Hpat := hid (fun (x : Mv) => ap_isPat Hpt.out x)
      have HinA := hid (fun (W : World) (hW : Has W X) (m : Mv) (he : -1000 ≤ m.e ∧ m.e ≤ 1000) (hf : -1000 ≤ m.f ∧ m.f ≤ 1000) (hin : (symL p g).any (inOne g m) = true) => show Calls Tryd.prog 22 #[.slice A' N c', .agg #[.int .i64 g.A, .int .i64 g.B, .int .i64 g.D], m.v] W fun e w' => e = .returned (.bool true) ∧ Kp W w' from by
        have hm := Hm.out
        have hn := HN.out
        have hs := HgS.out
        rw [hn] at hm ⊢
        refine in_any hm (by have := symL_le Hp.out Hg.out; omega) (fun c hc => ?_) hs.1 hs.2.1 (by omega) he hf hin hW
        obtain ⟨k, e, f, hk, he, hf, rfl, _⟩ := (mem_symL Hp.out Hg.out c).1 hc
        constructor
        · show -1000 ≤ (e : Int) ∧ (e : Int) ≤ 1000; omega
        · show -1000 ≤ (f : Int) ∧ (f : Int) ≤ 1000; omega)
      have hNI : (N : Int) ≤ 8 := by have h1 := symL_le Hp.out Hg.out; have h2 := HN.out; omega
      clear Hpt HgS KX3 B3
      generalize symL p g = l at *
      have hnc := Hm.out.cells.2.1
      go_loopw [7] (fun v wr => ∃ i : Nat, i ≤ N ∧ v = .int .i64 i ∧ Kp wb wr) (fun v _ => N - (intOf v).toNat)
      case atStart => exact ⟨0, Nat.zero_le _, rfl, Kp.refl _⟩
      case round =>
        obtain ⟨i, hi, rfl, hK⟩ := hrel
        have HK := hid hK
        clear hK
        by_cases hlt : i < N
        · have hltI : (i : Int) < N := by omega
          have Hlt := hid hlt
          obtain ⟨am, ham⟩ : ∃ am, l[i]? = some am := ⟨_, List.getElem?_eq_getElem (by have := HN.out; omega)⟩
          obtain ⟨b, o, hA', hcs⟩ := Hm.out.mvAt ham
          subst hA'
          have hmem := List.mem_of_getElem? ham
          have Hbk := hid (Hback.out am hmem)
          have Hth := hid (fun y W => Hthen.out am y W)
          have Hpr := hid (fun y (hy : y ∈ l) => Hpair.out am y hmem hy)
          have Hao := hid (fun (W : World) (hW : Has W F) => Hap.out W hW am (Happ.out am hmem))
          obtain ⟨q, hq⟩ : ∃ q, q = apL p am (apH p am) := ⟨_, rfl⟩
          have Hq1 := hid (show isPat q = true by rw [hq]; exact Hpat.out am)
          have Hq2 := hid (show ∀ x y, col q x y = col p x y by rw [hq]; exact Hflo.out am hmem)
          rw [← hq] at Hao
          clear hlt hi ham hmem hq
          obtain ⟨bk, hbk⟩ : ∃ bk : Mv → Bool, bk = fun b => kindOf (thenM am b) == 0 := ⟨_, rfl⟩
          have HbkD := hid (show ∀ b, bk b = (kindOf (thenM am b) == 0) from fun b => by rw [hbk])
          rw [← hbk] at Hbk
          clear hbk
          obtain ⟨xa, xb, xc, xd, xe, xf⟩ := am
          have Hcx := hid (show ∀ W, Has W X → (W.cell? ⟨b, o + i * 6, none⟩ = some (.int .i64 xa) ∧ W.cell? ⟨b, o + i * 6 + 1, none⟩ = some (.int .i64 xb) ∧ W.cell? ⟨b, o + i * 6 + 2, none⟩ = some (.int .i64 xc) ∧ W.cell? ⟨b, o + i * 6 + 3, none⟩ = some (.int .i64 xd) ∧ W.cell? ⟨b, o + i * 6 + 4, none⟩ = some (.int .i64 xe) ∧ W.cell? ⟨b, o + i * 6 + 5, none⟩ = some (.int .i64 xf)) from hcs)
          have Hao2 := hid (show ∀ W, Has W F → Calls Tryd.prog 24 #[.slice A p.length c, .agg #[.int .i64 xa, .int .i64 xb, .int .i64 xc, .int .i64 xd, .int .i64 xe, .int .i64 xf]] W fun e w' => ∃ A' c' X, e = .returned (.tuple #[.slice A' q.length c', .int .i64 0]) ∧ Kp W w' ∧ Has w' X ∧ RdS X RT.str q (.slice A' q.length c') from Hao.out)
          clear hcs Hao
          go_wp2
          go_loopw [8, 9] (fun vb v wr => ∃ k : Nat, k ≤ N ∧ v = .int .i64 k ∧ vb = .bool ((l.take k).any bk) ∧ Kp wb wr) (fun _ v _ => N - (intOf v).toNat)
          case atStart => exact ⟨0, Nat.zero_le _, rfl, rfl, HK.out⟩
          case round =>
            obtain ⟨k, hk, rfl, rfl, hK2⟩ := hrel
            have HK2 := hid hK2
            clear hK2 HK
            by_cases hlk : k < N
            · have hlkI : (k : Int) < N := by omega
              have Hlk := hid hlk
              obtain ⟨bm, hbm⟩ : ∃ bm, l[k]? = some bm := ⟨_, List.getElem?_eq_getElem (by have := HN.out; omega)⟩
              obtain ⟨b', o', hA', hcs⟩ := Hm.out.mvAt hbm
              injection hA' with hA'
              injection hA' with hb' ho' _
              subst hb'
              subst ho'
              have hpr := Hpr.out bm (List.mem_of_getElem? hbm)
              have Hsu := hid (show (l.take (k + 1)).any bk = ((l.take k).any bk || bk bm) by rw [take_more hbm, List.any_append]; simp)
              rw [HbkD.out bm] at Hsu
              have Ht := hid (fun W => Hth.out bm W)
              obtain ⟨kt, hkt⟩ : ∃ kt, kt = kindOf (thenM ⟨xa, xb, xc, xd, xe, xf⟩ bm) := ⟨_, rfl⟩
              have Hki := hid (fun W => Hkin.out (thenM ⟨xa, xb, xc, xd, xe, xf⟩ bm) W)
              have Hi2 := hid (fun (W : World) (hW : Has W X) => HinA.out W hW (thenM ⟨xa, xb, xc, xd, xe, xf⟩ bm) hpr.e hpr.f hpr.inl)
              rw [← hkt] at Hki Hsu
              clear hlk hk hbm hpr hkt
              generalize thenM ⟨xa, xb, xc, xd, xe, xf⟩ bm = tm at *
              obtain ⟨ya, yb, yc, yd, ye, yf⟩ := bm
              obtain ⟨ta, tb, tc, td, te, tf⟩ := tm
              have Ht2 := hid (show ∀ W, Calls Tryd.prog 21 #[.agg #[.int .i64 xa, .int .i64 xb, .int .i64 xc, .int .i64 xd, .int .i64 xe, .int .i64 xf], .agg #[.int .i64 ya, .int .i64 yb, .int .i64 yc, .int .i64 yd, .int .i64 ye, .int .i64 yf]] W fun e w' => e = .returned (.agg #[.int .i64 ta, .int .i64 tb, .int .i64 tc, .int .i64 td, .int .i64 te, .int .i64 tf]) ∧ Kp W w' from Ht.out)
              have Hki2 := hid (show ∀ W, Calls Tryd.prog 23 #[.agg #[.int .i64 ta, .int .i64 tb, .int .i64 tc, .int .i64 td, .int .i64 te, .int .i64 tf]] W fun e w' => e = .returned (.int .i64 kt) ∧ Kp W w' from Hki.out)
              have Hi3 := hid (show ∀ W, Has W X → Calls Tryd.prog 22 #[.slice (some ⟨b, o, none⟩) N c', .agg #[.int .i64 g.A, .int .i64 g.B, .int .i64 g.D], .agg #[.int .i64 ta, .int .i64 tb, .int .i64 tc, .int .i64 td, .int .i64 te, .int .i64 tf]] W fun e w' => e = .returned (.bool true) ∧ Kp W w' from Hi2.out)
              have KA := hid (show ∀ W, Kp wb W → (W.cell? ⟨b, o + i * 6, none⟩ = some (.int .i64 xa) ∧ W.cell? ⟨b, o + i * 6 + 1, none⟩ = some (.int .i64 xb) ∧ W.cell? ⟨b, o + i * 6 + 2, none⟩ = some (.int .i64 xc) ∧ W.cell? ⟨b, o + i * 6 + 3, none⟩ = some (.int .i64 xd) ∧ W.cell? ⟨b, o + i * 6 + 4, none⟩ = some (.int .i64 xe) ∧ W.cell? ⟨b, o + i * 6 + 5, none⟩ = some (.int .i64 xf) ∧ W.cell? ⟨b, o + k * 6, none⟩ = some (.int .i64 ya) ∧ W.cell? ⟨b, o + k * 6 + 1, none⟩ = some (.int .i64 yb) ∧ W.cell? ⟨b, o + k * 6 + 2, none⟩ = some (.int .i64 yc) ∧ W.cell? ⟨b, o + k * 6 + 3, none⟩ = some (.int .i64 yd) ∧ W.cell? ⟨b, o + k * 6 + 4, none⟩ = some (.int .i64 ye) ∧ W.cell? ⟨b, o + k * 6 + 5, none⟩ = some (.int .i64 yf)) from fun W h => by
                obtain ⟨c0, c1, c2, c3, c4, c5⟩ := Hcx.out W (HWX.out W h)
                obtain ⟨d0, d1, d2, d3, d4, d5⟩ := hcs W (HWX.out W h)
                exact ⟨c0, c1, c2, c3, c4, c5, d0, d1, d2, d3, d4, d5⟩)
              clear hcs Ht Hki Hi2
              obtain ⟨z, hz⟩ : ∃ z, z = (l.take k).any bk := ⟨_, rfl⟩
              rw [← hz] at Hsu ⊢
              clear hz
              go_wp2
              have hS := KA.out wr.drew HK2.out.drew
              have KD := hid HK2.out.drew
              generalize hwr : wr.drew = wd at *
              refine wp_region_tree (fun W => W.cell? ⟨b, o + i * 6, none⟩ = some (.int .i64 xa) ∧ W.cell? ⟨b, o + i * 6 + 1, none⟩ = some (.int .i64 xb) ∧ W.cell? ⟨b, o + i * 6 + 2, none⟩ = some (.int .i64 xc) ∧ W.cell? ⟨b, o + i * 6 + 3, none⟩ = some (.int .i64 xd) ∧ W.cell? ⟨b, o + i * 6 + 4, none⟩ = some (.int .i64 xe) ∧ W.cell? ⟨b, o + i * 6 + 5, none⟩ = some (.int .i64 xf) ∧ W.cell? ⟨b, o + k * 6, none⟩ = some (.int .i64 ya) ∧ W.cell? ⟨b, o + k * 6 + 1, none⟩ = some (.int .i64 yb) ∧ W.cell? ⟨b, o + k * 6 + 2, none⟩ = some (.int .i64 yc) ∧ W.cell? ⟨b, o + k * 6 + 3, none⟩ = some (.int .i64 yd) ∧ W.cell? ⟨b, o + k * 6 + 4, none⟩ = some (.int .i64 ye) ∧ W.cell? ⟨b, o + k * 6 + 5, none⟩ = some (.int .i64 yf)) none (.quiet 0 (.quiet 1 (.quiet 2 (.quiet 3 (.quiet 4 (.quiet 5 (.quiet 6 (.quiet 7 (.two 8 9 (.one 9 (.one 10 .done)) (.one 8 (.one 10 .done)))))))))))
                (by kernel_rfl) (by kernel_rfl) (by kernel_rfl) (by repeat (first | with_reducible refine PanicOk.thn ?_ | with_reducible refine PanicOk.blk ?_ | exact PanicOk.body _ _ _)) ?_
              rw [hwr]
              clear hwr
              repeat
                (refine tree_quiet ?_ hS rfl rfl (fun W hW => ?_) ?_
                 rotate_left 1
                 · obtain ⟨hW1, hW2, hW3, hW4, hW5, hW6, hW7, hW8, hW9, hW10, hW11, hW12⟩ := hW
                   go_simp
                   exact rfl
                 simp only [Act.put, List.setIfInBounds_toArray, List.set_cons_zero, List.set_cons_succ])
              refine tree_two ?_ ?_
              · refine tree_op rfl rfl ?_
                refine op_call 21 #[.agg #[.int .i64 xa, .int .i64 xb, .int .i64 xc, .int .i64 xd, .int .i64 xe, .int .i64 xf], .agg #[.int .i64 ya, .int .i64 yb, .int .i64 yc, .int .i64 yd, .int .i64 ye, .int .i64 yf]] wd (by go_simp) _ (Ht2.out wd) ?_
                rintro e1 w1 ⟨rfl, k1⟩
                have J1 := hid (KD.out.trans k1)
                refine ⟨_, rfl, fun _ => KA.out w1 J1.out, ?_⟩
                clear hS k1
                simp only [Act.put, List.setIfInBounds_toArray, List.set_cons_zero, List.set_cons_succ]
                refine tree_op rfl rfl ?_
                refine op_run (.pointer (some ⟨w1.heap.size, 0, none⟩)) (w1.alloc (.cells #[.int .i64 0, .int .i64 0, .int .i64 0, .int .i64 0, .int .i64 0, .int .i64 0] 41)) (by go_simp) ?_
                have HA := hid (show Has (w1.alloc (.cells #[.int .i64 0, .int .i64 0, .int .i64 0, .int .i64 0, .int .i64 0, .int .i64 0] 41)) (blk w1.heap.size #[.int .i64 0, .int .i64 0, .int .i64 0, .int .i64 0, .int .i64 0, .int .i64 0] 41 + MS.all w1) from (Has.all w1).alloc _)
                have EA := hid (Ext.alloc w1 (.cells #[.int .i64 0, .int .i64 0, .int .i64 0, .int .i64 0, .int .i64 0, .int .i64 0] 41))
                have J2 := hid (J1.out.trans ⟨fun M hM => hM.of_all HA.out, EA.out⟩)
                generalize w1.heap.size = gm at *
                generalize w1.alloc _ = w2b at *
                refine ⟨fun _ => KA.out w2b J2.out, ?_⟩
                simp only [Act.put, List.setIfInBounds_toArray, List.set_cons_zero, List.set_cons_succ]
                refine tree_op rfl rfl ?_
                refine op_store_whole (.tmp 10) (.tmp 94) 41 rfl 6 size41 gm (.agg #[.int .i64 ta, .int .i64 tb, .int .i64 tc, .int .i64 td, .int .i64 te, .int .i64 tf]) rfl rfl rfl (by simp [Value.cells, Value.oneCell']) #[.int .i64 0, .int .i64 0, .int .i64 0, .int .i64 0, .int .i64 0, .int .i64 0] 41 _ HA.out rfl ?_
                intro w3 k1 k2
                have H3 := hid (show Has w3 (blk gm #[.int .i64 ta, .int .i64 tb, .int .i64 tc, .int .i64 td, .int .i64 te, .int .i64 tf] 41 + MS.all w1) from k1)
                have J3 := hid (show Kp wb w3 from J1.out.trans ⟨fun M hM => hM.of_all H3.out, EA.out.trans k2⟩)
                clear k1 k2
                refine ⟨fun _ => KA.out w3 J3.out, ?_⟩
                simp only [Act.put, List.setIfInBounds_toArray, List.set_cons_zero, List.set_cons_succ]
                refine tree_done ?_
                have q0 : w3.cell? ⟨gm, 0, none⟩ = some (.int .i64 ta) := H3.out.at_ rfl
                have q1 : w3.cell? ⟨gm, 1, none⟩ = some (.int .i64 tb) := H3.out.at_ rfl
                have q2 : w3.cell? ⟨gm, 2, none⟩ = some (.int .i64 tc) := H3.out.at_ rfl
                have q3 : w3.cell? ⟨gm, 3, none⟩ = some (.int .i64 td) := H3.out.at_ rfl
                have q4 : w3.cell? ⟨gm, 4, none⟩ = some (.int .i64 te) := H3.out.at_ rfl
                have q5 : w3.cell? ⟨gm, 5, none⟩ = some (.int .i64 tf) := H3.out.at_ rfl
                obtain ⟨g0, g1, g2⟩ := HWB.out w3 J3.out
                cases z with
                | true =>
                  go_wp2_with (go_at_call 22; refine (Hi3.out _ (HWX.out _ J3.out)).mono ?_; rintro e4 w4 ⟨rfl, k4⟩; have J4 := hid (J3.out.trans k4); clear k4)
                  go_roundw
                  case rel => exact ⟨k + 1, Hlk.out, by go_num, by rw [Hsu.out, Bool.true_or], J4.out⟩
                  case measure => have := Hlk.out; simp [intOf]; omega
                | false =>
                  go_wp2_with (first
                    | (go_at_call 23; refine (Hki2.out _).mono ?_; rintro e5 w5 ⟨rfl, k5⟩; have J5 := hid (J4.out.trans k5); clear k5)
                    | (go_at_call 22; refine (Hi3.out _ (HWX.out _ J3.out)).mono ?_; rintro e4 w4 ⟨rfl, k4⟩; have J4 := hid (J3.out.trans k4); have H4 := hid (k4.1 _ H3.out); have r0 : w4.cell? ⟨gm, 0, none⟩ = some (.int .i64 ta) := H4.out.at_ rfl; have r1 : w4.cell? ⟨gm, 1, none⟩ = some (.int .i64 tb) := H4.out.at_ rfl; have r2 : w4.cell? ⟨gm, 2, none⟩ = some (.int .i64 tc) := H4.out.at_ rfl; have r3 : w4.cell? ⟨gm, 3, none⟩ = some (.int .i64 td) := H4.out.at_ rfl; have r4 : w4.cell? ⟨gm, 4, none⟩ = some (.int .i64 te) := H4.out.at_ rfl; have r5 : w4.cell? ⟨gm, 5, none⟩ = some (.int .i64 tf) := H4.out.at_ rfl; clear k4))
                  go_roundw
                  case rel => exact ⟨k + 1, Hlk.out, by go_num, by rw [Hsu.out, Bool.false_or], J5.out⟩
                  case measure => have := Hlk.out; simp [intOf]; omega
              · refine tree_op rfl rfl ?_
                refine op_run (.pointer (some ⟨wd.heap.size, 0, none⟩)) (wd.alloc (.cells #[.int .i64 0, .int .i64 0, .int .i64 0, .int .i64 0, .int .i64 0, .int .i64 0] 41)) (by go_simp) ?_
                have HA := hid (show Has (wd.alloc (.cells #[.int .i64 0, .int .i64 0, .int .i64 0, .int .i64 0, .int .i64 0, .int .i64 0] 41)) (blk wd.heap.size #[.int .i64 0, .int .i64 0, .int .i64 0, .int .i64 0, .int .i64 0, .int .i64 0] 41 + MS.all wd) from (Has.all wd).alloc _)
                have EA := hid (Ext.alloc wd (.cells #[.int .i64 0, .int .i64 0, .int .i64 0, .int .i64 0, .int .i64 0, .int .i64 0] 41))
                have J1 := hid (KD.out.trans ⟨fun M hM => hM.of_all HA.out, EA.out⟩)
                generalize wd.heap.size = gm at *
                generalize wd.alloc _ = w1 at *
                refine ⟨fun _ => KA.out w1 J1.out, ?_⟩
                simp only [Act.put, List.setIfInBounds_toArray, List.set_cons_zero, List.set_cons_succ]
                refine tree_op rfl rfl ?_
                refine op_call 21 #[.agg #[.int .i64 xa, .int .i64 xb, .int .i64 xc, .int .i64 xd, .int .i64 xe, .int .i64 xf], .agg #[.int .i64 ya, .int .i64 yb, .int .i64 yc, .int .i64 yd, .int .i64 ye, .int .i64 yf]] w1 (by go_simp) _ (Ht2.out w1) ?_
                rintro e1 w2b ⟨rfl, k1⟩
                have J2 := hid (J1.out.trans k1)
                have HB := hid (k1.1 _ HA.out)
                have EB := hid (EA.out.trans k1.2)
                refine ⟨_, rfl, fun _ => KA.out w2b J2.out, ?_⟩
                clear hS k1
                simp only [Act.put, List.setIfInBounds_toArray, List.set_cons_zero, List.set_cons_succ]
                refine tree_op rfl rfl ?_
                refine op_store_whole (.tmp 10) (.tmp 94) 41 rfl 6 size41 gm (.agg #[.int .i64 ta, .int .i64 tb, .int .i64 tc, .int .i64 td, .int .i64 te, .int .i64 tf]) rfl rfl rfl (by simp [Value.cells, Value.oneCell']) #[.int .i64 0, .int .i64 0, .int .i64 0, .int .i64 0, .int .i64 0, .int .i64 0] 41 _ HB.out rfl ?_
                intro w3 k1 k2
                have H3 := hid (show Has w3 (blk gm #[.int .i64 ta, .int .i64 tb, .int .i64 tc, .int .i64 td, .int .i64 te, .int .i64 tf] 41 + MS.all wd) from k1)
                have J3 := hid (show Kp wb w3 from KD.out.trans ⟨fun M hM => hM.of_all H3.out, EB.out.trans k2⟩)
                clear k1 k2
                refine ⟨fun _ => KA.out w3 J3.out, ?_⟩
                simp only [Act.put, List.setIfInBounds_toArray, List.set_cons_zero, List.set_cons_succ]
                refine tree_done ?_
                have q0 : w3.cell? ⟨gm, 0, none⟩ = some (.int .i64 ta) := H3.out.at_ rfl
                have q1 : w3.cell? ⟨gm, 1, none⟩ = some (.int .i64 tb) := H3.out.at_ rfl
                have q2 : w3.cell? ⟨gm, 2, none⟩ = some (.int .i64 tc) := H3.out.at_ rfl
                have q3 : w3.cell? ⟨gm, 3, none⟩ = some (.int .i64 td) := H3.out.at_ rfl
                have q4 : w3.cell? ⟨gm, 4, none⟩ = some (.int .i64 te) := H3.out.at_ rfl
                have q5 : w3.cell? ⟨gm, 5, none⟩ = some (.int .i64 tf) := H3.out.at_ rfl
                obtain ⟨g0, g1, g2⟩ := HWB.out w3 J3.out
                cases z with
                | true =>
                  go_wp2_with (go_at_call 22; refine (Hi3.out _ (HWX.out _ J3.out)).mono ?_; rintro e4 w4 ⟨rfl, k4⟩; have J4 := hid (J3.out.trans k4); clear k4)
                  go_roundw
                  case rel => exact ⟨k + 1, Hlk.out, by go_num, by rw [Hsu.out, Bool.true_or], J4.out⟩
                  case measure => have := Hlk.out; simp [intOf]; omega
                | false =>
                  go_wp2_with (first
                    | (go_at_call 23; refine (Hki2.out _).mono ?_; rintro e5 w5 ⟨rfl, k5⟩; have J5 := hid (J4.out.trans k5); clear k5)
                    | (go_at_call 22; refine (Hi3.out _ (HWX.out _ J3.out)).mono ?_; rintro e4 w4 ⟨rfl, k4⟩; have J4 := hid (J3.out.trans k4); have H4 := hid (k4.1 _ H3.out); have r0 : w4.cell? ⟨gm, 0, none⟩ = some (.int .i64 ta) := H4.out.at_ rfl; have r1 : w4.cell? ⟨gm, 1, none⟩ = some (.int .i64 tb) := H4.out.at_ rfl; have r2 : w4.cell? ⟨gm, 2, none⟩ = some (.int .i64 tc) := H4.out.at_ rfl; have r3 : w4.cell? ⟨gm, 3, none⟩ = some (.int .i64 td) := H4.out.at_ rfl; have r4 : w4.cell? ⟨gm, 4, none⟩ = some (.int .i64 te) := H4.out.at_ rfl; have r5 : w4.cell? ⟨gm, 5, none⟩ = some (.int .i64 tf) := H4.out.at_ rfl; clear k4))
                  go_roundw
                  case rel => exact ⟨k + 1, Hlk.out, by go_num, by rw [Hsu.out, Bool.false_or], J5.out⟩
                  case measure => have := Hlk.out; simp [intOf]; omega
            · have hke : k = N := by omega
              have hall : (l.take k).any bk = true := by rw [hke, HN.out, List.take_length]; exact Hbk.out
              rw [hall]
              subst hke
              clear hlk hk hall
              obtain ⟨c0, c1, c2, c3, c4, c5⟩ := Hcx.out wr (HWX.out wr HK2.out)
              go_wp2_with (first
                | (go_at_call 25; refine (floored_any (rd_all_str Hrd.out (HWF.out _ J6.out)) (rd_all_str Hr6.out HX6.out) Hp.out Hq1.out (Has.all _) Hq2.out).mono ?_; rintro e7 w7 ⟨rfl, n7, rfl⟩; have J7 := hid (Kp.drewN J6.out n7))
                | (go_at_call 24; refine (Hao2.out _ (HWF.out _ HK2.out)).mono ?_; rintro e6 w6 ⟨A6, c6, X6, rfl, k6, hX6, hr6⟩; have J6 := hid (HK2.out.trans k6); have HX6 := hid hX6; have Hr6 := hid hr6; clear k6 hX6 hr6))
              go_roundw
              case rel => exact ⟨i + 1, Hlt.out, by go_num, J7.out⟩
              case measure => have := Hlt.out; simp [intOf]; omega
        · have hie : i = N := by omega
          subst hie
          clear hlt hi
          go_wp2_with (go_at_call 9; refine (Hal.out _ (HWF.out _ HK.out)).mono ?_; rintro e8 w8 ⟨rfl, k8⟩; have J8 := hid (HK.out.trans k8); clear k8)
          go_ret
          exact ⟨rfl, HWF.out _ J8.out, K3.out.2.trans J8.out.2⟩
end Go.Proofs.YteibbnmlmbhkpaaDoor

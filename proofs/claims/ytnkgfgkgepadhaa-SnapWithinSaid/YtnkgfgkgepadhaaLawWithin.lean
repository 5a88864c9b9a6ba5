/-
  The walk of SnapWithin.
-/
import Derived.Test.YtnkgfgkgepadhaaLawKeeps
import Derived.Test.YtnkgfgkgepadhaaHistC
import Derived.Test.YtnkgfgkgepadhaaRepW
namespace Go.Proofs.Ytnkgfgkgepadhaa
open Go.RowKit
set_option linter.unusedVariables false
set_option linter.unusedSimpArgs false

set_option maxHeartbeats 4000000 in
set_option maxRecDepth 100000 in
theorem within_any {F : MS} {l : List Int} {A : Option Addr} {c : Nat} {w : World} {L : List ActD} {A2 : Option Addr} {c2 : Nat} (h : RdS F RT.int l (.slice A l.length c)) (hL : RdS F RT.act L (.slice A2 L.length c2)) (hH : Has w F)
    (hl : l.length ≤ 20) (hLl : L.length ≤ 60) (hn : newOk l) (hlaw : ∀ t, t < ((Net.new l).acts L).shots.length → (((Net.new l).acts L).X t).fin ((Net.new l).acts L).n = true → Done (Net.new l) ((Net.new l).acts L) t ∧ conR l.length ((Net.new l).acts L).evs (((Net.new l).acts L).X t).cut = (true, 0)) :
    Calls Try.prog 13 #[.slice A l.length c, .slice A2 L.length c2] w (LawPost w F) := by
  obtain ⟨n2, n5, hbad⟩ := id hn
  have Ha := hid (after_net h hH hn hL (by omega))
  have HK := hid ((KI.new hn).acts L)
  have HE := hid (EvsOk.acts L (EvsOk.new l) (NetOk.new hn)).1
  have Hn := hid (show ((Net.new l).acts L).n = l.length by rw [((EI.new hn).1.acts L).2, (EI.new hn).2])
  have Hp := hid h
  have Hno := hid hn
  have Hlaw := hid hlaw
  have t1 : ¬ (20 : Int) < l.length := by omega
  have t2 : ¬ (60 : Int) < L.length := by omega
  clear h hL hH hl hLl hn hbad hlaw
  generalize (Net.new l).acts L = σ at *
  have hc5 : ∀ e ∈ σ.evs, e.clock.length ≤ 5 := fun e he => by rw [(HE.out e he).cl, Hn.out]; exact n5
  have Hc5 := hid hc5
  clear hc5
  have Hst := hid (show ∀ i, i < σ.evs.length → ∃ k : Nat, k < l.length ∧ (σ.evs.getD i dfEv).station = k from fun i hi => by
    obtain ⟨k, h1, h2⟩ := (HE.out _ (getD_mem hi)).st
    exact ⟨k, by rw [← Hn.out]; exact h2, h1⟩)
  go_enter Try.func13, Try.ntmps13
  go_wp2_with (first
    | (go_at_call 15; refine Ha.out.mono ?_; rintro e w1 ⟨b, rfl, k1, k2⟩; have K1 := hid k1; have E1 := hid k2; clear k1 k2)
    | (go_at_call 18; refine (events_net K1.out Hc5.out).mono ?_; rintro e w2 ⟨A3, c3, m3, rfl, _, k1, k2, k3⟩; have R3 := hid k1; have K2 := hid k2; have E2 := hid (E1.out.trans k3); clear k1 k2 k3))
  go_loopw [8] (fun v wr => ∃ t : Nat, t ≤ 8 ∧ v = .int .i64 (t + 1) ∧ NetAt 0 (m3 + F) σ b wr ∧ Ext w wr) (fun v _ => 9 - (intOf v).toNat)
  case atStart => exact ⟨0, by omega, rfl, K2.out, E2.out⟩
  case round =>
    obtain ⟨t, ht, rfl, hA, hE⟩ := hrel
    have HA := hid hA
    have HEr := hid hE
    clear hA hE K1 K2 E1 E2
    by_cases hlt : t < 8
    · have Hlt := hid hlt
      rcases snapErr_dec (σ := σ) t with he | ⟨he, htl, hf⟩
      · -- no snapshot that is done
        have He := hid he
        have he2 : (σ.snapErr (t + 1) != 0) = true := by simp [he]
        clear he
        generalize hse : σ.snapErr (t + 1) = se at *
        have Hse := hid hse
        clear hse
        go_wp2_with (first
          | (go_at_call 21; refine (snapshot_none HA.out (t + 1) (by rw [Hse.out]; exact He.out)).mono ?_; rintro e w5 ⟨rfl, k1, k2⟩; rw [Hse.out]; have K5 := hid (HA.out.keep k1); have E5 := hid k2; clear k1 k2)
          | (go_at_call 22; refine (cut_none (K5.out.alloc _) (t + 1) (by rw [Hse.out]; exact He.out)).mono ?_; rintro e w6 ⟨rfl, rfl⟩; rw [Hse.out]))
        go_roundw
        case rel => exact ⟨t + 1, Hlt.out, by go_num, (K5.out.alloc _).beside, (HEr.out.trans E5.out).trans (Ext.alloc _ _)⟩
        case measure => have := Hlt.out; simp [intOf]; omega
      · -- a snapshot that is done
        have d := HK.out.ok.dim htl
        obtain ⟨hb1, hb2⟩ := keeps_bounds HK.out htl
        obtain ⟨hD, hcon⟩ := Hlaw.out t htl hf
        obtain ⟨ρ, hrp, hρok, hρn, hρp, hρu⟩ := hD.net
        have hu0 := hD.u
        have Hsnap := hid (snapshot_net HA.out htl he)
        have Hcut := hid (fun (G : MS) (W : World) (hW : NetAt 0 G σ b W) => cut_net hW htl he)
        have Hn' := Hn.out
        have hdp := d.p
        have hdu := d.u
        have hdt := d.t
        rw [Hn'] at hdp hdu hdt hρn hρu
        have Hu := hid (show UndOk (σ.X t).under from ⟨by omega, hb2⟩)
        have Huu := hid (show ∀ i, i < l.length → ((σ.X t).under.getD i []).length = l.length from fun i hi => by rw [d.uu i (by rw [Hn']; exact hi), Hn'])
        have Hrp := hid (show rpN (Net.new l) σ.evs (wIn (σ.X t).cut σ.evs) σ.evs.length = some ρ from hrp)
        have Hru := hid (show ∀ a b, a < l.length → b < l.length → (ρ.lineAt a b).map Msg.told = ((σ.X t).under.getD a []).getD b [] from hρu)
        have Hu0 := hid (show ∀ a, ((σ.X t).under.getD a []).getD a [] = [] from hu0)
        have Hrn := hid hρn
        have Hrpc := hid hρp
        have Hcon := hid hcon
        clear he htl hf d hb1 hb2 Hn' hD hrp hρok hρn hρp hρu hu0 hcon
        generalize (σ.X t).pieces = xp at *
        generalize (σ.X t).under = xu at *
        generalize (σ.X t).cut = xc at *
        rw [hdp, hdu] at Hsnap
        rw [hdt] at Hcut
        have Hdp := hid hdp
        have Hdu := hid hdu
        have Hdt := hid hdt
        clear hdp hdu hdt
        go_wp2_with (first
          | (go_at_call 21; refine Hsnap.out.mono ?_; rintro e w5 ⟨A5, c5, A6, c6, m5, m6, rfl, k1, k2, k3, k4⟩; have R5 := hid k1.rdS; have R6 := hid k2.rdS; have K5 := hid k3; have E5 := hid (HEr.out.trans k4); clear k1 k2 k3 k4)
          | (go_at_call 22; refine (Hcut.out _ _ (K5.out.alloc _)).mono ?_; rintro e w6 ⟨A7, c7, m7, rfl, k1, k2, k3⟩; have R7 := hid k1.rdS; have E6 := hid ((E5.out.trans (Ext.alloc _ _)).trans k3);
             obtain ⟨Z, hZ, hback⟩ := k2.hold;
             obtain ⟨gs, hgs⟩ : ∃ gs, gs = w5.heap.size := ⟨_, rfl⟩;
             rw [← hgs] at hZ ⊢;
             obtain ⟨G, hG⟩ : ∃ G, G = Z + (m7 + (pts gs (.cells #[.slice A5 l.length c5, .slice A6 l.length c6] 38) + (m5 + (m6 + (m3 + F))))) := ⟨_, rfl⟩;
             have HG := hid (show Has w6 G by rw [hG]; exact hZ);
             have HB := hid (show ∀ W, Has W G → NetAt 0 (m3 + F) σ b W from fun W h => (hback _ W (by rw [hG] at h; exact h)).beside.beside.beside.beside);
             have RE := hid (show RdS G RT.ev σ.evs (.slice A3 σ.evs.length c3) by rw [hG]; exact (((((R3.out.less F).more m6).more m5).more _).more m7).more Z);
             have RC := hid (show RdS G RT.int xc (.slice A7 l.length c7) by rw [hG]; exact (R7.out.less _).more Z);
             have RL := hid (show RdS G RT.int l (.slice A l.length c) by rw [hG]; exact (((((Hp.out.more m3).more m6).more m5).more _).more m7).more Z);
             have RP := hid (show RdS G RT.int xp (.slice A5 l.length c5) by rw [hG]; exact (((R5.out.less (m6 + (m3 + F))).more _).more m7).more Z);
             have RU := hid (show RdS G (RT.sl (RT.sl RT.int)) xu (.slice A6 l.length c6) by rw [hG]; exact ((((R6.out.less (m3 + F)).more m5).more _).more m7).more Z);
             have F0 := hid (show G.at gs 0 (.slice A5 l.length c5) by rw [hG]; exact (((blk_at (cs := #[.slice A5 l.length c5, .slice A6 l.length c6]) (e := 38) rfl).less _).more m7).more Z);
             have F1 := hid (show G.at gs 1 (.slice A6 l.length c6) by rw [hG]; exact (((blk_at (cs := #[.slice A5 l.length c5, .slice A6 l.length c6]) (e := 38) rfl).less _).more m7).more Z);
             clear hG hZ hback hgs k1 k2 k3 K5 R5 R6 R7)
          | (go_at_call 37; refine (consistent_any RE.out RC.out HG.out (n := l.length)).mono ?_; rintro e w7 ⟨rfl, k1, k2⟩; rw [Hcon.out]; have K7 := hid (k1 G HG.out); have E7 := hid (E6.out.trans k2); clear k1 k2)
          | (go_at_call 48; refine (by have := replayed_net RL.out RE.out (by rw [Hdt.out]; exact RC.out) K7.out Hno.out Hdt.out Hst.out Hrp.out HK.out.ok.evs; rw [Hdt.out] at this; exact this : Calls Try.prog 48 _ _ _).mono ?_; rintro e w8 ⟨bx, rfl, k1, k2⟩; have K8 := hid k1; have E8 := hid (E7.out.trans k2); clear k1 k2))
        have keep : ∀ W, Has W G → W.cell? ⟨gs, 0, none⟩ = some (.slice A5 l.length c5) ∧ W.cell? ⟨gs, 1, none⟩ = some (.slice A6 l.length c6) := fun W h => ⟨F0.out.c0 h, F1.out.c0 h⟩
        have Keep := hid keep
        have hS := keep w8.drew K8.out.drew.has
        have Hsl := hid (show ρ.sta.length = l.length from Hrn.out)
        clear keep
        refine wp_region_txt (fun W => W.cell? ⟨gs, 0, none⟩ = some (.slice A5 l.length c5) ∧ W.cell? ⟨gs, 1, none⟩ = some (.slice A6 l.length c6)) none
          [(0, true), (1, true), (2, true), (3, true), (5, true), (6, true), (4, false), (7, false), (8, true), (9, true), (10, true), (11, true), (12, true), (13, true), (14, true), (15, true), (16, true)] (by kernel_rfl) rfl (by kernel_rfl) (by kernel_rfl) (by repeat (first | with_reducible refine PanicOk.thn ?_ | with_reducible refine PanicOk.blk ?_ | exact PanicOk.body _ _ _)) ?_
        repeat
          (refine txt_quiet ?_ hS rfl rfl (fun W hW => ?_) ?_
           rotate_left 1
           · obtain ⟨hW1, hW2⟩ := hW
             go_simp
             exact rfl
           simp only [Act.put, List.setIfInBounds_toArray, List.set_cons_zero, List.set_cons_succ])
        refine txt_op rfl rfl ?_
        refine op_call 47 _ _ (by go_simp) _ (pieces_net K8.out.drew) ?_
        rintro e w9 ⟨A9, c9, m9, rfl, k1, k2, k3⟩
        rw [Hsl.out] at k1 ⊢
        rw [Hrpc.out] at k1
        have P1 := hid k1.rdS
        have P2 := hid k2
        have P3 := hid ((E8.out.trans (Ext.drew _)).trans k3)
        have hS2 := Keep.out w9 P2.out.beside.has
        refine ⟨_, rfl, fun _ => hS2, ?_⟩
        simp only [Act.put, List.setIfInBounds_toArray, List.set_cons_zero, List.set_cons_succ]
        clear hS k1 k2 k3
        refine txt_op rfl rfl ?_
        refine op_call 30 _ _ (by go_simp) _ (numbers_any (P1.out.less G) (RP.out.more m9) P2.out.has (by rw [Hdp.out]; omega) (by rw [Hdp.out]; omega)) ?_
        rintro e w10 ⟨rfl, k1, k2⟩
        rw [numEq_self]
        have Q1 := hid (P2.out.keep k1).beside
        have Q2 := hid (P3.out.trans k2)
        have hS3 := Keep.out w10 Q1.out.has
        refine ⟨_, rfl, fun _ => hS3, ?_⟩
        simp only [Act.put, List.setIfInBounds_toArray, List.set_cons_zero, List.set_cons_succ]
        clear hS2 k1 k2
        repeat
          (refine txt_quiet ?_ hS3 rfl rfl (fun W hW => ?_) ?_
           rotate_left 1
           · obtain ⟨hW1, hW2⟩ := hW
             go_simp
             exact rfl
           simp only [Act.put, List.setIfInBounds_toArray, List.set_cons_zero, List.set_cons_succ])
        refine txt_done ?_
        clear hS3
        go_wp2
        go_loopw [16] (fun v wr => ∃ i : Nat, i ≤ l.length ∧ v = .int .i64 i ∧ NetAt 0 G ρ bx wr ∧ Ext w wr) (fun v _ => l.length - (intOf v).toNat)
        case atStart => exact ⟨0, Nat.zero_le _, rfl, Q1.out, Q2.out⟩
        case round =>
          obtain ⟨i, hi, rfl, hN, hE⟩ := hrel
          have HNi := hid hN
          have HEi := hid hE
          clear hN hE Q1 Q2
          by_cases hil : i < l.length
          · have Hil := hid hil
            have hilI : (i : Int) < l.length := by omega
            have hilI0 : (0 : Int) ≤ (i : Int) := by omega
            obtain ⟨r, hr⟩ : ∃ r, xu[i]? = some r := ⟨_, List.getElem?_eq_getElem (by rw [Hdu.out]; exact hil)⟩
            have hrm := List.mem_of_getElem? hr
            have hrl : r.length = l.length := by have := Huu.out i hil; rw [getD_some hr] at this; exact this
            have hrg : xu.getD i [] = r := getD_some hr _
            obtain ⟨b1, o1, Ar, cr, hA6, e1, k2, _⟩ := RU.out.getSl hr
            subst hA6
            rw [hrl] at e1 k2
            have K2r := hid k2
            have Hrl := hid hrl
            have Hrm := hid hrm
            have He1 := hid e1
            have Hrg := hid hrg
            clear hr hrm hrl hrg e1 k2
            go_wp2
            go_loopw [17] (fun v wr => ∃ j : Nat, j ≤ l.length ∧ v = .int .i64 j ∧ NetAt 0 G ρ bx wr ∧ Ext w wr) (fun v _ => l.length - (intOf v).toNat)
            case atStart => exact ⟨0, Nat.zero_le _, rfl, HNi.out, HEi.out⟩
            case round =>
              obtain ⟨j, hj, rfl, hN, hE⟩ := hrel
              have HNj := hid hN
              have HEj := hid hE
              clear hN hE HNi HEi
              by_cases hjl : j < l.length
              · have Hjl := hid hjl
                have hjlI : (j : Int) < l.length := by omega
                have hjlI0 : (0 : Int) ≤ (j : Int) := by omega
                obtain ⟨q, hq⟩ : ∃ q, r[j]? = some q := ⟨_, List.getElem?_eq_getElem (by rw [Hrl.out]; exact hjl)⟩
                have hqm := List.mem_of_getElem? hq
                have hqo := ((Hu.out.r r Hrm.out).2 q hqm).1
                have hqg : r.getD j [] = q := getD_some hq _
                obtain ⟨b2, o2, Aq, cq, hAr, e2, k3, _⟩ := K2r.out.getSl hq
                subst hAr
                have K3q := hid k3
                have He2 := hid e2
                have keep2 : ∀ W, Has W G → W.cell? ⟨gs, 1, none⟩ = some (.slice (some ⟨b1, o1, none⟩) l.length c6) ∧ W.cell? ⟨b1, o1 + i, none⟩ = some (.slice (some ⟨b2, o2, none⟩) l.length cr) ∧ W.cell? ⟨b2, o2 + j, none⟩ = some (.slice Aq q.length cq) := fun W h => ⟨F1.out.c0 h, He1.out.c0 h, He2.out.c0 h⟩
                have Keep2 := hid keep2
                obtain ⟨g1, g2, g3⟩ := keep2 wr HNj.out.has
                have Hqo := hid hqo
                clear hq hqm k3 e2 keep2 hqo hjl
                by_cases hij : i = j
                · have hq0 : q = [] := by rw [← hqg, ← Hrg.out, ← hij]; exact Hu0.out i
                  subst hij
                  have Hq0 := hid hq0
                  have Hw := hid (waiting_none HNj.out (i : Int) (i : Int) (pairErr_eq (by simp)))
                  clear hq0 hqg
                  go_wp2_with (first
                    | (go_at_call 28; refine Hw.out.mono ?_; rintro e w11 ⟨rfl, rfl⟩)
                    | (go_at_call 30; refine (numbers_any (RdS.nil G RT.int) K3q.out HNj.out.has (by simp) (by have := Hqo.out; omega)).mono ?_; rintro e w12 ⟨rfl, k1, k2⟩; rw [Hq0.out, numEq_self]; have T1 := hid (HNj.out.keep k1); have T2 := hid (HEj.out.trans k2); clear k1 k2))
                  go_roundw
                  case rel => exact ⟨i + 1, Hjl.out, by go_num, T1.out, T2.out⟩
                  case measure => have := Hjl.out; simp [intOf]; omega
                · have Hw := hid (waiting_net HNj.out (i := i) (j := j) (by rw [Hrn.out]; exact Hil.out) (by rw [Hrn.out]; exact Hjl.out) hij)
                  have Hlq := hid (show (ρ.lineAt i j).map Msg.told = q by rw [Hru.out i j Hil.out Hjl.out, Hrg.out, hqg])
                  rw [Hlq.out] at Hw
                  have hlen : (ρ.lineAt i j).length = q.length := by rw [← Hlq.out, List.length_map]
                  rw [hlen] at Hw
                  clear hlen hij hqg
                  go_wp2_with (first
                    | (go_at_call 28; refine Hw.out.mono ?_; rintro e w11 ⟨Aw, cw, mw, rfl, k1, k2, k3⟩; have T1 := hid k1.rdS; have T2 := hid k2; have T3 := hid (HEj.out.trans k3); clear g1 g2 g3; obtain ⟨g1, g2, g3⟩ := Keep2.out w11 T2.out.beside.has; clear k1 k2 k3)
                    | (go_at_call 30; refine (numbers_any (T1.out.less G) (K3q.out.more mw) T2.out.has (by have := Hqo.out; omega) (by have := Hqo.out; omega)).mono ?_; rintro e w12 ⟨rfl, k1, k2⟩; rw [numEq_self]; have T4 := hid (T2.out.keep k1).beside; have T5 := hid (T3.out.trans k2); clear k1 k2))
                  go_roundw
                  case rel => exact ⟨j + 1, Hjl.out, by go_num, T4.out, T5.out⟩
                  case measure => have := Hjl.out; simp [intOf]; omega
              · obtain rfl : j = l.length := by omega
                go_wp2
                go_roundw
                case rel => exact ⟨i + 1, Hil.out, by go_num, HNj.out, HEj.out⟩
                case measure => have := Hil.out; simp [intOf]; omega
          · obtain rfl : i = l.length := by omega
            go_wp2
            go_roundw
            case rel => exact ⟨t + 1, Hlt.out, by go_num, HB.out _ HNi.out.has, HEi.out⟩
            case measure => have := Hlt.out; simp [intOf]; omega
    · obtain rfl : t = 8 := by omega
      go_wp2_with (go_at_call 14; refine (alive_any _).mono ?_; rintro e w9 ⟨rfl, k1, k2⟩)
      go_ret
      exact ⟨rfl, k1 _ HA.out.beside.has, HEr.out.trans k2⟩

theorem within_all {F : MS} {l : List Int} {A : Option Addr} {n c : Nat} {w : World} {L : List ActD} {A2 : Option Addr} {n2 c2 : Nat} (h : RdS F RT.int l (.slice A n c)) (hL : RdS F RT.act L (.slice A2 n2 c2)) (hH : Has w F)
    (hlaw : newOk l → L.length ≤ 60 → ∀ t, t < ((Net.new l).acts L).shots.length → (((Net.new l).acts L).X t).fin ((Net.new l).acts L).n = true → Done (Net.new l) ((Net.new l).acts L) t ∧ conR l.length ((Net.new l).acts L).evs (((Net.new l).acts L).X t).cut = (true, 0)) :
    Calls Try.prog 13 #[.slice A n c, .slice A2 n2 c2] w (LawPost w F) := by
  obtain ⟨rfl, hc1, hc2, _⟩ := h.cells
  obtain ⟨rfl, hc3, hc4, _⟩ := hL.cells
  by_cases h1 : (20 : Int) < l.length
  · have HH := hid hH
    have q1 : (l.length : Int) ≤ 9223372036854775807 := by unfold maxLen at hc2; omega
    clear h hL hH hc1 hc2 hc3 hc4 hlaw
    go_enter Try.func13, Try.ntmps13
    go_wp2_with (go_at_call 14; refine (alive_any _).mono ?_; rintro e w1 ⟨rfl, k1, k2⟩)
    go_ret
    exact ⟨rfl, k1 _ HH.out, k2⟩
  · by_cases h2 : (60 : Int) < L.length
    · have HH := hid hH
      have q1 : (L.length : Int) ≤ 9223372036854775807 := by unfold maxLen at hc4; omega
      clear h hL hH hc1 hc2 hc3 hc4 hlaw
      go_enter Try.func13, Try.ntmps13
      go_wp2_with (go_at_call 14; refine (alive_any _).mono ?_; rintro e w1 ⟨rfl, k1, k2⟩)
      go_ret
      exact ⟨rfl, k1 _ HH.out, k2⟩
    · by_cases hn : newOk l
      · exact within_any h hL hH (by omega) (by omega) hn (hlaw hn (by omega))
      · have HH := hid hH
        have Ha := hid (after_none (v := .slice A2 L.length c2) h hH hn)
        clear h hL hH hc1 hc2 hc3 hc4 hn hlaw
        go_enter Try.func13, Try.ntmps13
        go_wp2_with (first
          | (go_at_call 15; refine Ha.out.mono ?_; rintro e w' ⟨rfl, rfl⟩)
          | (go_at_call 14; refine (alive_any _).mono ?_; rintro e w1 ⟨rfl, k1, k2⟩))
        go_ret
        exact ⟨rfl, k1 _ HH.out, k2⟩
end Go.Proofs.Ytnkgfgkgepadhaa

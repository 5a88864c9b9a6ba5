/-
  The walk of SnapKeeps.
-/
import Derived.Test.YtnkgfgkgepadhaaKeeps4
import Derived.Test.YtnkgfgkgepadhaaLawEnds
namespace Go.Proofs.Ytnkgfgkgepadhaa
open Go.RowKit
set_option linter.unusedVariables false
set_option linter.unusedSimpArgs false

theorem isum_take_bound {B : Int} (hB : 0 ≤ B) {l : List Int} (h : ∀ a ∈ l, 0 ≤ a ∧ a ≤ B) (t : Nat) : 0 ≤ isum (l.take t) ∧ isum (l.take t) ≤ B * l.length := by
  have h1 := isum_bound hB (l := l.take t) fun a ha => h a (List.mem_of_mem_take ha)
  rw [List.length_take] at h1
  have h2 : B * ((min t l.length : Nat) : Int) ≤ B * l.length := Int.mul_le_mul_of_nonneg_left (by omega) hB
  omega
/-- A whole snapshot's numbers. -/
structure UndOk (u : List (List (List Int))) : Prop where
  n : u.length ≤ 5
  r : ∀ r ∈ u, r.length ≤ 5 ∧ ∀ q ∈ r, q.length ≤ 400 ∧ ∀ a ∈ q, 0 ≤ a ∧ a ≤ 1000000
theorem und_q {u : List (List (List Int))} (h : UndOk u) {r : List (List Int)} (hr : r ∈ u) {q : List Int} (hq : q ∈ r) : 0 ≤ isum q ∧ isum q ≤ 400000000 := by
  have h1 := (h.r r hr).2 q hq
  have := isum_bound (B := 1000000) (by omega) h1.2
  omega
theorem und_r {u : List (List (List Int))} (h : UndOk u) {r : List (List Int)} (hr : r ∈ u) (t : Nat) : 0 ≤ isum ((r.map isum).take t) ∧ isum ((r.map isum).take t) ≤ 2000000000 := by
  have h1 := (h.r r hr).1
  have := isum_take_bound (B := 400000000) (by omega) (l := r.map isum) (fun a ha => by
    obtain ⟨q, hq, rfl⟩ := List.mem_map.1 ha
    exact und_q h hr hq) t
  rw [List.length_map] at this
  omega
theorem und_u {u : List (List (List Int))} (h : UndOk u) (t : Nat) : 0 ≤ isum ((u.map fun r => isum (r.map isum)).take t) ∧ isum ((u.map fun r => isum (r.map isum)).take t) ≤ 10000000000 := by
  have h1 := h.n
  have := isum_take_bound (B := 2000000000) (by omega) (l := u.map fun r => isum (r.map isum)) (fun a ha => by
    obtain ⟨r, hr, rfl⟩ := List.mem_map.1 ha
    have := und_r h hr r.length
    rwa [List.take_of_length_le (by simp)] at this) t
  rw [List.length_map] at this
  omega

set_option maxHeartbeats 4000000 in
set_option maxRecDepth 100000 in
theorem keeps_any {F : MS} {l : List Int} {A : Option Addr} {c : Nat} {w : World} {L : List ActD} {A2 : Option Addr} {c2 : Nat} (h : RdS F RT.int l (.slice A l.length c)) (hL : RdS F RT.act L (.slice A2 L.length c2)) (hH : Has w F)
    (hl : l.length ≤ 20) (hLl : L.length ≤ 100) (hn : newOk l) :
    Calls Try.prog 4 #[.slice A l.length c, .slice A2 L.length c2] w (LawPost w F) := by
  obtain ⟨n2, n5, hbad⟩ := id hn
  have Ha := hid (after_net h hH hn hL (by omega))
  have HK := hid ((KI.new hn).acts L)
  have HE := hid (EvsOk.acts L (EvsOk.new l) (NetOk.new hn)).1
  have Hn := hid (show ((Net.new l).acts L).n = l.length by rw [((EI.new hn).1.acts L).2, (EI.new hn).2])
  have Hp := hid h
  have Hlb := hid (show ∀ a ∈ l, 0 ≤ a ∧ a ≤ 1000000 from fun a ha => by
    rw [List.any_eq_false] at hbad
    have := hbad a ha
    simp only [badP, decide_eq_true_eq, not_or] at this
    omega)
  have t1 : ¬ (20 : Int) < l.length := by omega
  have t2 : ¬ (100 : Int) < L.length := by omega
  clear h hL hH hl hLl hn hbad
  generalize (Net.new l).acts L = σ at *
  have hc5 : ∀ e ∈ σ.evs, e.clock.length ≤ 5 := fun e he => by rw [(HE.out e he).cl, Hn.out]; exact n5
  have Hc5 := hid hc5
  clear hc5
  go_enter Try.func4, Try.ntmps4
  go_wp2_with (first
    | (go_at_call 15; refine Ha.out.mono ?_; rintro e w1 ⟨b, rfl, k1, k2⟩; have K1 := hid k1; have E1 := hid k2; clear k1 k2)
    | (go_at_call 18; refine (events_net K1.out Hc5.out).mono ?_; rintro e w2 ⟨A3, c3, m3, rfl, _, k1, k2, k3⟩; have R3 := hid k1; have K2 := hid k2; have E2 := hid k3; clear k1 k2 k3)
    | (go_at_call 19; refine (total_net K2.out).mono ?_; rintro e w3 ⟨rfl, k1, k2⟩; have K3 := hid k1; have E3 := hid k2; clear k1 k2)
    | (go_at_call 20; refine (made_any (ok := fun _ _ => true) (Hp.out.more m3) (R3.out.less F) (.inl ⟨rfl, rfl⟩) K3.out.has n5 Hlb.out HK.out.ok.evs (fun e he => by have := (HE.out e he).st; rw [Hn.out] at this; exact this) (fun e he => by have := (HE.out e he).pc; omega)).mono ?_; rintro e w4 ⟨rfl, k1, k2⟩; rw [← keeps_total HK.out]; have K4 := hid (K3.out.keep k1); have E4 := hid k2; clear k1 k2))
  go_loopw [7] (fun v wr => ∃ t : Nat, t ≤ 8 ∧ v = .int .i64 (t + 1) ∧ NetAt 0 (m3 + F) σ b wr ∧ Ext w wr) (fun v _ => 9 - (intOf v).toNat)
  case atStart => exact ⟨0, by omega, rfl, K4.out, (((E1.out.trans E2.out).trans E3.out).trans E4.out)⟩
  case round =>
    obtain ⟨t, ht, rfl, hA, hE⟩ := hrel
    have HA := hid hA
    have HEr := hid hE
    clear hA hE
    by_cases hlt : t < 8
    · have Hlt := hid hlt
      rcases snapErr_dec (σ := σ) t with he | ⟨he, htl, hf⟩
      · -- no snapshot that is done
        have He := hid he
        have he1 : (σ.snapErr (t + 1) == 0) = false := by simp [he]
        have he2 : (σ.snapErr (t + 1) != 0) = true := by simp [he]
        have he3 : (σ.snapErr (t + 1) != σ.snapErr (t + 1)) = false := by simp
        clear he
        generalize hse : σ.snapErr (t + 1) = se at *
        have Hse := hid hse
        clear hse
        go_wp2_with (first
          | (go_at_call 21; refine (snapshot_none HA.out (t + 1) (by rw [Hse.out]; exact He.out)).mono ?_; rintro e w5 ⟨rfl, k1, k2⟩; rw [Hse.out]; have K5 := hid (HA.out.keep k1); have E5 := hid k2; clear k1 k2)
          | (go_at_call 22; refine (cut_none (K5.out.alloc _) (t + 1) (by rw [Hse.out]; exact He.out)).mono ?_; rintro e w6 ⟨rfl, rfl⟩; rw [Hse.out]))
        go_roundw
        case rel => exact ⟨t + 1, Hlt.out, by go_num, (K5.out.alloc _).beside, (HEr.out.trans E5.out).trans (Ext.alloc _ _)⟩
        case measure => have := Hlt.out; simp [intOf]; omega
      · -- a snapshot that is done
        have d := HK.out.ok.dim htl
        have hks := keeps_shot HK.out htl hf
        obtain ⟨hb1, hb2⟩ := keeps_bounds HK.out htl
        have Hsnap := hid (snapshot_net HA.out htl he)
        have Hcut := hid (fun (G : MS) (W : World) (hW : NetAt 0 G σ b W) => cut_net hW htl he)
        have Hks := hid hks
        have Hn' := Hn.out
        have hdp := d.p
        have hdu := d.u
        have hdt := d.t
        rw [Hn'] at hdp hdu hdt
        have Hu := hid (show UndOk (σ.X t).under from ⟨by omega, hb2⟩)
        have Hpb := hid hb1
        have Huu := hid (show ∀ i, i < l.length → ((σ.X t).under.getD i []).length = l.length from fun i hi => by rw [d.uu i (by rw [Hn']; exact hi), Hn'])
        clear he htl hf d hks hb1 hb2 Hn'
        generalize (σ.X t).pieces = xp at *
        generalize (σ.X t).under = xu at *
        generalize (σ.X t).cut = xc at *
        rw [hdp, hdu] at Hsnap
        rw [hdt] at Hcut
        have Hdp := hid hdp
        have Hdu := hid hdu
        have Hdt := hid hdt
        clear hdp hdu hdt
        go_wp2_with (first
          | (go_at_call 21; refine Hsnap.out.mono ?_; rintro e w5 ⟨A5, c5, A6, c6, m5, m6, rfl, k1, k2, k3, k4⟩; have R5 := hid k1.rdS; have R6 := hid k2.rdS; have K5 := hid k3; have E5 := hid k4; clear k1 k2 k3 k4)
          | (go_at_call 22; refine (Hcut.out _ _ (K5.out.alloc _)).mono ?_; rintro e w6 ⟨A7, c7, m7, rfl, k1, k2, k3⟩; have R7 := hid k1.rdS; have K6 := hid k2; have E6 := hid k3; clear k1 k2 k3; have f0 : w6.cell? ⟨w5.heap.size, 0, none⟩ = some (.slice A5 l.length c5) := MS.at.cell (X := m7) ((blk_at (cs := #[.slice A5 l.length c5, .slice A6 l.length c6]) (e := 38) rfl).less _) K6.out.has; have f1 : w6.cell? ⟨w5.heap.size, 1, none⟩ = some (.slice A6 l.length c6) := MS.at.cell (X := m7) ((blk_at (cs := #[.slice A5 l.length c5, .slice A6 l.length c6]) (e := 38) rfl).less _) K6.out.has)
          | (go_at_call 23; refine (sum_any (((R5.out.less (m6 + (m3 + F))).more _).more m7) K6.out.has (by rw [Hdp.out]; omega) (fun a ha => by have := Hpb.out a ha; omega)).mono ?_; rintro e w7 ⟨rfl, rfl⟩))
        have hsp := isum_bound (B := 1000000000) (by omega) Hpb.out
        rw [Hdp.out] at hsp
        have hsp1 : 0 ≤ isum xp := hsp.1
        have hsp2 : isum xp ≤ 5000000000 := by omega
        clear hsp
        have HKs := hid (show isum xp + isum (xu.map fun r => isum (r.map isum)) = isum l + madeL (okCut xc) σ.evs from Hks.out)
        generalize hSP : isum xp = SP at *
        clear hSP
        go_loop [12, 13] (fun vs v => ∃ i : Nat, i ≤ l.length ∧ v = .int .i64 i ∧ vs = .int .i64 (SP + isum ((xu.map fun r => isum (r.map isum)).take i))) (fun _ v => l.length - (intOf v).toNat)
        case atStart => exact ⟨0, Nat.zero_le _, rfl, by simp [isum]⟩
        case round =>
          obtain ⟨i, hi, rfl, rfl⟩ := hrel
          obtain ⟨hu1, hu2⟩ := und_u Hu.out i
          by_cases hil : i < l.length
          · obtain ⟨r, hr⟩ : ∃ r, xu[i]? = some r := ⟨_, List.getElem?_eq_getElem (by rw [Hdu.out]; exact hil)⟩
            have hrm := List.mem_of_getElem? hr
            have hrl : r.length = l.length := by have := Huu.out i hil; rw [getD_some hr] at this; exact this
            obtain ⟨b1, o1, Ar, cr, hA6, e1, k2, _⟩ := R6.out.getSl hr
            subst hA6
            have g1 := MS.at.cell (X := m7) (((e1.less (m3 + F)).more m5).more (pts w5.heap.size (.cells #[.slice A5 l.length c5, .slice (some ⟨b1, o1, none⟩) l.length c6] 38))) K6.out.has
            rw [hrl] at g1 k2
            have K2r := hid k2
            have Hrl := hid hrl
            have Hrm := hid hrm
            have Hm := hid (show isum ((xu.map fun r => isum (r.map isum)).take (i + 1)) = isum ((xu.map fun r => isum (r.map isum)).take i) + isum (r.map isum) by rw [take_more (a := isum (r.map isum)) (by simp [hr]), isum_snoc])
            have Hil := hid hil
            have hilI : (i : Int) < l.length := by omega
            have hilI0 : (0 : Int) ≤ (i : Int) := by omega
            clear hr hrm hrl e1 k2
            generalize isum ((xu.map fun r => isum (r.map isum)).take i) = S1 at *
            go_wp2
            go_loop [12, 14] (fun vs v => ∃ j : Nat, j ≤ l.length ∧ v = .int .i64 j ∧ vs = .int .i64 (SP + S1 + isum ((r.map isum).take j))) (fun _ v => l.length - (intOf v).toNat)
            case atStart => exact ⟨0, Nat.zero_le _, rfl, by simp [isum]⟩
            case round =>
              obtain ⟨j, hj, rfl, rfl⟩ := hrel
              obtain ⟨hr1, hr2⟩ := und_r Hu.out Hrm.out j
              by_cases hjl : j < l.length
              · obtain ⟨q, hq⟩ : ∃ q, r[j]? = some q := ⟨_, List.getElem?_eq_getElem (by rw [Hrl.out]; exact hjl)⟩
                have hqm := List.mem_of_getElem? hq
                obtain ⟨b2, o2, Aq, cq, hAr, e2, k3, _⟩ := K2r.out.getSl hq
                subst hAr
                have g2 := MS.at.cell (X := m7) (((e2.less (m3 + F)).more m5).more (pts w5.heap.size (.cells #[.slice A5 l.length c5, .slice (some ⟨b1, o1, none⟩) l.length c6] 38))) K6.out.has
                have hqo := (Hu.out.r r Hrm.out).2 q hqm
                obtain ⟨hq1, hq2⟩ := und_q Hu.out Hrm.out hqm
                have Hs := hid (sum_any ((((k3.less (m3 + F)).more m5).more (pts w5.heap.size (.cells #[.slice A5 l.length c5, .slice (some ⟨b1, o1, none⟩) l.length c6] 38))).more m7) K6.out.has (by omega) (fun a ha => by have := hqo.2 a ha; omega))
                have Hm2 := hid (show isum ((r.map isum).take (j + 1)) = isum ((r.map isum).take j) + isum q by rw [take_more (a := isum q) (by simp [hq]), isum_snoc])
                have Hjl := hid hjl
                have hjlI : (j : Int) < l.length := by omega
                have hjlI0 : (0 : Int) ≤ (j : Int) := by omega
                clear hq hqm e2 k3 hqo
                generalize isum ((r.map isum).take j) = S2 at *
                generalize isum q = S3 at *
                go_wp2_with (go_at_call 23; refine Hs.out.mono ?_; rintro e w7 ⟨rfl, rfl⟩)
                go_round
                case rel => exact ⟨j + 1, Hjl.out, by go_num, by rw [Hm2.out]; go_num⟩
                case measure => have := Hjl.out; simp [intOf]; omega
              · obtain rfl : j = l.length := by omega
                have Hfin := hid (show isum ((r.map isum).take l.length) = isum (r.map isum) by rw [List.take_of_length_le (by simp; have := Hrl.out; omega)])
                rw [Hfin.out]
                go_wp2
                go_round
                case rel => exact ⟨i + 1, Hil.out, by go_num, by rw [Hm.out]; go_num⟩
                case measure => have := Hil.out; simp [intOf]; omega
          · obtain rfl : i = l.length := by omega
            have Hfin := hid (show SP + isum ((xu.map fun r => isum (r.map isum)).take l.length) = isum l + madeL (okCut xc) σ.evs by rw [List.take_of_length_le (by simp; have := Hdu.out; omega)]; exact HKs.out)
            rw [Hfin.out]
            obtain ⟨A7', hA7⟩ : ∃ a, A7 = some a := by
              have h7 := R7.out
              obtain ⟨x, hx⟩ : ∃ x, xc[0]? = some x := ⟨_, List.getElem?_eq_getElem (by rw [Hdt.out]; omega)⟩
              obtain ⟨b9, o9, h9, _⟩ := h7.getInt hx
              exact ⟨_, h9⟩
            subst hA7
            have Hmade := hid (made_any (ok := okCut xc) (v := .slice (some A7') l.length c7) (((((Hp.out.more m3).more m6).more m5).more (pts w5.heap.size (.cells #[.slice A5 l.length c5, .slice A6 l.length c6] 38))).more m7)
              (((((R3.out.less F).more m6).more m5).more (pts w5.heap.size (.cells #[.slice A5 l.length c5, .slice A6 l.length c6] 38))).more m7) (.inr ⟨xc, A7', c7, rfl, Hdt.out, R7.out.less _, rfl⟩) K6.out.has n5 Hlb.out HK.out.ok.evs (fun e he => by have := (HE.out e he).st; rw [Hn.out] at this; exact this) (fun e he => by have := (HE.out e he).pc; omega))
            clear hu1 hu2
            generalize isum l + madeL (okCut xc) σ.evs = V at *
            go_wp2_with (go_at_call 20; refine Hmade.out.mono ?_; rintro e w8 ⟨rfl, k1, k2⟩; have K8 := hid (K6.out.keep k1); have E8 := hid k2; clear k1 k2)
            go_roundw
            case rel => exact ⟨t + 1, Hlt.out, by go_num, K8.out.beside.beside.beside.beside, (((HEr.out.trans E5.out).trans (Ext.alloc _ _)).trans E6.out).trans E8.out⟩
            case measure => have := Hlt.out; simp [intOf]; omega
    · obtain rfl : t = 8 := by omega
      go_wp2_with (go_at_call 14; refine (alive_any _).mono ?_; rintro e w9 ⟨rfl, k1, k2⟩)
      go_ret
      exact ⟨rfl, k1 _ HA.out.beside.has, HEr.out.trans k2⟩

theorem keeps_all {F : MS} {l : List Int} {A : Option Addr} {n c : Nat} {w : World} {L : List ActD} {A2 : Option Addr} {n2 c2 : Nat} (h : RdS F RT.int l (.slice A n c)) (hL : RdS F RT.act L (.slice A2 n2 c2)) (hH : Has w F) :
    Calls Try.prog 4 #[.slice A n c, .slice A2 n2 c2] w (LawPost w F) := by
  obtain ⟨rfl, hc1, hc2, _⟩ := h.cells
  obtain ⟨rfl, hc3, hc4, _⟩ := hL.cells
  by_cases h1 : (20 : Int) < l.length
  · have HH := hid hH
    have q1 : (l.length : Int) ≤ 9223372036854775807 := by unfold maxLen at hc2; omega
    clear h hL hH hc1 hc2 hc3 hc4
    go_enter Try.func4, Try.ntmps4
    go_wp2_with (go_at_call 14; refine (alive_any _).mono ?_; rintro e w1 ⟨rfl, k1, k2⟩)
    go_ret
    exact ⟨rfl, k1 _ HH.out, k2⟩
  · by_cases h2 : (100 : Int) < L.length
    · have HH := hid hH
      have q1 : (L.length : Int) ≤ 9223372036854775807 := by unfold maxLen at hc4; omega
      clear h hL hH hc1 hc2 hc3 hc4
      go_enter Try.func4, Try.ntmps4
      go_wp2_with (go_at_call 14; refine (alive_any _).mono ?_; rintro e w1 ⟨rfl, k1, k2⟩)
      go_ret
      exact ⟨rfl, k1 _ HH.out, k2⟩
    · by_cases hn : newOk l
      · exact keeps_any h hL hH (by omega) (by omega) hn
      · have HH := hid hH
        have Ha := hid (after_none (v := .slice A2 L.length c2) h hH hn)
        clear h hL hH hc1 hc2 hc3 hc4 hn
        go_enter Try.func4, Try.ntmps4
        go_wp2_with (first
          | (go_at_call 15; refine Ha.out.mono ?_; rintro e w' ⟨rfl, rfl⟩)
          | (go_at_call 14; refine (alive_any _).mono ?_; rintro e w1 ⟨rfl, k1, k2⟩))
        go_ret
        exact ⟨rfl, k1 _ HH.out, k2⟩
end Go.Proofs.Ytnkgfgkgepadhaa

/-
  The walk of SnapCopies.
-/
import Derived.Test.YtnkgfgkgepadhaaLawPlays
import Derived.Test.YtnkgfgkgepadhaaSnapCopy
namespace Go.Proofs.Ytnkgfgkgepadhaa
open Go.RowKit
set_option linter.unusedVariables false
set_option linter.unusedSimpArgs false
set_option maxHeartbeats 4000000
set_option maxRecDepth 100000

theorem copy_net {F : MS} {σ : Net} {b : Nat} {w : World} (h : NetAt 0 F σ b w) (hc5 : ∀ e ∈ σ.evs, e.clock.length ≤ 5) :
    Calls Try.prog 46 #[.pointer (some ⟨b, 0, none⟩)] w fun e w' => ∃ b' Q ps m, e = .returned (.pointer (some ⟨b', 0, none⟩)) ∧ IsNet (0 + Q) σ ps b m ∧ NetAt Q (F + (m + 0)) σ b' w' ∧ Ext w w' := by
  obtain ⟨hok, Pl, ps, m, h1, h2⟩ := h
  refine (copy_any (Pl + 0) F hok h1 h2 hc5).mono ?_
  rintro e w' ⟨b', ps', m', rfl, k1, k2, k3⟩
  exact ⟨b', Pl + 0, ps, m, rfl, by rw [MS.zero_add]; exact h1, ⟨hok, 0, ps', m', by rw [MS.zero_add]; exact k1, k2.eq (by rw [MS.zero_add, MS.add_zero, MS.add_zero]; ac_rfl)⟩, k3⟩
/-- The other one of two nets. -/
theorem NetAt.swap {Q F Plo mo : MS} {σ τ : Net} {pso : List Nat} {b c : Nat} {w : World} (hok : NetOk σ) (hI : IsNet (Plo + Q) σ pso b mo) (h : NetAt Q (F + (mo + Plo)) τ c w) :
    ∃ Pl ps m, IsNet (Pl + Q) τ ps c m ∧ NetAt Q (F + (m + Pl)) σ b w := by
  obtain ⟨hk, Pl, ps, m, h1, h2⟩ := h
  exact ⟨Pl, ps, m, h1, hok, Plo, pso, mo, hI, h2.eq (by ac_rfl)⟩
theorem acts_cons {σ : Net} {L : List ActD} {t : Nat} {x : ActD} (hx : L[t]? = some x) : σ.acts (L.take (t + 1)) = (σ.acts (L.take t)).act x := by
  rw [take_more hx, Net.acts, List.foldl_append]; rfl
/-- An act as it is read. -/
theorem act_cells {F : MS} {L : List ActD} {A : Option Addr} {n c : Nat} (h : RdS F RT.act L (.slice A n c)) {t : Nat} {x : ActD} (hx : L[t]? = some x) :
    ∃ b o, A = some ⟨b, o, none⟩ ∧ (0 ≤ x.kind ∧ x.kind < 256) ∧ ∀ W, Has W F → W.cell? ⟨b, o + t * 4, none⟩ = some (.int .u8 x.kind) ∧ W.cell? ⟨b, o + t * 4 + 1, none⟩ = some (.int .i64 x.a) ∧ W.cell? ⟨b, o + t * 4 + 2, none⟩ = some (.int .i64 x.b) ∧ W.cell? ⟨b, o + t * 4 + 3, none⟩ = some (.int .i64 x.n) := by
  obtain ⟨ba, oa, hA, e0, e1, e2, e3, e4, e5⟩ := h.getAct hx
  exact ⟨ba, oa, hA, ⟨e4, e5⟩, fun W h => ⟨e0.cell0 h, e1.cell0 h, e2.cell0 h, e3.cell0 h⟩⟩
theorem Both.clk {σ : Net} (h : Both σ) : ∀ e ∈ σ.evs, e.clock.length ≤ 5 := fun e he => by rw [(h.ev e he).cl]; exact h.ok.n5

theorem copies_any {F : MS} {l : List Int} {A : Option Addr} {c : Nat} {w : World} {L La Lb : List ActD} {A2 A3 A4 : Option Addr} {c2 c3 c4 : Nat} (h : RdS F RT.int l (.slice A l.length c)) (hL : RdS F RT.act L (.slice A2 L.length c2)) (hLa : RdS F RT.act La (.slice A3 La.length c3)) (hLb : RdS F RT.act Lb (.slice A4 Lb.length c4)) (hH : Has w F)
    (hl : l.length ≤ 20) (hLl : L.length ≤ 100) (hLal : La.length ≤ 100) (hLbl : Lb.length ≤ 100) (hn : newOk l) :
    Calls Try.prog 10 #[.slice A l.length c, .slice A2 L.length c2, .slice A3 La.length c3, .slice A4 Lb.length c4] w (LawPost w F) := by
  have H1 := hid (new_net h hH hn)
  have H2 := hid (fun (W : World) (b : Nat) (hN : NetAt 0 F (Net.new l) b W) => rnew_net (F := F) (G := 0) (hN.same (MS.add_zero _).symm) h hn)
  have HL := hid hL
  have HLa := hid hLa
  have HLb := hid hLb
  have Hn := hid hn
  have t1 : ¬ (20 : Int) < l.length := by omega
  have t2 : ¬ (100 : Int) < L.length := by omega
  have t3 : ¬ (100 : Int) < La.length := by omega
  have t4 : ¬ (100 : Int) < Lb.length := by omega
  have lI : (L.length : Int) ≤ 100 := by omega
  have lIa : (La.length : Int) ≤ 100 := by omega
  have lIb : (Lb.length : Int) ≤ 100 := by omega
  clear h hL hLa hLb hH hn
  go_enter Try.func10, Try.ntmps10
  go_wp2_with (first
    | (go_at_call 24; refine H1.out.mono ?_; rintro e w2 ⟨b, rfl, k1, k2⟩; have K2 := hid k1; have E2 := hid k2; clear k1 k2)
    | (go_at_call 29; refine (H2.out _ _ K2.out).mono ?_; rintro e w3 ⟨b2, X, rfl, k1, k2, k3⟩; have K3 := hid (show PairAt 0 (X + F) 0 (Net.new l) b b2 w3 from ⟨k2.same (MS.add_assoc _ _ _).symm, k1, Both.new Hn.out⟩); have E3 := hid (E2.out.trans k3); clear k1 k2 k3))
  go_loopw [11, 13, 14] (fun vr vo v wq => ∃ (t : Nat) (b3 : Nat) (Y : MS), t ≤ L.length ∧ v = .int .i64 t ∧ vr = .pointer (some ⟨b3, 0, none⟩) ∧ vo = .bool true ∧ PairAt 0 (Y + (X + F)) 0 ((Net.new l).acts (L.take t)) b b3 wq ∧ Ext w wq) (fun _ _ v _ => L.length - (intOf v).toNat)
  case atStart => exact ⟨0, b2, 0, Nat.zero_le _, rfl, rfl, rfl, by rw [MS.zero_add]; exact K3.out, E3.out⟩
  case round =>
    obtain ⟨t, b3, Y, ht, rfl, rfl, rfl, hP, hE⟩ := hrel
    have HPt := hid hP
    have HEt := hid hE
    clear hP hE
    by_cases hlt : t < L.length
    · obtain ⟨a, hx⟩ : ∃ x, L[t]? = some x := ⟨_, List.getElem?_eq_getElem hlt⟩
      obtain ⟨ba, oa, hA, he, hcell⟩ := act_cells HL.out hx
      subst hA
      obtain ⟨f0, f1, f2, f3⟩ := hcell wr HPt.out.net.has.left.right.right
      have Hmore := hid (acts_more (l := l) hx)
      have Hlt := hid hlt
      have hltI : (t : Int) < L.length := by omega
      have He := hid he
      clear hx he hcell hlt
      go_wp2_with (go_at_call 31; refine (do_any HPt.out a.kind a.a a.b a.n He.out.1 He.out.2).mono ?_; rintro e w7 ⟨b4, Z, rfl, k1, k2⟩; have K7 := hid k1; have E7 := hid (HEt.out.trans k2); clear k1 k2)
      go_roundw
      case rel => exact ⟨t + 1, b4, Z + Y, Hlt.out, by go_num, rfl, rfl, by rw [Hmore.out, MS.add_assoc]; exact K7.out, E7.out⟩
      case measure => have := Hlt.out; simp [intOf]; omega
    · obtain rfl : t = L.length := by omega
      generalize (Net.new l).acts (L.take L.length) = σ at *
      have HN := hid (HPt.out.net.same (F' := Y + (X + F)) (MS.add_zero _))
      have HR := hid HPt.out.ref
      have HB := hid HPt.out.both
      have Hcp := hid (copy_net HN.out HB.out.clk)
      go_wp2_with (go_at_call 46; refine Hcp.out.mono ?_; rintro e w8 ⟨bc, Q, ps, m, rfl, k1, k2, k3⟩; have HI := hid k1; have K8 := hid k2; have E8 := hid (HEt.out.trans k3); clear k1 k2 k3)
      go_loopw [13, 16, 17] (fun vo vr v wq => ∃ (t : Nat) (bs : Nat) (Z : MS), t ≤ La.length ∧ v = .int .i64 t ∧ vr = .pointer (some ⟨bs, 0, none⟩) ∧ vo = .bool true ∧ PairAt Q (Z + (Y + (X + F))) (m + 0) (σ.acts (La.take t)) bc bs wq ∧ Ext w wq) (fun _ _ v _ => La.length - (intOf v).toNat)
      case atStart => exact ⟨0, b3, 0, Nat.zero_le _, rfl, rfl, rfl, by rw [MS.zero_add]; exact ⟨K8.out, HR.out, HB.out⟩, E8.out⟩
      case round =>
        obtain ⟨t, bs, Z, ht, rfl, rfl, rfl, hP, hE⟩ := hrel
        have HP2 := hid hP
        have HE2 := hid hE
        clear hP hE
        by_cases hlt : t < La.length
        · obtain ⟨a, hx⟩ : ∃ x, La[t]? = some x := ⟨_, List.getElem?_eq_getElem hlt⟩
          obtain ⟨ba, oa, hA, he, hcell⟩ := act_cells HLa.out hx
          subst hA
          obtain ⟨f0, f1, f2, f3⟩ := hcell wr HP2.out.net.has.left.right.right.right
          have Hmore := hid (acts_cons (σ := σ) hx)
          have Hlt := hid hlt
          have hltI : (t : Int) < La.length := by omega
          have He := hid he
          clear hx he hcell hlt
          go_wp2_with (go_at_call 31; refine (do_any HP2.out a.kind a.a a.b a.n He.out.1 He.out.2).mono ?_; rintro e w9 ⟨b4, Z2, rfl, k1, k2⟩; have K9 := hid k1; have E9 := hid (HE2.out.trans k2); clear k1 k2)
          go_roundw
          case rel => exact ⟨t + 1, b4, Z2 + Z, Hlt.out, by go_num, rfl, rfl, by rw [Hmore.out, MS.add_assoc]; exact K9.out, E9.out⟩
          case measure => have := Hlt.out; simp [intOf]; omega
        · obtain rfl : t = La.length := by omega
          generalize σ.acts (La.take La.length) = τ at *
          obtain ⟨Plc, psc, mc, hIc, hNt⟩ := HP2.out.net.swap HB.out.ok HI.out
          have HIc := hid hIc
          have HRs := hid HP2.out.ref
          have HBs := hid HP2.out.both
          have K10 := hid (show PairAt Q (Z + (Y + (X + F))) (mc + Plc) σ b b3 wr from ⟨hNt, HR.out.more Z, HB.out⟩)
          clear hIc hNt
          go_wp2
          go_loopw [11, 13, 18] (fun vr vo v wq => ∃ (t : Nat) (bs : Nat) (V : MS), t ≤ Lb.length ∧ v = .int .i64 t ∧ vr = .pointer (some ⟨bs, 0, none⟩) ∧ vo = .bool true ∧ PairAt Q (V + (Z + (Y + (X + F)))) (mc + Plc) (σ.acts (Lb.take t)) b bs wq ∧ Ext w wq) (fun _ _ v _ => Lb.length - (intOf v).toNat)
          case atStart => exact ⟨0, b3, 0, Nat.zero_le _, rfl, rfl, rfl, by rw [MS.zero_add]; exact K10.out, HE2.out⟩
          case round =>
            obtain ⟨t, br, V, ht, rfl, rfl, rfl, hP, hE⟩ := hrel
            have HP3 := hid hP
            have HE3 := hid hE
            clear hP hE
            by_cases hlt : t < Lb.length
            · obtain ⟨a, hx⟩ : ∃ x, Lb[t]? = some x := ⟨_, List.getElem?_eq_getElem hlt⟩
              obtain ⟨ba, oa, hA, he, hcell⟩ := act_cells HLb.out hx
              subst hA
              obtain ⟨f0, f1, f2, f3⟩ := hcell wr HP3.out.net.has.left.right.right.right.right
              have Hmore := hid (acts_cons (σ := σ) hx)
              have Hlt := hid hlt
              have hltI : (t : Int) < Lb.length := by omega
              have He := hid he
              clear hx he hcell hlt
              go_wp2_with (go_at_call 31; refine (do_any HP3.out a.kind a.a a.b a.n He.out.1 He.out.2).mono ?_; rintro e w9 ⟨b4, Z2, rfl, k1, k2⟩; have K9 := hid k1; have E9 := hid (HE3.out.trans k2); clear k1 k2)
              go_roundw
              case rel => exact ⟨t + 1, b4, Z2 + V, Hlt.out, by go_num, rfl, rfl, by rw [Hmore.out, MS.add_assoc]; exact K9.out, E9.out⟩
              case measure => have := Hlt.out; simp [intOf]; omega
            · obtain rfl : t = Lb.length := by omega
              generalize σ.acts (Lb.take Lb.length) = σ2 at *
              obtain ⟨Plt, pst, mt, hIt, hNc⟩ := HP3.out.net.swap HBs.out.ok HIc.out
              have HIt := hid hIt
              have HRr := hid HP3.out.ref
              have HBr := hid HP3.out.both
              have K11 := hid (show PairAt Q (V + (Z + (Y + (X + F)))) (mt + Plt) τ bc bs wr from ⟨hNc, HRs.out.more V, HBs.out⟩)
              clear hIt hNc
              go_wp2_with fail
              refine (shows_any K11.out).mono ?_
              rintro e w9 ⟨rfl, k1, k2⟩
              obtain ⟨Plc2, psc2, mc2, hIc2, hNt2⟩ := k1.net.swap HBr.out.ok HIt.out
              have K12 := hid (show PairAt Q (V + (Z + (Y + (X + F)))) (mc2 + Plc2) σ2 b br w9 from ⟨hNt2, HRr.out, HBr.out⟩)
              have E12 := hid (HE3.out.trans k2)
              clear k1 k2 hIc2 hNt2
              go_wp2_with (first
                | (go_at_call 32; refine (shows_any K12.out).mono ?_; rintro e w10 ⟨rfl, k1, k2⟩; have K13 := hid k1; have E13 := hid (E12.out.trans k2); clear k1 k2)
                | (go_at_call 14; refine (alive_any _).mono ?_; rintro e w13 ⟨rfl, k1, k2⟩; have K14 := hid (k1 _ (K13.out.net.has.left.right.right.right.right)); have E14 := hid (E13.out.trans k2); clear k1 k2))
              go_ret
              exact ⟨rfl, K14.out, E14.out⟩

theorem copies_none {F : MS} {l : List Int} {A : Option Addr} {c : Nat} {w : World} {L La Lb : List ActD} {A2 A3 A4 : Option Addr} {c2 c3 c4 : Nat} (h : RdS F RT.int l (.slice A l.length c)) (hH : Has w F)
    (hl : l.length ≤ 20) (hLl : L.length ≤ 100) (hLal : La.length ≤ 100) (hLbl : Lb.length ≤ 100) (hn : ¬ newOk l) :
    Calls Try.prog 10 #[.slice A l.length c, .slice A2 L.length c2, .slice A3 La.length c3, .slice A4 Lb.length c4] w (LawPost w F) := by
  have H1 := hid (new_none h hH hn)
  have H2 := hid (rnew_none hH h hn)
  have t1 : ¬ (20 : Int) < l.length := by omega
  have t2 : ¬ (100 : Int) < L.length := by omega
  have t3 : ¬ (100 : Int) < La.length := by omega
  have t4 : ¬ (100 : Int) < Lb.length := by omega
  clear h hH hn
  go_enter Try.func10, Try.ntmps10
  go_wp2_with (first
    | (go_at_call 24; refine H1.out.mono ?_; rintro e w2 ⟨rfl, rfl⟩)
    | (go_at_call 29; refine H2.out.mono ?_; rintro e w3 ⟨rfl, k1, k2⟩; have K3 := hid k1; have E3 := hid k2; clear k1 k2)
    | (go_at_call 14; refine (alive_any _).mono ?_; rintro e w13 ⟨rfl, k1, k2⟩; have K13 := hid (k1 _ K3.out); have E13 := hid (E3.out.trans k2); clear k1 k2))
  go_ret
  exact ⟨rfl, K13.out, E13.out⟩

theorem copies_far {F : MS} {n1 n2 n3 n4 : Nat} {A A2 A3 A4 : Option Addr} {c c2 c3 c4 : Nat} {w : World} (hH : Has w F) (m1 : n1 ≤ maxLen) (m2 : n2 ≤ maxLen) (m3 : n3 ≤ maxLen) (m4 : n4 ≤ maxLen)
    (h : 20 < n1 ∨ 100 < n2 ∨ 100 < n3 ∨ 100 < n4) :
    Calls Try.prog 10 #[.slice A n1 c, .slice A2 n2 c2, .slice A3 n3 c3, .slice A4 n4 c4] w (LawPost w F) := by
  have HH := hid hH
  have q1 : (n1 : Int) ≤ 9223372036854775807 := by unfold maxLen at m1; omega
  have q2 : (n2 : Int) ≤ 9223372036854775807 := by unfold maxLen at m2; omega
  have q3 : (n3 : Int) ≤ 9223372036854775807 := by unfold maxLen at m3; omega
  have q4 : (n4 : Int) ≤ 9223372036854775807 := by unfold maxLen at m4; omega
  clear hH m1 m2 m3 m4
  by_cases h1 : (20 : Int) < n1
  · clear h
    go_enter Try.func10, Try.ntmps10
    go_wp2_with (go_at_call 14; refine (alive_any _).mono ?_; rintro e w1 ⟨rfl, k1, k2⟩)
    go_ret
    exact ⟨rfl, k1 _ HH.out, k2⟩
  · by_cases h2 : (100 : Int) < n2
    · clear h
      go_enter Try.func10, Try.ntmps10
      go_wp2_with (go_at_call 14; refine (alive_any _).mono ?_; rintro e w1 ⟨rfl, k1, k2⟩)
      go_ret
      exact ⟨rfl, k1 _ HH.out, k2⟩
    · by_cases h3 : (100 : Int) < n3
      · clear h
        go_enter Try.func10, Try.ntmps10
        go_wp2_with (go_at_call 14; refine (alive_any _).mono ?_; rintro e w1 ⟨rfl, k1, k2⟩)
        go_ret
        exact ⟨rfl, k1 _ HH.out, k2⟩
      · have h4 : (100 : Int) < n4 := by omega
        clear h
        go_enter Try.func10, Try.ntmps10
        go_wp2_with (go_at_call 14; refine (alive_any _).mono ?_; rintro e w1 ⟨rfl, k1, k2⟩)
        go_ret
        exact ⟨rfl, k1 _ HH.out, k2⟩
theorem copies_all {F : MS} {l : List Int} {A : Option Addr} {n c : Nat} {w : World} {L La Lb : List ActD} {A2 A3 A4 : Option Addr} {n2 c2 n3 c3 n4 c4 : Nat} (h : RdS F RT.int l (.slice A n c)) (hL : RdS F RT.act L (.slice A2 n2 c2)) (hLa : RdS F RT.act La (.slice A3 n3 c3)) (hLb : RdS F RT.act Lb (.slice A4 n4 c4)) (hH : Has w F) :
    Calls Try.prog 10 #[.slice A n c, .slice A2 n2 c2, .slice A3 n3 c3, .slice A4 n4 c4] w (LawPost w F) := by
  obtain ⟨rfl, hc1, hc2, _⟩ := h.cells
  obtain ⟨rfl, hc3, hc4, _⟩ := hL.cells
  obtain ⟨rfl, hc5, hc6, _⟩ := hLa.cells
  obtain ⟨rfl, hc7, hc8, _⟩ := hLb.cells
  by_cases hf : 20 < l.length ∨ 100 < L.length ∨ 100 < La.length ∨ 100 < Lb.length
  · exact copies_far hH (by omega) (by omega) (by omega) (by omega) hf
  · by_cases hn : newOk l
    · exact copies_any h hL hLa hLb hH (by omega) (by omega) (by omega) (by omega) hn
    · exact copies_none h hH (by omega) (by omega) (by omega) (by omega) hn
end Go.Proofs.Ytnkgfgkgepadhaa

/-
  The walk of SnapLooks.
-/
import Derived.Test.YtnkgfgkgepadhaaLawPlays
namespace Go.Proofs.Ytnkgfgkgepadhaa
open Go.RowKit
set_option linter.unusedVariables false
set_option linter.unusedSimpArgs false
set_option maxHeartbeats 4000000
set_option maxRecDepth 100000

theorem looks_any {F : MS} {l : List Int} {A : Option Addr} {c : Nat} {w : World} {L : List ActD} {A2 : Option Addr} {c2 : Nat} (h : RdS F RT.int l (.slice A l.length c)) (hL : RdS F RT.act L (.slice A2 L.length c2)) (hH : Has w F) (x y no : Int)
    (hl : l.length ≤ 20) (hLl : L.length ≤ 100) (hn : newOk l) :
    Calls Try.prog 7 #[.slice A l.length c, .slice A2 L.length c2, .int .i64 x, .int .i64 y, .int .i64 no] w (LawPost w F) := by
  have H1 := hid (new_net h hH hn)
  have H2 := hid (fun (W : World) (b : Nat) (hN : NetAt F (Net.new l) b W) => rnew_net (F := F) (G := 0) (hN.same (MS.add_zero _).symm) h hn)
  have HL := hid hL
  have Hn := hid hn
  have t1 : ¬ (20 : Int) < l.length := by omega
  have t2 : ¬ (100 : Int) < L.length := by omega
  have lI : (L.length : Int) ≤ 100 := by omega
  clear h hL hH hn
  go_enter Try.func7, Try.ntmps7
  go_wp2_with (first
    | (go_at_call 24; refine H1.out.mono ?_; rintro e w2 ⟨b, rfl, k1, k2⟩; have K2 := hid k1; have E2 := hid k2; clear k1 k2)
    | (go_at_call 29; refine (H2.out _ _ K2.out).mono ?_; rintro e w3 ⟨b2, X, rfl, k1, k2, k3⟩; have K3 := hid (show PairAt (X + F) 0 (Net.new l) b b2 w3 from ⟨k2.same (MS.add_assoc _ _ _).symm, k1, Both.new Hn.out⟩); have E3 := hid (E2.out.trans k3); clear k1 k2 k3))
  go_loopw [13, 15] (fun vr v wq => ∃ (t : Nat) (b3 : Nat) (Y : MS), t ≤ L.length ∧ v = .int .i64 t ∧ vr = .pointer (some ⟨b3, 0, none⟩) ∧ PairAt (Y + (X + F)) 0 ((Net.new l).acts (L.take t)) b b3 wq ∧ Ext w wq) (fun _ v _ => L.length - (intOf v).toNat)
  case atStart => exact ⟨0, b2, 0, Nat.zero_le _, rfl, rfl, by rw [MS.zero_add]; exact K3.out, E3.out⟩
  case round =>
    obtain ⟨t, b3, Y, ht, rfl, rfl, hP, hE⟩ := hrel
    have HPt := hid hP
    have HEt := hid hE
    clear hP hE
    by_cases hlt : t < L.length
    · obtain ⟨a, hx⟩ : ∃ x, L[t]? = some x := ⟨_, List.getElem?_eq_getElem hlt⟩
      obtain ⟨ba, oa, hA, e0, e1, e2, e3, e4, e5⟩ := HL.out.getAct hx
      subst hA
      have hF : Has wr F := HPt.out.net.has.left.right.right
      have f0 := e0.cell0 hF
      have f1 := e1.cell0 hF
      have f2 := e2.cell0 hF
      have f3 := e3.cell0 hF
      have Hmore := hid (acts_more (l := l) hx)
      have Hlt := hid hlt
      have hltI : (t : Int) < L.length := by omega
      have He := hid (And.intro e4 e5)
      clear hx e0 e1 e2 e3 hF hlt e4 e5
      go_wp2_with (go_at_call 31; refine (do_any HPt.out a.kind a.a a.b a.n He.out.1 He.out.2).mono ?_; rintro e w7 ⟨b4, Z, rfl, k1, k2⟩; have K7 := hid k1; have E7 := hid (HEt.out.trans k2); clear k1 k2)
      go_roundw
      case rel => exact ⟨t + 1, b4, Z + Y, Hlt.out, by go_num, rfl, by rw [Hmore.out, MS.add_assoc]; exact K7.out, E7.out⟩
      case measure => have := Hlt.out; simp [intOf]; omega
    · obtain rfl : t = L.length := by omega
      generalize (Net.new l).acts (L.take L.length) = σ at *
      have HN := hid (HPt.out.net.same (F' := Y + (X + F)) (MS.add_zero _))
      have HR := hid HPt.out.ref
      have HB := hid HPt.out.both
      have Hw1 := hid (waits_net HN.out x y)
      have Hrw1 := hid (fun (W : World) (M : MS) (h : NetAt (M + (Y + (X + F))) σ b W) => rwaits_net h (HR.out.more M) HB.out.ok x y)
      have hwl := waits_len HB.out.ok x y
      have te : ((σ.waits x y).2 == (σ.waits x y).2) = true := by simp
      generalize (σ.waits x y).1 = wl at *
      generalize (σ.waits x y).2 = we at *
      go_wp2_with (first
        | (go_at_call 28; refine Hw1.out.mono ?_; rintro e w8 ⟨Aw, cw, mw, rfl, k1, k2, k3⟩; have R8 := hid k1; have K8 := hid k2; have E8 := hid (HEt.out.trans k3); clear k1 k2 k3)
        | (go_at_call 33; refine (Hrw1.out _ _ K8.out).mono ?_; rintro e w9 ⟨Ax, cx, mx, rfl, k1, k2, k3⟩; have R9 := hid k1; have K9 := hid k2; have E9 := hid (E8.out.trans k3); clear k1 k2 k3)
        | (go_at_call 30; refine (numbers_any (((R8.out.rdS.less (Y + (X + F))).more mx)) (R9.out.rdS.less _) K9.out.has (by omega) (by omega)).mono ?_; rintro e w10 ⟨rfl, k1, k2⟩; rw [numEq_self]; have K10 := hid (show PairAt (Y + (X + F)) 0 σ b b3 w10 from ⟨(((K9.out.keep k1).beside).beside).same (MS.add_zero _).symm, HR.out, HB.out⟩); have E10 := hid (E9.out.trans k2); clear k1 k2)
        | (go_at_call 34; refine (shot_any K10.out no).mono ?_; rintro e w11 ⟨rfl, k1, k2⟩; have K11 := hid k1; have E11 := hid (E10.out.trans k2); clear k1 k2)
        | (go_at_call 32; refine (shows_any K11.out).mono ?_; rintro e w12 ⟨rfl, k1, k2⟩; have K12 := hid k1; have E12 := hid (E11.out.trans k2); clear k1 k2)
        | (go_at_call 14; refine (alive_any _).mono ?_; rintro e w13 ⟨rfl, k1, k2⟩; have K13 := hid (k1 _ (K12.out.net.has.left.right.right)); have E13 := hid (E12.out.trans k2); clear k1 k2))
      go_ret
      exact ⟨rfl, K13.out, E13.out⟩

theorem looks_none {F : MS} {l : List Int} {A : Option Addr} {c : Nat} {w : World} {L : List ActD} {A2 : Option Addr} {c2 : Nat} (h : RdS F RT.int l (.slice A l.length c)) (hL : RdS F RT.act L (.slice A2 L.length c2)) (hH : Has w F) (x y no : Int)
    (hl : l.length ≤ 20) (hLl : L.length ≤ 100) (hn : ¬ newOk l) :
    Calls Try.prog 7 #[.slice A l.length c, .slice A2 L.length c2, .int .i64 x, .int .i64 y, .int .i64 no] w (LawPost w F) := by
  have H1 := hid (new_none h hH hn)
  have H2 := hid (rnew_none hH h hn)
  have t1 : ¬ (20 : Int) < l.length := by omega
  have t2 : ¬ (100 : Int) < L.length := by omega
  clear h hL hH hn
  go_enter Try.func7, Try.ntmps7
  go_wp2_with (first
    | (go_at_call 24; refine H1.out.mono ?_; rintro e w2 ⟨rfl, rfl⟩)
    | (go_at_call 29; refine H2.out.mono ?_; rintro e w3 ⟨rfl, k1, k2⟩; have K3 := hid k1; have E3 := hid k2; clear k1 k2)
    | (go_at_call 14; refine (alive_any _).mono ?_; rintro e w13 ⟨rfl, k1, k2⟩; have K13 := hid (k1 _ K3.out); have E13 := hid (E3.out.trans k2); clear k1 k2))
  go_ret
  exact ⟨rfl, K13.out, E13.out⟩

theorem looks_all {F : MS} {l : List Int} {A : Option Addr} {n c : Nat} {w : World} {L : List ActD} {A2 : Option Addr} {n2 c2 : Nat} (h : RdS F RT.int l (.slice A n c)) (hL : RdS F RT.act L (.slice A2 n2 c2)) (hH : Has w F) (x y no : Int) :
    Calls Try.prog 7 #[.slice A n c, .slice A2 n2 c2, .int .i64 x, .int .i64 y, .int .i64 no] w (LawPost w F) := by
  obtain ⟨rfl, hc1, hc2, _⟩ := h.cells
  obtain ⟨rfl, hc3, hc4, _⟩ := hL.cells
  by_cases h1 : (20 : Int) < l.length
  · have HH := hid hH
    have q1 : (l.length : Int) ≤ 9223372036854775807 := by unfold maxLen at hc2; omega
    clear h hL hH hc1 hc2 hc3 hc4
    go_enter Try.func7, Try.ntmps7
    go_wp2_with (go_at_call 14; refine (alive_any _).mono ?_; rintro e w1 ⟨rfl, k1, k2⟩)
    go_ret
    exact ⟨rfl, k1 _ HH.out, k2⟩
  · by_cases h2 : (100 : Int) < L.length
    · have HH := hid hH
      have q1 : (L.length : Int) ≤ 9223372036854775807 := by unfold maxLen at hc4; omega
      clear h hL hH hc1 hc2 hc3 hc4
      go_enter Try.func7, Try.ntmps7
      go_wp2_with (go_at_call 14; refine (alive_any _).mono ?_; rintro e w1 ⟨rfl, k1, k2⟩)
      go_ret
      exact ⟨rfl, k1 _ HH.out, k2⟩
    · by_cases hn : newOk l
      · exact looks_any h hL hH x y no (by omega) (by omega) hn
      · exact looks_none h hL hH x y no (by omega) (by omega) hn
end Go.Proofs.Ytnkgfgkgepadhaa

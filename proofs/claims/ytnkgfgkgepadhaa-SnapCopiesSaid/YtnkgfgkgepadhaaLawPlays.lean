/-
  The walk of SnapPlays.
-/
import Derived.Test.YtnkgfgkgepadhaaShows
namespace Go.Proofs.Ytnkgfgkgepadhaa
open Go.RowKit
set_option linter.unusedVariables false
set_option linter.unusedSimpArgs false
set_option maxHeartbeats 4000000
set_option maxRecDepth 100000

section
variable {Q : MS}
theorem rnew_net {F G : MS} {σ : Net} {b : Nat} {w : World} {l : List Int} {A : Option Addr} {k c : Nat} (hN : NetAt Q (F + G) σ b w) (h : RdS F RT.int l (.slice A k c)) (hn : newOk l) :
    Calls Try.prog 29 #[.slice A k c] w (RNPost Q F G σ b w (fun b' => .tuple #[.pointer (some ⟨b', 0, none⟩), .int .i64 0]) (Net.new l)) := by
  obtain ⟨hok, Pl, ps, m, h1, h2⟩ := hN
  refine (rnew_any (F := F + (m + ((Pl + Q) + G)).hide) (h.less _) (h2.eq (b := F + (m + ((Pl + Q) + G))) (by ac_rfl)).hide).mono ?_
  rintro e w' (⟨_, b', X, rfl, k1, k2, k3⟩ | ⟨h', _⟩)
  · refine ⟨b', X, rfl, k1.rd.of (Knows.hide X F _), ⟨hok, Pl, ps, m, h1, ?_⟩, k3⟩
    exact (Has.unhide (a := X + F) (k2.eq (MS.add_assoc _ _ _).symm)).eq (by ac_rfl)
  · exact absurd hn h'
end
theorem rnew_none {F : MS} {w : World} {l : List Int} {A : Option Addr} {k c : Nat} (hH : Has w F) (h : RdS F RT.int l (.slice A k c)) (hn : ¬ newOk l) :
    Calls Try.prog 29 #[.slice A k c] w fun e w' => e = .returned (.tuple #[.pointer none, .int .i64 2]) ∧ Has w' F ∧ Ext w w' := by
  refine (rnew_any h hH).mono ?_
  rintro e w' (⟨h', _⟩ | ⟨_, rfl, k1, k2⟩)
  · exact absurd h' hn
  · exact ⟨rfl, k1, k2⟩
theorem acts_more {l : List Int} {L : List ActD} {t : Nat} {x : ActD} (hx : L[t]? = some x) : (Net.new l).acts (L.take (t + 1)) = ((Net.new l).acts (L.take t)).act x := by
  rw [take_more hx, Net.acts, List.foldl_append]; rfl
theorem PairAt.moreRef {Q F G : MS} {σ : Net} {b b2 : Nat} {w : World} (h : PairAt Q F G σ b b2 w) : Has w (F + G) := h.net.has

theorem plays_any {F : MS} {l : List Int} {A : Option Addr} {c : Nat} {w : World} {L : List ActD} {A2 : Option Addr} {c2 : Nat} (h : RdS F RT.int l (.slice A l.length c)) (hL : RdS F RT.act L (.slice A2 L.length c2)) (hH : Has w F)
    (hl : l.length ≤ 20) (hLl : L.length ≤ 100) (hn : newOk l) :
    Calls Try.prog 6 #[.slice A l.length c, .slice A2 L.length c2] w (LawPost w F) := by
  obtain ⟨_, _, _, xs, h4, h5, h6⟩ := h.cells
  obtain rfl := rowsQ_ints_eq h5
  have HX := hid (hH.alloc (.cells #[] 3))
  have hnews := (h4.more (pts w.heap.size (.cells #[] 3))).news (X := 0) (w := w.alloc (.cells #[] 3)) (by rw [MS.zero_add]; exact HX.out)
  have Hnews := hid hnews
  have hnone : A = none → l.length = 0 := fun hA => by
    cases l with
    | nil => rfl
    | cons x l => obtain ⟨b, o, h7, _⟩ := h4 (by simp); rw [hA] at h7; cases h7
  have Hnone := hid hnone
  have Hh := hid h
  have HL := hid hL
  have Hn := hid hn
  have n5 := hn.2.1
  have n5I : (l.length : Int) ≤ 5 := by omega
  have t1 : ¬ (20 : Int) < l.length := by omega
  have t2 : ¬ (100 : Int) < L.length := by omega
  have lI : (L.length : Int) ≤ 100 := by omega
  clear h hL hH hn h4 h5 h6 hnews hnone
  go_enter Try.func6, Try.ntmps6
  go_wp2_with (first
    | (at_builtin; refine wpList_append_sl rfl (.tmp 23) (.tmp 24) 22 rfl 3 _ 1 8 Try.underlying22 info3 rfl _ rfl A l.length c rfl 0 [] (blk w.heap.size #[] 3) F (Sl.empty _ 3 1) HX.out (l.map (Value.int .i64)) (by simp) Hnone.out Hnews.out (ints_one l) (by simp only [maxLen]; omega) (by omega) ?_; intro v' w1 m1 h1 h2 h3; obtain ⟨A1, c1, rfl, _⟩ := h1.form; simp only [Nat.zero_add, List.nil_append] at h1 ⊢; have R1 := hid (show Ints l (.slice A1 l.length c1) m1 from Ints.of h1); have K1 := hid h2; have E1 := hid ((Ext.alloc w _).trans h3); clear h1 h2 h3)
    | (go_at_call 24; refine (new_net (R1.out.rdS.less F) K1.out Hn.out).mono ?_; rintro e w2 ⟨b, rfl, k1, k2⟩; have K2 := hid (k1.same (F' := F + m1) (MS.add_comm _ _)); have E2 := hid (E1.out.trans k2); clear k1 k2)
    | (go_at_call 29; refine (rnew_net K2.out Hh.out Hn.out).mono ?_; rintro e w3 ⟨b2, X, rfl, k1, k2, k3⟩; have K3 := hid k1; have K4 := hid k2; have E3 := hid (E2.out.trans k3); clear k1 k2 k3)
    | (go_at_call 30; refine (numbers_any (((R1.out.rdS.more F).more X)) ((Hh.out.less m1).more X) K4.out.has (by omega) (by omega)).mono ?_; rintro e w4 ⟨rfl, k1, k2⟩; rw [numEq_self]; have K5 := hid (K4.out.keep k1); have E4 := hid (E3.out.trans k2); clear k1 k2))
  obtain ⟨R, hp1, hp2⟩ := (K5.out.same (F' := m1 + (X + F)) (by ac_rfl)).part
  have Hp1 := hid hp1
  have Hp2 := hid hp2
  clear hp1 hp2
  go_loopw [10] (fun v wr => ∃ (t : Nat) (p' : List Int) (m' : MS), t ≤ l.length ∧ v = .int .i64 t ∧ p'.length = l.length ∧ Ints p' (.slice A1 l.length c1) m' ∧ Has wr (m' + R) ∧ Ext w wr) (fun v _ => l.length - (intOf v).toNat)
  case atStart => exact ⟨0, l, m1, Nat.zero_le _, rfl, rfl, R1.out, Hp1.out, E4.out⟩
  case round =>
    obtain ⟨u, p', m', hu, rfl, hp, hip, hHu, hEu⟩ := hrel
    have HHu := hid hHu
    have HEu := hid hEu
    clear hHu hEu
    by_cases hlu : u < l.length
    · obtain ⟨bp, op, cp, curp, e1, rfl, hlp, hgp, hputp⟩ := hip.set_at (j := u) (by omega)
      injection e1 with e1 e1n e1'
      subst e1; subst e1'
      clear e1n
      have Hputp := hid hputp
      have Hlu := hid hlu
      have hluI : (u : Int) < l.length := by omega
      have Hlen := hid hp
      clear hip hgp hputp hlu hp
      go_wp2_with (refine wpList_store_blk rfl (.tmp 60) (.const (.int .i64 7)) 3 rfl size3 bp (op + u) (.int .i64 7) rfl rfl rfl curp 3 _ HHu.out hlp ?_; intro w9 H9 E9; have HH9 := hid H9; have EE9 := hid E9; clear H9 E9)
      go_roundw
      case rel => exact ⟨u + 1, _, _, Hlu.out, by go_num, by rw [List.length_set]; exact Hlen.out, Hputp.out _, HH9.out, HEu.out.trans EE9.out⟩
      case measure => have := Hlu.out; simp [intOf]; omega
    · obtain rfl : u = l.length := by omega
      have HKu := hid (show NetAt 0 (X + F) (Net.new l) b wr from (Hp2.out wr m' HHu.out).beside)
      have HP := hid (show PairAt 0 (X + F) 0 (Net.new l) b b2 wr from ⟨HKu.out.same (MS.add_zero _).symm, K3.out, Both.new Hn.out⟩)
      clear hip hp
      go_wp2
      go_loopw [8, 11] (fun vr v wq => ∃ (t : Nat) (b3 : Nat) (Y : MS), t ≤ L.length ∧ v = .int .i64 t ∧ vr = .pointer (some ⟨b3, 0, none⟩) ∧ PairAt 0 (Y + (X + F)) 0 ((Net.new l).acts (L.take t)) b b3 wq ∧ Ext w wq) (fun _ v _ => L.length - (intOf v).toNat)
      case atStart => exact ⟨0, b2, 0, Nat.zero_le _, rfl, rfl, by rw [MS.zero_add]; exact HP.out, HEu.out⟩
      case round =>
        obtain ⟨t, b3, Y, ht, rfl, rfl, hP, hE⟩ := hrel
        have HPt := hid hP
        have HEt := hid hE
        clear hP hE
        by_cases hlt : t < L.length
        · obtain ⟨x, hx⟩ : ∃ x, L[t]? = some x := ⟨_, List.getElem?_eq_getElem hlt⟩
          obtain ⟨ba, oa, hA, e0, e1, e2, e3, e4, e5⟩ := HL.out.getAct hx
          subst hA
          have hF : Has wr F := HPt.out.net.has.left.right.right
          have f0 := e0.cell0 hF
          have f1 := e1.cell0 hF
          have f2 := e2.cell0 hF
          have f3 := e3.cell0 hF
          have Hmore := hid (acts_more (l := l) hx)
          have Hlt := hid hlt
          have hltI : (t : Int) < L.length := by omega
          have He := hid (And.intro e4 e5)
          clear hx e0 e1 e2 e3 hF hlt e4 e5
          go_wp2_with (first
            | (go_at_call 31; refine (do_any HPt.out x.kind x.a x.b x.n He.out.1 He.out.2).mono ?_; rintro e w7 ⟨b4, Z, rfl, k1, k2⟩; have K7 := hid k1; have E7 := hid (HEt.out.trans k2); clear k1 k2)
            | (go_at_call 32; refine (shows_any K7.out).mono ?_; rintro e w8 ⟨rfl, k1, k2⟩; have K8 := hid k1; have E8 := hid (E7.out.trans k2); clear k1 k2))
          go_roundw
          case rel => exact ⟨t + 1, b4, Z + Y, Hlt.out, by go_num, rfl, by rw [Hmore.out, MS.add_assoc]; exact K8.out, E8.out⟩
          case measure => have := Hlt.out; simp [intOf]; omega
        · obtain rfl : t = L.length := by omega
          go_wp2_with (go_at_call 14; refine (alive_any _).mono ?_; rintro e w9 ⟨rfl, k1, k2⟩)
          go_ret
          exact ⟨rfl, k1 _ (HPt.out.net.has.left.right.right), HEt.out.trans k2⟩

theorem plays_none {F : MS} {l : List Int} {A : Option Addr} {c : Nat} {w : World} {L : List ActD} {A2 : Option Addr} {c2 : Nat} (h : RdS F RT.int l (.slice A l.length c)) (hL : RdS F RT.act L (.slice A2 L.length c2)) (hH : Has w F)
    (hl : l.length ≤ 20) (hLl : L.length ≤ 100) (hn : ¬ newOk l) :
    Calls Try.prog 6 #[.slice A l.length c, .slice A2 L.length c2] w (LawPost w F) := by
  obtain ⟨_, _, _, xs, h4, h5, h6⟩ := h.cells
  obtain rfl := rowsQ_ints_eq h5
  have HX := hid (hH.alloc (.cells #[] 3))
  have hnews := (h4.more (pts w.heap.size (.cells #[] 3))).news (X := 0) (w := w.alloc (.cells #[] 3)) (by rw [MS.zero_add]; exact HX.out)
  have Hnews := hid hnews
  have hnone : A = none → l.length = 0 := fun hA => by
    cases l with
    | nil => rfl
    | cons x l => obtain ⟨b, o, h7, _⟩ := h4 (by simp); rw [hA] at h7; cases h7
  have Hnone := hid hnone
  have Hh := hid h
  have Hn := hid hn
  have n5I : (l.length : Int) ≤ 20 := by omega
  have t1 : ¬ (20 : Int) < l.length := by omega
  have t2 : ¬ (100 : Int) < L.length := by omega
  have lI : (L.length : Int) ≤ 100 := by omega
  clear h hL hH hn h4 h5 h6 hnews hnone
  go_enter Try.func6, Try.ntmps6
  go_wp2_with (first
    | (at_builtin; refine wpList_append_sl rfl (.tmp 23) (.tmp 24) 22 rfl 3 _ 1 8 Try.underlying22 info3 rfl _ rfl A l.length c rfl 0 [] (blk w.heap.size #[] 3) F (Sl.empty _ 3 1) HX.out (l.map (Value.int .i64)) (by simp) Hnone.out Hnews.out (ints_one l) (by simp only [maxLen]; omega) (by omega) ?_; intro v' w1 m1 h1 h2 h3; obtain ⟨A1, c1, rfl, _⟩ := h1.form; simp only [Nat.zero_add, List.nil_append] at h1 ⊢; have R1 := hid (show Ints l (.slice A1 l.length c1) m1 from Ints.of h1); have K1 := hid h2; have E1 := hid ((Ext.alloc w _).trans h3); clear h1 h2 h3)
    | (go_at_call 24; refine (new_none (R1.out.rdS.less F) K1.out Hn.out).mono ?_; rintro e w2 ⟨rfl, rfl⟩)
    | (go_at_call 29; refine (rnew_none K1.out (Hh.out.more m1) Hn.out).mono ?_; rintro e w3 ⟨rfl, k1, k2⟩; have K3 := hid k1; have E3 := hid (E1.out.trans k2); clear k1 k2)
    | (go_at_call 30; refine (numbers_any (R1.out.rdS.less F) (Hh.out.more m1) K3.out (by omega) (by omega)).mono ?_; rintro e w4 ⟨rfl, k1, k2⟩; rw [numEq_self]; have K5 := hid (k1 _ K3.out); have E4 := hid (E3.out.trans k2); clear k1 k2))
  go_loopw [10] (fun v wr => ∃ (t : Nat) (p' : List Int) (m' : MS), t ≤ l.length ∧ v = .int .i64 t ∧ p'.length = l.length ∧ Ints p' (.slice A1 l.length c1) m' ∧ Has wr (m' + F) ∧ Ext w wr) (fun v _ => l.length - (intOf v).toNat)
  case atStart => exact ⟨0, l, m1, Nat.zero_le _, rfl, rfl, R1.out, K5.out, E4.out⟩
  case round =>
    obtain ⟨u, p', m', hu, rfl, hp, hip, hHu, hEu⟩ := hrel
    have HHu := hid hHu
    have HEu := hid hEu
    clear hHu hEu
    by_cases hlu : u < l.length
    · obtain ⟨bp, op, cp, curp, e1, rfl, hlp, hgp, hputp⟩ := hip.set_at (j := u) (by omega)
      injection e1 with e1 e1n e1'
      subst e1; subst e1'
      clear e1n
      have Hputp := hid hputp
      have Hlu := hid hlu
      have hluI : (u : Int) < l.length := by omega
      have Hlen := hid hp
      clear hip hgp hputp hlu hp
      go_wp2_with (refine wpList_store_blk rfl (.tmp 60) (.const (.int .i64 7)) 3 rfl size3 bp (op + u) (.int .i64 7) rfl rfl rfl curp 3 _ HHu.out hlp ?_; intro w9 H9 E9; have HH9 := hid H9; have EE9 := hid E9; clear H9 E9)
      go_roundw
      case rel => exact ⟨u + 1, _, _, Hlu.out, by go_num, by rw [List.length_set]; exact Hlen.out, Hputp.out _, HH9.out, HEu.out.trans EE9.out⟩
      case measure => have := Hlu.out; simp [intOf]; omega
    · obtain rfl : u = l.length := by omega
      clear hip hp
      go_wp2
      go_loopw [11] (fun v wq => v = .int .i64 0 ∧ wq = wr) (fun _ _ => 0)
      case atStart => exact ⟨rfl, rfl⟩
      case round =>
        obtain ⟨rfl, rfl⟩ := hrel
        by_cases h0 : (0 : Int) < L.length
        · go_wp2_with (go_at_call 14; refine (alive_any _).mono ?_; rintro e w9 ⟨rfl, k1, k2⟩)
          go_ret
          exact ⟨rfl, k1 _ HHu.out.right, HEu.out.trans k2⟩
        · go_wp2_with (go_at_call 14; refine (alive_any _).mono ?_; rintro e w9 ⟨rfl, k1, k2⟩)
          go_ret
          exact ⟨rfl, k1 _ HHu.out.right, HEu.out.trans k2⟩

theorem plays_all {F : MS} {l : List Int} {A : Option Addr} {n c : Nat} {w : World} {L : List ActD} {A2 : Option Addr} {n2 c2 : Nat} (h : RdS F RT.int l (.slice A n c)) (hL : RdS F RT.act L (.slice A2 n2 c2)) (hH : Has w F) :
    Calls Try.prog 6 #[.slice A n c, .slice A2 n2 c2] w (LawPost w F) := by
  obtain ⟨rfl, hc1, hc2, _⟩ := h.cells
  obtain ⟨rfl, hc3, hc4, _⟩ := hL.cells
  by_cases h1 : (20 : Int) < l.length
  · have HH := hid hH
    have q1 : (l.length : Int) ≤ 9223372036854775807 := by unfold maxLen at hc2; omega
    clear h hL hH hc1 hc2 hc3 hc4
    go_enter Try.func6, Try.ntmps6
    go_wp2_with (go_at_call 14; refine (alive_any _).mono ?_; rintro e w1 ⟨rfl, k1, k2⟩)
    go_ret
    exact ⟨rfl, k1 _ HH.out, k2⟩
  · by_cases h2 : (100 : Int) < L.length
    · have HH := hid hH
      have q1 : (L.length : Int) ≤ 9223372036854775807 := by unfold maxLen at hc4; omega
      clear h hL hH hc1 hc2 hc3 hc4
      go_enter Try.func6, Try.ntmps6
      go_wp2_with (go_at_call 14; refine (alive_any _).mono ?_; rintro e w1 ⟨rfl, k1, k2⟩)
      go_ret
      exact ⟨rfl, k1 _ HH.out, k2⟩
    · by_cases hn : newOk l
      · exact plays_any h hL hH (by omega) (by omega) hn
      · exact plays_none h hL hH (by omega) (by omega) hn
end Go.Proofs.Ytnkgfgkgepadhaa

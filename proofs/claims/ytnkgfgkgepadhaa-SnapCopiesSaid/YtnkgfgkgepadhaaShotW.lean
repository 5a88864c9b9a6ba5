/-
  The walk of shot: both show the same of a snapshot.
-/
import Derived.Test.YtnkgfgkgepadhaaDo
import Derived.Test.YtnkgfgkgepadhaaSame
namespace Go.Proofs.Ytnkgfgkgepadhaa
open Go.RowKit
set_option linter.unusedVariables false
set_option linter.unusedSimpArgs false
variable {Q : MS}
set_option maxHeartbeats 4000000
set_option maxRecDepth 100000

theorem rfin_any {F : MS} {σ : Net} {b : Nat} {w : World} (hok : NetOk σ) (hr : RdRef F σ b) (hH : Has w F) (no : Int) :
    Calls Try.prog 74 #[.pointer (some ⟨b, 0, none⟩), .int .i64 no] w fun e w' => e = .returned (.tuple #[.bool (σ.doneR no).1, .int .i64 (σ.doneR no).2]) ∧ (∀ M, Has w M → Has w' M) ∧ Ext w w' := by
  rcases atErr_cases σ no with h | ⟨h, k, rfl, hk⟩
  · have e : σ.doneR no = (false, 6) := by unfold Net.doneR; rw [if_neg (by rw [h]; decide)]
    rw [e]
    refine (rfin_no hr hH no h).mono ?_
    rintro e w' ⟨rfl, rfl⟩
    exact ⟨rfl, fun _ h => h, Ext.refl w⟩
  · have e : σ.doneR (k + 1) = ((σ.X k).fin σ.sta.length, 0) := by
      unfold Net.doneR
      rw [if_pos h, show ((k : Int) + 1 - 1).toNat = k by omega, Net.X_some hk]
    rw [e]
    exact rfin_yes hok hr hH hk
theorem NetAt.ref {F G : MS} {σ : Net} {b : Nat} {w : World} (h : NetAt Q (F + G) σ b w) : Has w F := h.has.left
theorem NetAt.beside2 {F X : MS} {σ : Net} {b : Nat} {w : World} (h : NetAt Q (X + F) σ b w) : NetAt Q F σ b w := h.beside
/-- A snapshot of a whole net, bounds. -/
theorem shot_bounds {σ : Net} (h : NetOk σ) {k : Nat} (hk : k < σ.shots.length) : (σ.X k).pieces.length = σ.n ∧ (σ.X k).cut.length = σ.n ∧ (σ.X k).under.length = σ.n ∧ (∀ r ∈ (σ.X k).under, r.length ≤ 1000) ∧ ∀ r ∈ (σ.X k).under, ∀ q ∈ r, q.length ≤ 1000 := by
  obtain ⟨z1, z2, z3, z4, z5, z6, z7⟩ := h.shot (σ.X k) (List.mem_of_getElem? (Net.X_some hk))
  have := h.n5
  have := h.evs
  exact ⟨z5, z4, z6, fun r hr => by rw [(z7 r hr).1]; omega, fun r hr q hq => by have := (z7 r hr).2 q hq; omega⟩

theorem shot_any {F G : MS} {σ : Net} {b b2 : Nat} {w : World} (h : PairAt Q F G σ b b2 w) (no : Int) :
    Calls Try.prog 34 #[.pointer (some ⟨b, 0, none⟩), .pointer (some ⟨b2, 0, none⟩), .int .i64 no] w fun e w' => e = .returned (.bool true) ∧ PairAt Q F G σ b b2 w' ∧ Ext w w' := by
  obtain ⟨hN, hR, hB⟩ := h
  have HN := hid hN
  have HR := hid hR
  have HB := hid hB
  obtain ⟨q, hq⟩ : ∃ q, q = (σ.doneR no).1 := ⟨_, rfl⟩
  obtain ⟨d, hd⟩ : ∃ d, d = (σ.doneR no).2 := ⟨_, rfl⟩
  have Hfin := hid (fun (W : World) (h : Has W F) => rfin_any hB.ok hR h no)
  have Hdone := hid (done_net hN no)
  rw [← hq, ← hd] at Hfin Hdone
  have tq : (q != q) = false := by simp
  have td : (d != d) = false := by simp
  clear hN hR hB hq hd
  by_cases he : σ.snapErr no = 0
  · obtain ⟨k, rfl, hk⟩ : ∃ k : Nat, no = k + 1 ∧ k < σ.shots.length := by
      rcases snapErr_cases σ no with ⟨_, h2⟩ | ⟨k, x, hk, hx, h2⟩
      · rw [he] at h2; cases h2
      · exact ⟨k, hk, (List.getElem?_eq_some_iff.1 hx).1⟩
    obtain ⟨z1, z2, z3, z4, z5⟩ := shot_bounds HB.out.ok hk
    have Hs := hid (fun (W : World) (Y : MS) (h : NetAt Q Y σ b W) => snapshot_net h hk he)
    have Hc := hid (fun (W : World) (Y : MS) (h : NetAt Q Y σ b W) => cut_net h hk he)
    have Hrs := hid (fun (W : World) (h : Has W F) => rsnapshot_yes HB.out.ok HR.out h hk he)
    have Hrc := hid (fun (W : World) (h : Has W F) => rcut_yes HB.out.ok HR.out h hk he)
    have n5 : σ.n ≤ 5 := HB.out.ok.n5
    have hn : σ.sta.length = σ.n := rfl
    rw [hn] at Hrs Hrc
    generalize σ.n = n at *
    rw [z1, z3] at Hs
    rw [z2] at Hc
    generalize (σ.X k).pieces = xp at *
    generalize (σ.X k).cut = xc at *
    generalize (σ.X k).under = xu at *
    have Hz := hid (And.intro z1 (And.intro z2 (And.intro z3 (And.intro z4 z5))))
    have n5I : (n : Int) ≤ 5 := by omega
    clear hn z1 z2 z3 z4 z5 he
    go_enter Try.func34, Try.ntmps34
    go_wp2_with (first
      | (go_at_call 17; refine Hdone.out.mono ?_; rintro e w1 ⟨rfl, rfl⟩)
      | (go_at_call 74; refine (Hfin.out _ HN.out.ref).mono ?_; rintro e w2 ⟨rfl, k1, k2⟩; have K1 := hid (HN.out.keep k1); have E1 := hid k2; clear k1 k2)
      | (go_at_call 21; refine (Hs.out _ _ K1.out).mono ?_; rintro e w3 ⟨A, c, A', c', mr, mr', rfl, k1, k2, k3, k4⟩; have R1 := hid k1; have R2 := hid k2; have K3 := hid k3; have E3 := hid (E1.out.trans k4); clear k1 k2 k3 k4)
      | (go_at_call 75
         refine (Hrs.out _ ((K3.out.alloc (.cells #[.slice A n c, .slice A' n c'] 38)).has.eq (b := F + (pts w3.heap.size (.cells #[.slice A n c, .slice A' n c'] 38) + (mr + (mr' + G)))) (by ac_rfl)).left).mono ?_
         rintro e w4 ⟨B, d1, B', d1', rfl, k1, k2, k3, k4⟩
         have R3 := hid k1; have R4 := hid k2
         have K4 := hid (((K3.out.alloc (.cells #[.slice A n c, .slice A' n c'] 38)).keep k3).same (F' := F + (pts w3.heap.size (.cells #[.slice A n c, .slice A' n c'] 38) + (mr + (mr' + G)))) (by ac_rfl)); have E4 := hid ((E3.out.trans (Ext.alloc _ _)).trans k4); clear k1 k2 k3 k4
         have f0 : w4.cell? ⟨w3.heap.size, 0, none⟩ = some (.slice A n c) := (K4.out.has.eq (b := blk w3.heap.size #[.slice A n c, .slice A' n c'] 38 + (F + (mr + (mr' + G)))) (by show _ + (blk _ _ _ + _) = _; ac_rfl)).at_ rfl
         have f1 : w4.cell? ⟨w3.heap.size, 1, none⟩ = some (.slice A' n c') := (K4.out.has.eq (b := blk w3.heap.size #[.slice A n c, .slice A' n c'] 38 + (F + (mr + (mr' + G)))) (by show _ + (blk _ _ _ + _) = _; ac_rfl)).at_ rfl
         have hgb := World.block_lt_of_cell? _ _ f0
         simp only at hgb)
      | (go_at_call 76
         refine (shots_same (F := F + (pts w3.heap.size (.cells #[.slice A n c, .slice A' n c'] 38) + (mr + (mr' + G)))) (((R1.out.rdS.less _).more _).more F) ((((R2.out.rdS.less G).more mr).more _).more F) (R3.out.less _) (R4.out.less _) (K4.out.alloc _).has.right (by have := Hz.out.1; omega) (by have := Hz.out.2.2.1; omega) Hz.out.2.2.2.1 Hz.out.2.2.2.2).mono ?_
         rintro e w5 ⟨rfl, k3, k4⟩
         have K5 := hid ((K4.out.alloc _).keep k3); have E5 := hid ((E4.out.trans (Ext.alloc _ _)).trans k4); clear k3 k4 f0 f1 hgb)
      | (go_at_call 22; refine (Hc.out _ _ K5.out).mono ?_; rintro e w6 ⟨A2, c2, mc, rfl, k1, k2, k3⟩; have R5 := hid k1; have K6 := hid k2; have E6 := hid (E5.out.trans k3); clear k1 k2 k3)
      | (go_at_call 77
         refine (Hrc.out _ K6.out.has.right.right.left).mono ?_
         rintro e w7 ⟨B2, d2, rfl, k1, k3, k4⟩
         have R6 := hid k1; have K7 := hid (K6.out.keep k3); have E7 := hid (E6.out.trans k4); clear k1 k3 k4)
      | (go_at_call 30
         refine (numbers_any (R5.out.rdS.less _) (((R6.out.less _).more _).more mc) K7.out.has (by have := Hz.out.2.1; omega) (by have := Hz.out.2.1; omega)).mono ?_
         rintro e w8 ⟨rfl, k3, k4⟩
         rw [numEq_self]
         have K8 := hid (K7.out.keep k3); have E8 := hid (E7.out.trans k4); clear k3 k4))
    obtain ⟨hok, Pl, ps, m, hI, hHas⟩ := K8.out
    obtain ⟨R, hR⟩ : ∃ R, R = blk w3.heap.size #[.slice A n c, .slice A' n c'] 38 + (pts w4.heap.size (.cells #[.slice B n d1, .slice B' n d1'] 38) + ((F + (mr' + G)) + (m + (Pl + Q)))) := ⟨_, rfl⟩
    have H0 := hid (show Has w8 (mr + (mc + R)) from hHas.eq (by rw [hR]; show m + ((Pl + Q) + (mc + (pts w4.heap.size (.cells #[.slice B n d1, .slice B' n d1'] 38) + (F + (blk w3.heap.size #[.slice A n c, .slice A' n c'] 38 + (mr + (mr' + G))))))) = _; ac_rfl))
    have HR0 := hid hR
    have HI := hid (And.intro hok hI)
    clear hok hI hHas hR
    go_loopw [15] (fun v wr => ∃ (t : Nat) (p' x' : List Int) (m1 m2 : MS), t ≤ n ∧ v = .int .i64 t ∧ p'.length = n ∧ x'.length = n ∧ Ints p' (.slice A n c) m1 ∧ Ints x' (.slice A2 n c2) m2 ∧ Has wr (m1 + (m2 + R)) ∧ Ext w wr) (fun v _ => n - (intOf v).toNat)
    case atStart => exact ⟨0, xp, xc, mr, mc, Nat.zero_le _, rfl, Hz.out.1, Hz.out.2.1, R1.out, R5.out, H0.out, E8.out⟩
    case round =>
      obtain ⟨t, p', x', m1, m2, ht, rfl, hp, hx, hip, hix, hHt, hEt⟩ := hrel
      have f0 : wr.cell? ⟨w3.heap.size, 0, none⟩ = some (.slice A n c) := (hHt.eq (b := blk w3.heap.size #[.slice A n c, .slice A' n c'] 38 + (m1 + (m2 + (pts w4.heap.size (.cells #[.slice B n d1, .slice B' n d1'] 38) + ((F + (mr' + G)) + (m + (Pl + Q))))))) (by rw [HR0.out]; ac_rfl)).at_ rfl
      have HHt := hid hHt
      have HEt := hid hEt
      clear hHt hEt
      by_cases hlt : t < n
      · obtain ⟨bp, op, cp, curp, e1, rfl, hlp, hgp, hputp⟩ := hip.set_at (j := t) (by omega)
        obtain ⟨bx, ox, cx, curx, e2, rfl, hlx, hgx, hputx⟩ := hix.set_at (j := t) (by omega)
        injection e1 with e1 e1n e1'
        injection e2 with e2 e2n e2'
        subst e1; subst e1'; subst e2; subst e2'
        clear e1n e2n
        have fp : wr.cell? ⟨bp, op + t, none⟩ = some (.int .i64 (p'.getD t 0)) := HHt.out.at_ hgp
        have hfx : ∀ (W : World) (cs : Array Value), Has W (blk bp cs 3 + (blk bx curx 3 + R)) → W.cell? ⟨bx, ox + t, none⟩ = some (.int .i64 (x'.getD t 0)) := fun W cs h => (h.eq (b := blk bx curx 3 + (blk bp cs 3 + R)) (by ac_rfl)).at_ hgx
        have Hfx := hid hfx
        have Hputp := hid hputp
        have Hputx := hid hputx
        have Hlt := hid hlt
        have hltI : (t : Int) < n := by omega
        have Hlen := hid (And.intro hp hx)
        clear hip hix hgp hgx hputp hputx hfx hlt hp hx
        generalize p'.getD t 0 = ap at *
        generalize x'.getD t 0 = ax at *
        go_wp2_with (first
          | (refine wpList_store_blk rfl (.tmp 91) (.tmp 90) 3 rfl size3 bp (op + t) (.int .i64 (wrap64 (ap + 1))) rfl rfl rfl curp 3 _ HHt.out hlp ?_; intro w9 H9 E9; have fx := Hfx.out w9 _ H9; have HH9 := hid H9; have EE9 := hid E9; clear H9 E9)
          | (refine wpList_store_blk rfl (.tmp 97) (.tmp 96) 3 rfl size3 bx (ox + t) (.int .i64 (wrap64 (ax + 1))) rfl rfl rfl curx 3 _ (HH9.out.eq (MS.left_comm _ _ _)) hlx ?_; intro w10 H10 E10; have HH10 := hid H10; have EE10 := hid E10; clear H10 E10))
        go_roundw
        case rel => exact ⟨t + 1, _, _, _, _, Hlt.out, by go_num, by rw [List.length_set]; exact Hlen.out.1, by rw [List.length_set]; exact Hlen.out.2, Hputp.out _, Hputx.out _, HH10.out.eq (MS.left_comm _ _ _), (HEt.out.trans EE9.out).trans EE10.out⟩
        case measure => have := Hlt.out; simp [intOf]; omega
      · obtain rfl : t = n := by omega
        have HX := hid (show NetAt Q (F + G) σ b wr from ⟨HI.out.1, Pl, ps, m, HI.out.2, (HHt.out.eq (b := (blk w3.heap.size #[.slice A t c, .slice A' t c'] 38 + (m1 + (m2 + (pts w4.heap.size (.cells #[.slice B t d1, .slice B' t d1'] 38) + mr')))) + (m + ((Pl + Q) + (F + G)))) (by rw [HR0.out]; ac_rfl)).right⟩)
        go_wp2
        go_ret
        exact ⟨rfl, ⟨HX.out, HR.out, HB.out⟩, HEt.out⟩
  · have Hs := hid (fun (W : World) (Y : MS) (h : NetAt Q Y σ b W) => snapshot_none h no he)
    have Hc := hid (fun (W : World) (Y : MS) (h : NetAt Q Y σ b W) => cut_none h no he)
    have Hrs := hid (fun (W : World) (h : Has W F) => rsnapshot_no HB.out.ok HR.out h no he)
    have Hrc := hid (fun (W : World) (h : Has W F) => rcut_no HB.out.ok HR.out h no he)
    generalize σ.snapErr no = se at *
    have ts : (se != se) = false := by simp
    clear he
    go_enter Try.func34, Try.ntmps34
    go_wp2_with (first
      | (go_at_call 17; refine Hdone.out.mono ?_; rintro e w1 ⟨rfl, rfl⟩)
      | (go_at_call 74; refine (Hfin.out _ HN.out.ref).mono ?_; rintro e w2 ⟨rfl, k1, k2⟩; have K1 := hid (HN.out.keep k1); have E1 := hid k2; clear k1 k2)
      | (go_at_call 21; refine (Hs.out _ _ K1.out).mono ?_; rintro e w3 ⟨rfl, k1, k2⟩; have K3 := hid (K1.out.keep k1); have E3 := hid (E1.out.trans k2); clear k1 k2)
      | (go_at_call 75
         refine (Hrs.out _ ((K3.out.alloc (.cells #[.slice none 0 0, .slice none 0 0] 38)).has.eq (b := F + (pts w3.heap.size (.cells #[.slice none 0 0, .slice none 0 0] 38) + G)) (by ac_rfl)).left).mono ?_
         rintro e w4 ⟨rfl, k3, k4⟩
         have K4 := hid ((K3.out.alloc (.cells #[.slice none 0 0, .slice none 0 0] 38)).keep k3); have E4 := hid ((E3.out.trans (Ext.alloc _ _)).trans k4); clear k3 k4
         have f0 : w4.cell? ⟨w3.heap.size, 0, none⟩ = some (.slice none 0 0) := (show Has w4 (blk w3.heap.size #[.slice none 0 0, .slice none 0 0] 38 + (F + G)) from K4.out.has).at_ rfl
         have f1 : w4.cell? ⟨w3.heap.size, 1, none⟩ = some (.slice none 0 0) := (show Has w4 (blk w3.heap.size #[.slice none 0 0, .slice none 0 0] 38 + (F + G)) from K4.out.has).at_ rfl
         have hgb := World.block_lt_of_cell? _ _ f0
         simp only at hgb)
      | (go_at_call 76
         refine (shots_same (F := 0) (RdS.nil _ _) (RdS.nil _ _) (RdS.nil _ _) (RdS.nil _ _) (Has.zero _) (by simp) (by simp) (by simp) (by simp)).mono ?_
         rintro e w5 ⟨rfl, k3, k4⟩
         have K5 := hid ((K4.out.alloc _).keep k3); have E5 := hid ((E4.out.trans (Ext.alloc _ _)).trans k4); clear k3 k4 f0 f1 hgb)
      | (go_at_call 22; refine (Hc.out _ _ K5.out).mono ?_; rintro e w6 ⟨rfl, rfl⟩)
      | (go_at_call 77
         refine (Hrc.out _ K5.out.has.right.right.left).mono ?_
         rintro e w7 ⟨rfl, k3, k4⟩
         have K7 := hid (K5.out.keep k3); have E7 := hid (E5.out.trans k4); clear k3 k4)
      | (go_at_call 30
         refine (numbers_any (F := 0) (RdS.nil _ _) (RdS.nil _ _) (Has.zero _) (by simp) (by simp)).mono ?_
         rintro e w8 ⟨rfl, k3, k4⟩
         rw [numEq_self]
         have K8 := hid (K7.out.keep k3); have E8 := hid (E7.out.trans k4); clear k3 k4))
    have f0 : w8.cell? ⟨w3.heap.size, 0, none⟩ = some (.slice none 0 0) := (K8.out.has.eq (b := blk w3.heap.size #[.slice none 0 0, .slice none 0 0] 38 + (pts w4.heap.size (.cells #[.slice none 0 0, .slice none 0 0] 38) + (F + G))) (by show _ + (blk _ _ _ + _) = _; ac_rfl)).at_ rfl
    go_loopw [15] (fun v wr => v = .int .i64 0 ∧ wr = w8) (fun _ _ => 0)
    case atStart => exact ⟨rfl, rfl⟩
    case round =>
      obtain ⟨rfl, rfl⟩ := hrel
      go_wp2
      go_ret
      exact ⟨rfl, ⟨(K8.out.beside).beside, HR.out, HB.out⟩, E8.out⟩
end Go.Proofs.Ytnkgfgkgepadhaa

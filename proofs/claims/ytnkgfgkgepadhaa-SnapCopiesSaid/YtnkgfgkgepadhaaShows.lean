/-
  The walk of shows: both show the same.
-/
import Derived.Test.YtnkgfgkgepadhaaShotW
namespace Go.Proofs.Ytnkgfgkgepadhaa
open Go.RowKit
set_option linter.unusedVariables false
set_option linter.unusedSimpArgs false
variable {Q : MS}
set_option maxHeartbeats 4000000
set_option maxRecDepth 100000

/-- A part of the memory beside a net, taken out to be written. -/
theorem NetAt.part {F X : MS} {σ : Net} {b : Nat} {w : World} (h : NetAt Q (X + F) σ b w) : ∃ R, Has w (X + R) ∧ ∀ W X', Has W (X' + R) → NetAt Q (X' + F) σ b W := by
  obtain ⟨hok, Pl, ps, m, h1, h2⟩ := h
  exact ⟨m + ((Pl + Q) + F), h2.eq (by ac_rfl), fun W X' h => ⟨hok, Pl, ps, m, h1, h.eq (by ac_rfl)⟩⟩
/-- The first number of an event's clock. -/
theorem ev_first {l : List Ev} {v : Value} {m : MS} (h : SlR 68 5 EvR l v m) {i : Nat} {x : Ev} (hx : l[i]? = some x) (hc : 0 < x.clock.length) :
    ∃ b o c cur bq oq cq curq R, v = .slice (some ⟨b, o, none⟩) l.length c ∧ m = blk b cur 68 + (blk bq curq 3 + R) ∧ cur[o + i * 5 + 4]? = some (.slice (some ⟨bq, oq, none⟩) x.clock.length cq) ∧ oq < curq.size ∧
      ∀ u, SlR 68 5 EvR (l.set i { x with clock := x.clock.set 0 u }) v (blk b cur 68 + (blk bq (curq.setIfInBounds oq (.int .i64 u)) 3 + R)) := by
  obtain ⟨hi, rfl⟩ := List.getElem?_eq_some_iff.1 hx
  obtain ⟨b, o, c, cur, ci, n1, n2, rfl, rfl, ⟨vc, rfl, hk, hone⟩, hcell, hput⟩ := SlR.take EvR.len h hi
  obtain ⟨bq, oq, cq, curq, rfl, rfl, lq, hg, hputq⟩ := hk.set_at hc
  have e := hcell 4 (by omega)
  refine ⟨b, o, c, cur, bq, oq, cq, curq, n2, rfl, rfl, e, by simpa using lq, fun u => ?_⟩
  have k := hputq u
  rw [Nat.add_zero] at k
  have a := hput { l[i] with clock := l[i].clock.set 0 u } _ _ cur ⟨_, rfl, k, SlR.one k⟩ rfl (fun _ _ => rfl) (fun j hj => hcell j hj)
  exact (show _ = _ by ac_rfl : blk b cur 68 + (blk bq (curq.setIfInBounds oq (.int .i64 u)) 3 + n2) = _) ▸ a

def Net.waits (σ : Net) (x y : Int) : List Int × Int := if pairErr σ.sta.length x y = 0 then ((σ.lineAt x.toNat y.toNat).map Msg.told, 0) else ([], 2)
theorem waits_net {F : MS} {σ : Net} {b : Nat} {w : World} (h : NetAt Q F σ b w) (x y : Int) :
    Calls Try.prog 28 #[.pointer (some ⟨b, 0, none⟩), .int .i64 x, .int .i64 y] w fun e w' => ∃ A c m, e = .returned (.tuple #[.slice A (σ.waits x y).1.length c, .int .i64 (σ.waits x y).2]) ∧ Ints (σ.waits x y).1 (.slice A (σ.waits x y).1.length c) m ∧ NetAt Q (m + F) σ b w' ∧ Ext w w' := by
  rcases pairErr_cases σ.sta.length x y with h5 | ⟨h5, i, j, rfl, rfl, hi, hj, hij⟩
  · have e : σ.waits x y = ([], 2) := by unfold Net.waits; rw [if_neg (by rw [h5]; decide)]
    rw [e]
    refine (waiting_none h x y h5).mono ?_
    rintro e w' ⟨rfl, rfl⟩
    exact ⟨none, 0, 0, rfl, Ints.nil, h.same (MS.zero_add _).symm, Ext.refl w⟩
  · have e : σ.waits i j = ((σ.lineAt i j).map Msg.told, 0) := by unfold Net.waits; rw [if_pos h5]; rfl
    rw [e]
    refine (waiting_net h hi hj hij).mono ?_
    rintro e w' ⟨A, c, m, rfl, k1, k2, k3⟩
    exact ⟨A, c, m, by simp, by simpa using k1, k2, k3⟩
theorem rwaits_net {F : MS} {σ τ : Net} {b b2 : Nat} {w : World} (h : NetAt Q F σ b w) (hr : RdRef F τ b2) (hok : NetOk τ) (x y : Int) :
    Calls Try.prog 33 #[.pointer (some ⟨b2, 0, none⟩), .int .i64 x, .int .i64 y] w fun e w' => ∃ A c m, e = .returned (.tuple #[.slice A (τ.waits x y).1.length c, .int .i64 (τ.waits x y).2]) ∧ Ints (τ.waits x y).1 (.slice A (τ.waits x y).1.length c) m ∧ NetAt Q (m + F) σ b w' ∧ Ext w w' := by
  rcases pairErr_cases τ.sta.length x y with h5 | ⟨h5, i, j, rfl, rfl, hi, hj, hij⟩
  · have e : τ.waits x y = ([], 2) := by unfold Net.waits; rw [if_neg (by rw [h5]; decide)]
    rw [e]
    refine (rwaiting_no hr h.has x y h5).mono ?_
    rintro e w' ⟨rfl, rfl⟩
    exact ⟨none, 0, 0, rfl, Ints.nil, h.same (MS.zero_add _).symm, Ext.refl w⟩
  · have e : τ.waits i j = ((τ.lineAt i j).map Msg.told, 0) := by unfold Net.waits; rw [if_pos h5]; rfl
    rw [e]
    obtain ⟨hk, Pl, ps, m, h1, h2⟩ := h
    refine (rwaiting_yes (F := m + ((Pl + Q) + F)) hok ((hr.more (Pl + Q)).more m) h2 i j hi hj h5).mono ?_
    rintro e w' ⟨A, c, mr, rfl, k1, k2, k3⟩
    exact ⟨A, c, mr, by simp, by simpa using k1, ⟨hk, Pl, ps, m, h1, k2.eq (by ac_rfl)⟩, k3⟩
theorem waits_len {σ : Net} (h : NetOk σ) (x y : Int) : (σ.waits x y).1.length ≤ 1000 := by
  rcases pairErr_cases σ.sta.length x y with h5 | ⟨h5, i, j, rfl, rfl, hi, hj, hij⟩
  · unfold Net.waits; rw [if_neg (by rw [h5]; decide)]; simp
  · unfold Net.waits; rw [if_pos h5]
    simp only [List.length_map, Int.toNat_natCast]
    exact line_len h hi hj

theorem shows_any {F G : MS} {σ : Net} {b b2 : Nat} {w : World} (h : PairAt Q F G σ b b2 w) :
    Calls Try.prog 32 #[.pointer (some ⟨b, 0, none⟩), .pointer (some ⟨b2, 0, none⟩)] w fun e w' => e = .returned (.bool true) ∧ PairAt Q F G σ b b2 w' ∧ Ext w w' := by
  obtain ⟨hN, hR, hB⟩ := h
  obtain ⟨A0, c0, A2, c2, A3, c3, A4, c4, a0, k0, a2, k2, a3, k3, a4, k4⟩ := hR.head
  have hc5 : ∀ e ∈ σ.evs, e.clock.length ≤ 5 := fun e he => by rw [(hB.ev e he).cl]; exact hB.ok.n5
  have hc1 : ∀ e ∈ σ.evs, 0 < e.clock.length := fun e he => by rw [(hB.ev e he).cl]; have := hB.ok.n2; show 0 < σ.sta.length; omega
  have Hpc := hid (pieces_net hN)
  have Hev := hid (fun (W : World) (Y : MS) (h : NetAt Q Y σ b W) => events_net h hc5)
  have Htot := hid (fun (W : World) (Y : MS) (h : NetAt Q Y σ b W) => total_net h)
  have Hrt := hid (fun (W : World) (h : Has W F) => rtotal_any hB.ok hR h)
  have Hw := hid (fun (x y : Int) (W : World) (Y : MS) (h : NetAt Q Y σ b W) => waits_net h x y)
  have Hrw := hid (fun (x y : Int) (W : World) (Y : MS) (h : NetAt Q (Y + (F + G)) σ b W) => rwaits_net h ((hR.less G).more Y) hB.ok x y)
  have Hwl := hid (fun x y => waits_len hB.ok x y)
  have Hsh := hid (fun (W : World) (h : NetAt Q (F + G) σ b W) (no : Int) => shot_any ⟨h, hR, hB⟩ no)
  have Hk := hid (And.intro k0 k3)
  have Hf := hid (show ∀ (W : World) (Y : MS), NetAt Q (Y + (F + G)) σ b W → W.cell? ⟨b2, 0, none⟩ = some (.slice A0 σ.sta.length c0) ∧ W.cell? ⟨b2, 3, none⟩ = some (.slice A3 σ.evs.length c3) ∧ W.cell? ⟨b2, 4, none⟩ = some (.slice A4 σ.shots.length c4) from fun W Y h =>
    have hF := h.has.right.left
    ⟨a0.cell0 hF, a3.cell0 hF, a4.cell0 hF⟩)
  have HRB := hid (And.intro hR hB)
  have HN := hid hN
  have n5 : σ.sta.length ≤ 5 := hB.ok.n5
  have ev4 : σ.evs.length ≤ 400 := hB.ok.evs
  have sh8 : σ.shots.length ≤ 8 := hB.ok.shots
  have n5I : (σ.sta.length : Int) ≤ 5 := by omega
  have ev4I : (σ.evs.length : Int) ≤ 400 := by omega
  have sh8I : (σ.shots.length : Int) ≤ 8 := by omega
  have hhl : σ.helds.length = σ.sta.length := by simp [Net.helds]
  have hsm : σ.sta.map Sta.pieces = σ.helds := rfl
  have tt : (σ.total != σ.total) = false := by simp
  have Hhl := hid hhl
  have Hc1 := hid hc1
  have Hc5 := hid hc5
  rw [hsm] at Hpc
  clear hN hR hB a0 k0 a2 k2 a3 k3 a4 k4 hc5 hc1 hhl hsm
  generalize σ.total = tot at *
  generalize σ.helds = hds at *
  go_enter Try.func32, Try.ntmps32
  go_wp2_with (first
    | (go_at_call 47; refine Hpc.out.mono ?_; rintro e w1 ⟨A, c, m1, rfl, k1, k2, k3⟩; have R1 := hid k1; have K1 := hid k2; have E1 := hid k3; clear k1 k2 k3)
    | (go_at_call 18; refine (Hev.out _ _ K1.out).mono ?_; rintro e w2 ⟨B, d, m2, rfl, k1, k2, k3, k4⟩; have R2 := hid k1; have R3 := hid k2; have K2 := hid (k3.same (F' := (m2 + m1) + (F + G)) (by ac_rfl)); have E2 := hid (E1.out.trans k4); obtain ⟨f0, f3, f4⟩ := Hf.out _ _ K2.out; clear k1 k2 k3 k4)
    | (go_at_call 30; refine (numbers_any ((R1.out.rdS.more m2).less (F + G)) ((Hk.out.1.less G).more (m2 + m1)) K2.out.has (by have := Hhl.out; omega) (by have := Hhl.out; omega)).mono ?_; rintro e w3 ⟨rfl, k1, k2⟩; rw [numEq_self]; have K3 := hid (K2.out.keep k1); have E3 := hid (E2.out.trans k2); clear f0 f3 f4; obtain ⟨f0, f3, f4⟩ := Hf.out _ _ K3.out; clear k1 k2)
    | (go_at_call 71; refine (events_same ((R3.out.less m1).less (F + G)) ((Hk.out.2.less G).more (m2 + m1)) K3.out.has (by omega) (fun e he => by have := Hc5.out e he; omega)).mono ?_; rintro e w4 ⟨rfl, k1, k2⟩; have K4 := hid (K3.out.keep k1); have E4 := hid (E3.out.trans k2); clear k1 k2)
    | (go_at_call 19; refine (Htot.out _ _ K4.out).mono ?_; rintro e w5 ⟨rfl, k1, k2⟩; have K5 := hid k1; have E5 := hid (E4.out.trans k2); clear k1 k2)
    | (go_at_call 72; refine (Hrt.out _ K5.out.has.right.left).mono ?_; rintro e w6 ⟨rfl, rfl⟩))
  clear f0 f3 f4
  obtain ⟨R, hp1, hp2⟩ := (K5.out.same (F' := m1 + (m2 + (F + G))) (by ac_rfl)).part
  have Hp1 := hid hp1
  have Hp2 := hid hp2
  clear hp1 hp2
  go_loopw [7] (fun v wr => ∃ (t : Nat) (p' : List Int) (m' : MS), t ≤ σ.sta.length ∧ v = .int .i64 t ∧ p'.length = σ.sta.length ∧ Ints p' (.slice A σ.sta.length c) m' ∧ Has wr (m' + R) ∧ Ext w wr) (fun v _ => σ.sta.length - (intOf v).toNat)
  case atStart => exact ⟨0, hds, m1, Nat.zero_le _, rfl, Hhl.out, R1.out, Hp1.out, E5.out⟩
  case round =>
    obtain ⟨t, p', m', ht, rfl, hp, hip, hHt, hEt⟩ := hrel
    have HHt := hid hHt
    have HEt := hid hEt
    clear hHt hEt
    by_cases hlt : t < σ.sta.length
    · obtain ⟨bp, op, cp, curp, e1, rfl, hlp, hgp, hputp⟩ := hip.set_at (j := t) (by omega)
      injection e1 with e1 e1n e1'
      subst e1; subst e1'
      clear e1n
      have fp : wr.cell? ⟨bp, op + t, none⟩ = some (.int .i64 (p'.getD t 0)) := HHt.out.at_ hgp
      have Hputp := hid hputp
      have Hlt := hid hlt
      have hltI : (t : Int) < σ.sta.length := by omega
      have Hlen := hid hp
      clear hip hgp hputp hlt hp
      generalize p'.getD t 0 = ap at *
      go_wp2_with (refine wpList_store_blk rfl (.tmp 55) (.tmp 54) 3 rfl size3 bp (op + t) (.int .i64 (wrap64 (ap + 1))) rfl rfl rfl curp 3 _ HHt.out hlp ?_; intro w9 H9 E9; have HH9 := hid H9; have EE9 := hid E9; clear H9 E9)
      go_roundw
      case rel => exact ⟨t + 1, _, _, Hlt.out, by go_num, by rw [List.length_set]; exact Hlen.out, Hputp.out _, HH9.out, HEt.out.trans EE9.out⟩
      case measure => have := Hlt.out; simp [intOf]; omega
    · obtain rfl : t = σ.sta.length := by omega
      have HK := hid (Hp2.out wr m' HHt.out)
      clear hip hp
      obtain ⟨R', hp1, hp2⟩ := (HK.out.same (F' := m2 + (m' + (F + G))) (by ac_rfl)).part
      have Hp1' := hid hp1
      have Hp2' := hid hp2
      clear hp1 hp2
      go_wp2
      go_loopw [8] (fun v wr => ∃ (t : Nat) (l' : List Ev) (mm : MS), t ≤ σ.evs.length ∧ v = .int .i64 t ∧ l'.length = σ.evs.length ∧ (∀ e ∈ l', 0 < e.clock.length ∧ e.clock.length ≤ 5) ∧ SlR 68 5 EvR l' (.slice B σ.evs.length d) mm ∧ Has wr (mm + R') ∧ Ext w wr) (fun v _ => σ.evs.length - (intOf v).toNat)
      case atStart => exact ⟨0, σ.evs, m2, Nat.zero_le _, rfl, rfl, fun e he => ⟨Hc1.out e he, Hc5.out e he⟩, R2.out, Hp1'.out, HEt.out⟩
      case round =>
        obtain ⟨t, l', mm, ht, rfl, hll, hcc, hil, hHs, hEs⟩ := hrel
        have HHs := hid hHs
        have HEs := hid hEs
        have Hcc := hid hcc
        clear hHs hEs hcc
        by_cases hlt : t < σ.evs.length
        · obtain ⟨x, hx⟩ : ∃ x, l'[t]? = some x := ⟨_, List.getElem?_eq_getElem (by omega)⟩
          obtain ⟨hx0, hx5⟩ := Hcc.out x (List.mem_of_getElem? hx)
          obtain ⟨bl, ol, cl, curl, bq, oq, cq, curq, Rl, e1, rfl, hcell, hlq, hputq⟩ := ev_first hil hx hx0
          injection e1 with e1 e1n e1'
          subst e1; subst e1'
          clear e1n
          have f1 : wr.cell? ⟨bl, ol + t * 5 + 4, none⟩ = some (.slice (some ⟨bq, oq, none⟩) x.clock.length cq) := (HHs.out.eq (b := blk bl curl 68 + (blk bq curq 3 + Rl + R')) (by ac_rfl)).at_ hcell
          have Hputq := hid hputq
          have Hlt := hid hlt
          have hltI : (t : Int) < σ.evs.length := by omega
          have hx0I : (0 : Int) < x.clock.length := by omega
          have Hlen := hid hll
          have Hx := hid hx
          clear hil hcell hputq hlt hll hx
          go_wp2_with (refine wpList_store_blk rfl (.tmp 67) (.const (.int .i64 99)) 3 rfl size3 bq oq (.int .i64 99) rfl rfl rfl curq 3 (blk bl curl 68 + (Rl + R')) (HHs.out.eq (by ac_rfl)) hlq ?_; intro w9 H9 E9; have HH9 := hid H9; have EE9 := hid E9; clear H9 E9)
          go_roundw
          case rel => exact ⟨t + 1, _, _, Hlt.out, by go_num, by rw [List.length_set]; exact Hlen.out, fun e he => by
              rcases List.mem_or_eq_of_mem_set he with he | rfl
              · exact Hcc.out e he
              · show 0 < (List.set _ _ _).length ∧ (List.set _ _ _).length ≤ 5
                rw [List.length_set]; exact ⟨hx0, hx5⟩, Hputq.out 99, HH9.out.eq (by ac_rfl), HEs.out.trans EE9.out⟩
          case measure => have := Hlt.out; simp [intOf]; omega
        · obtain rfl : t = σ.evs.length := by omega
          have HK2 := hid (show NetAt Q (F + G) σ b wr from ((Hp2'.out wr mm HHs.out).beside).beside)
          clear hil hll
          go_wp2
          go_loopw [9] (fun v wr => ∃ t : Nat, t ≤ σ.sta.length ∧ v = .int .i64 t ∧ NetAt Q (F + G) σ b wr ∧ Ext w wr) (fun v _ => σ.sta.length - (intOf v).toNat)
          case atStart => exact ⟨0, Nat.zero_le _, rfl, HK2.out, HEs.out⟩
          case round =>
            obtain ⟨x, hx, rfl, hNx, hEx⟩ := hrel
            obtain ⟨f0, _, f4⟩ := Hf.out wr 0 (hNx.same (MS.zero_add _).symm)
            have HNx := hid hNx
            have HEx := hid hEx
            clear hNx hEx
            by_cases hlx : x < σ.sta.length
            · have Hlx := hid hlx
              have hlxI : (x : Int) < σ.sta.length := by omega
              clear hlx
              go_wp2
              go_loopw [10] (fun v wr => ∃ t : Nat, t ≤ σ.sta.length ∧ v = .int .i64 t ∧ NetAt Q (F + G) σ b wr ∧ Ext w wr) (fun v _ => σ.sta.length - (intOf v).toNat)
              case atStart => exact ⟨0, Nat.zero_le _, rfl, HNx.out, HEx.out⟩
              case round =>
                obtain ⟨y, hy, rfl, hNy, hEy⟩ := hrel
                obtain ⟨f0, _, f4⟩ := Hf.out wr 0 (hNy.same (MS.zero_add _).symm)
                have HNy := hid hNy
                have HEy := hid hEy
                clear hNy hEy
                by_cases hly : y < σ.sta.length
                · have Hly := hid hly
                  have hlyI : (y : Int) < σ.sta.length := by omega
                  have Hw1 := hid (Hw.out x y)
                  have Hrw1 := hid (Hrw.out x y)
                  have hwl := Hwl.out x y
                  have te : ((σ.waits x y).2 != (σ.waits x y).2) = false := by simp
                  clear hly
                  generalize (σ.waits x y).1 = wl at *
                  generalize (σ.waits x y).2 = we at *
                  have hwlI : (wl.length : Int) ≤ 1000 := by omega
                  go_wp2_with (first
                    | (go_at_call 28; refine (Hw1.out _ _ HNy.out).mono ?_; rintro e w8 ⟨Aw, cw, mw, rfl, k1, k2, k3⟩; have R8 := hid k1; have K8 := hid k2; have E8 := hid (HEy.out.trans k3); clear k1 k2 k3)
                    | (go_at_call 33; refine (Hrw1.out _ _ K8.out).mono ?_; rintro e w9 ⟨Ax, cx, mx, rfl, k1, k2, k3⟩; have R9 := hid k1; have K9 := hid k2; have E9 := hid (E8.out.trans k3); clear k1 k2 k3)
                    | (go_at_call 30; refine (numbers_any (((R8.out.rdS.less (F + G)).more mx)) (R9.out.rdS.less _) K9.out.has (by omega) (by omega)).mono ?_; rintro e w10 ⟨rfl, k1, k2⟩; rw [numEq_self]; have K10 := hid (K9.out.keep k1); have E10 := hid (E9.out.trans k2); clear k1 k2))
                  obtain ⟨Rw, hp1, hp2⟩ := (K10.out.same (F' := mw + (mx + (F + G))) (by ac_rfl)).part
                  have Hp1w := hid hp1
                  have Hp2w := hid hp2
                  clear hp1 hp2 f0 f4
                  go_loopw [15] (fun v wr => ∃ (t : Nat) (p' : List Int) (m' : MS), t ≤ wl.length ∧ v = .int .i64 t ∧ p'.length = wl.length ∧ Ints p' (.slice Aw wl.length cw) m' ∧ Has wr (m' + Rw) ∧ Ext w wr) (fun v _ => wl.length - (intOf v).toNat)
                  case atStart => exact ⟨0, wl, mw, Nat.zero_le _, rfl, rfl, R8.out, Hp1w.out, E10.out⟩
                  case round =>
                    obtain ⟨u, p', m', hu, rfl, hp, hip, hHu, hEu⟩ := hrel
                    have HHu := hid hHu
                    have HEu := hid hEu
                    clear hHu hEu
                    by_cases hlu : u < wl.length
                    · obtain ⟨bp, op, cp, curp, e1, rfl, hlp, hgp, hputp⟩ := hip.set_at (j := u) (by omega)
                      injection e1 with e1 e1n e1'
                      subst e1; subst e1'
                      clear e1n
                      have Hputp := hid hputp
                      have Hlu := hid hlu
                      have hluI : (u : Int) < wl.length := by omega
                      have Hlen := hid hp
                      clear hip hgp hputp hlu hp
                      go_wp2_with (refine wpList_store_blk rfl (.tmp 117) (.const (.int .i64 0)) 3 rfl size3 bp (op + u) (.int .i64 0) rfl rfl rfl curp 3 _ HHu.out hlp ?_; intro w9 H9 E9; have HH9 := hid H9; have EE9 := hid E9; clear H9 E9)
                      go_roundw
                      case rel => exact ⟨u + 1, _, _, Hlu.out, by go_num, by rw [List.length_set]; exact Hlen.out, Hputp.out _, HH9.out, HEu.out.trans EE9.out⟩
                      case measure => have := Hlu.out; simp [intOf]; omega
                    · obtain rfl : u = wl.length := by omega
                      have HKu := hid (show NetAt Q (F + G) σ b wr from ((Hp2w.out wr m' HHu.out).beside).beside)
                      clear hip hp
                      go_wp2
                      go_roundw
                      case rel => exact ⟨y + 1, Hly.out, by go_num, HKu.out, HEu.out⟩
                      case measure => have := Hly.out; simp [intOf]; omega
                · obtain rfl : y = σ.sta.length := by omega
                  go_wp2
                  go_roundw
                  case rel => exact ⟨x + 1, Hlx.out, by go_num, HNy.out, HEy.out⟩
                  case measure => have := Hlx.out; simp [intOf]; omega
            · obtain rfl : x = σ.sta.length := by omega
              go_wp2
              clear f0 f4
              go_loopw [16] (fun v wr => ∃ t : Nat, t ≤ σ.shots.length + 1 ∧ v = .int .i64 t ∧ NetAt Q (F + G) σ b wr ∧ Ext w wr) (fun v _ => σ.shots.length + 1 - (intOf v).toNat)
              case atStart => exact ⟨0, Nat.zero_le _, rfl, HNx.out, HEx.out⟩
              case round =>
                obtain ⟨y, hy, rfl, hNy, hEy⟩ := hrel
                obtain ⟨f0, _, f4⟩ := Hf.out wr 0 (hNy.same (MS.zero_add _).symm)
                have HNy := hid hNy
                have HEy := hid hEy
                clear hNy hEy
                by_cases hly : y ≤ σ.shots.length
                · have Hly := hid hly
                  have hlyI : (y : Int) ≤ σ.shots.length := by omega
                  clear hly
                  go_wp2_with (go_at_call 34; refine (Hsh.out _ HNy.out _).mono ?_; rintro e w8 ⟨rfl, k1, k2⟩; have K8 := hid k1.net; have E8 := hid (HEy.out.trans k2); clear k1 k2)
                  go_roundw
                  case rel => exact ⟨y + 1, by have := Hly.out; omega, by go_num, K8.out, E8.out⟩
                  case measure => have := Hly.out; simp [intOf]; omega
                · have hlyI : ¬ (y : Int) ≤ σ.shots.length := by omega
                  go_wp2
                  go_ret
                  exact ⟨rfl, ⟨HNy.out, HRB.out.1, HRB.out.2⟩, HEy.out⟩
end Go.Proofs.Ytnkgfgkgepadhaa

/-
  The walk of Copy: a net of its own, which shares the clocks of parcels alone.
-/
import Derived.Test.YtnkgfgkgepadhaaRefKeep
namespace Go.Proofs.Ytnkgfgkgepadhaa
open Go.RowKit
set_option linter.unusedVariables false
set_option linter.unusedSimpArgs false
set_option maxHeartbeats 4000000
set_option maxRecDepth 100000

theorem row80 : RowTy Try.prog 80 107 (.agg #[.int .i64 0, .int .i64 0, .slice none 0 0]) 3 40 := ⟨Try.underlying80, info107, rfl⟩
theorem row81 : RowTy Try.prog 81 92 (.slice none 0 0) 1 24 := ⟨Try.underlying81, info92, rfl⟩
theorem row82 : RowTy Try.prog 82 101 (.pointer none) 1 8 := ⟨Try.underlying82, info101, rfl⟩
/-- A message whose clock lies in the pool, as it is read. -/
def RT.pmsg (Pl : MS) : RT Msg := ⟨1, fun _ x cs => ∃ v, cs = [v] ∧ MsgV Pl x v 0, fun _ _ _ ⟨_, h, _⟩ => by rw [h]; rfl, fun _ _ _ _ h => h⟩
theorem El.pmsg {Pl : MS} : ∀ a cs m, El (MsgV Pl) a cs m → (RT.pmsg Pl).rel m a cs := fun a cs m ⟨v, h1, h2, _⟩ => ⟨v, h1, by
  have e := h2.1
  subst e
  exact h2⟩
theorem pmsg_rows {Pl F : MS} : ∀ {l : List Msg} {xs : List Value}, RowsQ ((RT.pmsg Pl).rel F) l xs → RowsR (El (MsgV Pl)) l xs 0
  | [], _, h => ⟨h, rfl⟩
  | a :: l, _, ⟨c1, c2, ⟨v, h1, h2⟩, h3, h4⟩ => ⟨c1, 0, c2, 0, ⟨v, h1, h2, h2.one⟩, pmsg_rows h3, h4, (MS.zero_add 0).symm⟩
theorem pmsg_one {Pl F : MS} {l : List Msg} {xs : List Value} (h : RowsQ ((RT.pmsg Pl).rel F) l xs) : ∀ u ∈ xs, u.oneCell' = true := RowsR.oneCell El.one (pmsg_rows h)
theorem rdc_none {F : MS} {A : Option Addr} {xs : List Value} {n sz : Nat} (h : RdC F A xs) (hl : xs.length = n * sz) (hs : 0 < sz) (hA : A = none) : n = 0 := by
  rcases Nat.eq_zero_or_pos n with h0 | h0
  · exact h0
  · have : 0 < n * sz := Nat.mul_pos h0 hs
    obtain ⟨b, o, h7, _⟩ := h (fun e => by rw [e] at hl; simp at hl; omega)
    rw [hA] at h7; cases h7

theorem clone_msgs {F Pl : MS} {A : Option Addr} {n c : Nat} {l : List Msg} {w : World} (hr : RdS F (RT.pmsg Pl) l (.slice A n c)) (hH : Has w F) (hl : l.length ≤ 1000000) :
    Calls Try.prog 84 #[.slice A n c] w fun e w' => ∃ A' c' m, e = .returned (.slice A' l.length c') ∧ Line Pl l (.slice A' l.length c') m ∧ Has w' (m + F) ∧ Ext w w' := by
  obtain ⟨rfl, _, _, xs, h4, h5, h6⟩ := hr.cells
  have HH := hid hH
  have H5 := hid h5
  have hl1 : xs.length = l.length * 1 := h6
  cases A with
  | none =>
    have h0 := rdc_none h4 hl1 Nat.one_pos rfl
    have hnil : l = [] := List.eq_nil_of_length_eq_zero h0
    subst hnil
    clear hr hH h4 h5 h6 hl1
    go_enter Try.func84, Try.ntmps84
    go_wp2
    go_ret
    exact ⟨_, _, 0, rfl, SlR.empty _ _ _, HH.out.same, Ext.refl w⟩
  | some ad =>
    have HX := hid (hH.alloc (.cells #[] 94))
    have Hnews := hid ((h4.more (pts w.heap.size (.cells #[] 94))).news (X := 0) (w := w.alloc (.cells #[] 94)) (by rw [MS.zero_add]; exact HX.out))
    have Hl1 := hid hl1
    clear hr hH h4 h5 h6 hl1
    go_enter Try.func84, Try.ntmps84
    go_wp2_with (at_builtin; refine wpList_append_sl rfl (.tmp 5) (.tmp 6) 91 rfl 94 _ 1 16 Try.underlying91 info94 rfl _ rfl (some ad) l.length c rfl 0 [] (blk w.heap.size #[] 94) F (Sl.empty _ _ _) HX.out xs Hl1.out (by simp) Hnews.out (pmsg_one H5.out) (by simp only [maxLen]; omega) (by omega) ?_; intro v' w' m' h1 h2 h3; have K1 := hid h1; have K2 := hid h2; have K3 := hid h3; clear h1 h2 h3)
    go_ret
    have h1 := K1.out
    obtain ⟨A', c', rfl, _⟩ := h1.form
    simp only [Nat.zero_add, List.nil_append] at h1 ⊢
    exact ⟨_, _, m', rfl, ⟨xs, m', 0, h1, pmsg_rows H5.out, (MS.add_zero m').symm⟩, K2.out, (Ext.alloc _ _).trans K3.out⟩
theorem clone_bools {F : MS} {A : Option Addr} {n c : Nat} {l : List Bool} {w : World} (hr : RdS F RT.bool l (.slice A n c)) (hH : Has w F) (hl : l.length ≤ 1000000) :
    Calls Try.prog 85 #[.slice A n c] w fun e w' => ∃ A' c' m, e = .returned (.slice A' l.length c') ∧ Bools l (.slice A' l.length c') m ∧ Has w' (m + F) ∧ Ext w w' := by
  obtain ⟨rfl, _, _, xs, h4, h5, h6⟩ := hr.cells
  obtain rfl := rowsQ_bools_eq h5
  have HH := hid hH
  cases A with
  | none =>
    have h0 := rdc_none (n := l.length) (sz := 1) h4 (by simp) Nat.one_pos rfl
    have hnil : l = [] := List.eq_nil_of_length_eq_zero h0
    subst hnil
    clear hr hH h4 h5 h6
    go_enter Try.func85, Try.ntmps85
    go_wp2
    go_ret
    exact ⟨_, _, 0, rfl, SlR.empty _ _ _, HH.out.same, Ext.refl w⟩
  | some ad =>
    have HX := hid (hH.alloc (.cells #[] 4))
    have Hnews := hid ((h4.more (pts w.heap.size (.cells #[] 4))).news (X := 0) (w := w.alloc (.cells #[] 4)) (by rw [MS.zero_add]; exact HX.out))
    clear hr hH h4 h5 h6
    go_enter Try.func85, Try.ntmps85
    go_wp2_with (at_builtin; refine wpList_append_sl rfl (.tmp 5) (.tmp 6) 69 rfl 4 _ 1 1 Try.underlying69 info4 rfl _ rfl (some ad) l.length c rfl 0 [] (blk w.heap.size #[] 4) F (Sl.empty _ _ _) HX.out (l.map Value.bool) (by simp) (by simp) Hnews.out (bools_one l) (by simp only [maxLen]; omega) (by omega) ?_; intro v' w' m' h1 h2 h3; have K1 := hid h1; have K2 := hid h2; have K3 := hid h3; clear h1 h2 h3)
    go_ret
    have h1 := K1.out
    obtain ⟨A', c', rfl, _⟩ := h1.form
    simp only [Nat.zero_add, List.nil_append] at h1 ⊢
    exact ⟨_, _, m', rfl, Bools.of h1, K2.out, (Ext.alloc _ _).trans K3.out⟩

/-- The net at block b as Copy reads it. -/
structure RdCopy (G Pl : MS) (σ : Net) (b : Nat) (v0 v1 v2 v3 : Value) : Prop where
  a0 : G.at b 0 v0
  a1 : G.at b 1 v1
  a2 : G.at b 2 v2
  s : RdS G RT.sta σ.sta v0
  c : RdS G (RT.sl (RT.sl (RT.pmsg Pl))) σ.chan v1
  x : RdS G RT.shot σ.shots v2
theorem IsNet.rdc {Pl : MS} {σ : Net} {ps : List Nat} {b : Nat} {m : MS} (h : IsNet Pl σ ps b m) : ∃ v0 v1 v2 v3, RdCopy m Pl σ b v0 v1 v2 v3 := by
  obtain ⟨hps, v0, v1, v2, v3, m0, m1, m2, m3, rfl, h0, h1, h2, h3⟩ := h
  refine ⟨v0, v1, v2, v3, blk_at' rfl _, blk_at' rfl _, blk_at' rfl _, ?_, ?_, ?_⟩
  · rw [show blk b #[v0, v1, v2, v3] 84 + (m0 + (m1 + (m2 + m3))) = (blk b #[v0, v1, v2, v3] 84 + (m1 + (m2 + m3))) + m0 by ac_rfl]; exact (SlR.rd (T := RT.sta) StaR.rd h0).more _
  · rw [show blk b #[v0, v1, v2, v3] 84 + (m0 + (m1 + (m2 + m3))) = (blk b #[v0, v1, v2, v3] 84 + (m0 + (m2 + m3))) + m1 by ac_rfl]
    exact (SlR.rd (T := RT.sl (RT.sl (RT.pmsg Pl))) (fun a cs m ⟨v, h1, h2, _⟩ => ⟨v, h1, SlR.rd (T := RT.sl (RT.pmsg Pl)) (fun a cs m ⟨v, h1, h2, _⟩ => ⟨v, h1, SlR.rd (T := RT.pmsg Pl) El.pmsg h2⟩) h2⟩) h1).more _
  · rw [show blk b #[v0, v1, v2, v3] 84 + (m0 + (m1 + (m2 + m3))) = (blk b #[v0, v1, v2, v3] 84 + (m0 + (m1 + m3))) + m2 by ac_rfl]
    have hzl : (σ.shots.zip ps).length = σ.shots.length := by rw [List.length_zip]; omega
    obtain ⟨A, c, rfl, _, hc, hm⟩ := h2.form
    obtain ⟨xs, ms, mr, k1, k2, rfl⟩ := h2
    rw [hzl] at hc ⊢
    exact RdS.more ⟨A, c, xs, rfl, hc, hm, by rw [MS.add_comm]; exact k1.rdc.more mr, (rowsQ_zip (F := 0) hps k2).mono fun a cs h => RT.shot.more _ a cs ms h⟩ _

theorem copy_any (Pl F : MS) {σ : Net} {ps : List Nat} {b : Nat} {m : MS} {w : World} (hok : NetOk σ) (hnet : IsNet Pl σ ps b m) (hH : Has w (m + (Pl + F))) (hc5 : ∀ e ∈ σ.evs, e.clock.length ≤ 5) :
    Calls Try.prog 46 #[.pointer (some ⟨b, 0, none⟩)] w fun e w' => ∃ b' ps' m', e = .returned (.pointer (some ⟨b', 0, none⟩)) ∧ IsNet Pl σ ps' b' m' ∧ Has w' (m' + (m + (Pl + F))) ∧ Ext w w' := by
  have hn0 : 0 < σ.sta.length := by have := hok.n2; omega
  obtain ⟨ad, c0', f0', _⟩ := ok_net (m + (Pl + F)) σ b w hn0 (by rw [← MS.add_assoc]; exact hnet.rd.less F) hH
  have Hok1 := hid (ok_yes b ad _ c0' _ f0')
  have Hev := hid (events_any (m + (Pl + F)) σ b w hn0 (by rw [← MS.add_assoc]; exact hnet.rd.less F) hH (by have := hok.evs; omega) (evs_clock hc5))
  obtain ⟨v0, v1, v2, v3, q⟩ := hnet.rdc
  obtain ⟨a0, a1, a2, ks, kc, kx⟩ := q
  obtain ⟨A0, c0, rfl, _⟩ := ks.form
  obtain ⟨A1, c1, rfl, _⟩ := kc.form
  obtain ⟨A2, c2, rfl, _⟩ := kx.form
  obtain ⟨G, hG⟩ : ∃ G, G = m + (Pl + F) := ⟨_, rfl⟩
  have Ha := hid (show G.at b 0 (.slice A0 σ.sta.length c0) ∧ G.at b 1 (.slice A1 σ.chan.length c1) ∧ G.at b 2 (.slice A2 σ.shots.length c2) from by rw [hG]; exact ⟨a0.less _, a1.less _, a2.less _⟩)
  have Hs := hid (show RdS G RT.sta σ.sta (.slice A0 σ.sta.length c0) from by rw [hG]; exact ks.less _)
  have Hcc := hid (show RdS G (RT.sl (RT.sl (RT.pmsg Pl))) σ.chan (.slice A1 σ.chan.length c1) from by rw [hG]; exact kc.less _)
  have Hx := hid (show RdS G RT.shot σ.shots (.slice A2 σ.shots.length c2) from by rw [hG]; exact kx.less _)
  rw [← hG] at Hev hH ⊢
  have HG0 := hid hH
  have hrows : σ.chan.length = σ.sta.length := hok.rows
  rw [hrows] at Ha Hcc
  have Hok := hid hok
  have n5 : σ.sta.length ≤ 5 := hok.n5
  have n5I : (σ.sta.length : Int) ≤ 5 := by omega
  have s8 : σ.shots.length ≤ 8 := hok.shots
  have s8I : (σ.shots.length : Int) ≤ 8 := by omega
  have Hrows := hid hrows
  clear a0 a1 a2 ks kc kx hG hH hok hnet hc5 hrows f0' hn0
  go_enter Try.func46, Try.ntmps46
  go_wp2_with (first
    | (go_at_call 56; refine Hok1.out.mono ?_; rintro e w' ⟨rfl, rfl⟩)
    | (go_at_call 18; refine Hev.out.mono ?_; rintro e w1 ⟨Ae, ce, me, rfl, k1, k2, k3⟩; have Re := hid k1; have K1 := hid k2; have E1 := hid k3; have f0 : w1.cell? ⟨b, 0, none⟩ = some (.slice A0 σ.sta.length c0) := Ha.out.1.cell k2; have hfb := World.block_lt_of_cell? _ _ f0; simp only at hfb; clear k1 k2 k3))
  clear hfb f0
  have HB := K1.out.alloc (.cells #[.slice none 0 0, .slice none 0 0, .slice none 0 0, .slice Ae σ.evs.length ce] 84)
  have HEB := E1.out.trans (Ext.alloc w1 (.cells #[.slice none 0 0, .slice none 0 0, .slice none 0 0, .slice Ae σ.evs.length ce] 84))
  generalize hbb : w1.heap.size = b' at *
  clear hbb
  generalize w1.alloc _ = w2 at *
  have K2 := hid (show Has w2 (blk b' #[.slice none 0 0, .slice none 0 0, .slice none 0 0, .slice Ae σ.evs.length ce] 84 + (0 + (me + G))) from by rw [MS.zero_add]; exact HB)
  have E2 := hid HEB
  clear HB HEB
  go_loopw [28] (fun v wr => ∃ t : Nat, t ≤ σ.sta.length ∧ v = .int .i64 t ∧ ∃ v0 m0, SlR 107 3 StaR (σ.sta.take t) v0 m0 ∧ Has wr (blk b' #[v0, .slice none 0 0, .slice none 0 0, .slice Ae σ.evs.length ce] 84 + (m0 + (me + G))) ∧ Ext w wr) (fun v _ => σ.sta.length - (intOf v).toNat)
  case atStart => exact ⟨0, Nat.zero_le _, rfl, _, 0, SlR.empty _ _ _, K2.out, E2.out⟩
  case round =>
    obtain ⟨t, ht, rfl, v0, m0, h0, hHt, hEt⟩ := hrel
    obtain ⟨B0, d0, rfl, _⟩ := SlR.form h0
    have hl0 : (σ.sta.take t).length = t := by rw [List.length_take]; omega
    rw [hl0] at h0 hHt
    have H0 := hid h0
    have HHt := hid hHt
    have HEt := hid hEt
    have Hl0 := hid hl0
    clear h0 hHt hEt hl0
    by_cases hlt : t < σ.sta.length
    · obtain ⟨s, hs⟩ : ∃ s, σ.sta[t]? = some s := ⟨_, List.getElem?_eq_getElem hlt⟩
      obtain ⟨bs, os, Aq, cq, hA, e0, e1, e2, k2⟩ := Hs.out.getSta hs
      subst hA
      have hG : Has wr ((blk b' #[.slice B0 t d0, .slice none 0 0, .slice none 0 0, .slice Ae σ.evs.length ce] 84 + (m0 + me)) + G) := HHt.out.eq (by ac_rfl)
      have f0 := e0.cell hG
      have f1 := e1.cell hG
      have f2 := e2.cell hG
      have hfb := World.block_lt_of_cell? _ _ f0
      simp only at hfb
      have hq := Hok.out.sta s (List.mem_of_getElem? hs)
      have hcl : s.clock.length ≤ 5 := by rw [hq.1]; exact n5
      have Htk := hid (take_more hs)
      have Hlt := hid hlt
      have hltI : (t : Int) < σ.sta.length := by omega
      have HA := hid (HHt.out.alloc (.cells #[.int .i64 s.pieces, .int .i64 s.events, .slice Aq s.clock.length cq] 107))
      have Hcl := hid (clone_rd (w := wr.alloc (.cells #[.int .i64 s.pieces, .int .i64 s.events, .slice Aq s.clock.length cq] 107)) (F := pts wr.heap.size (.cells #[.int .i64 s.pieces, .int .i64 s.events, .slice Aq s.clock.length cq] 107) + (blk b' #[.slice B0 t d0, .slice none 0 0, .slice none 0 0, .slice Ae σ.evs.length ce] 84 + (m0 + (me + G)))) ((((k2.more me).more m0).more _).more _) HA.out (by omega))
      clear hG hs e0 e1 e2 k2 hq hlt
      generalize hsp : s.pieces = sp at *
      generalize hse : s.events = se at *
      generalize hck : s.clock = clk at *
      have Hfld := hid (And.intro hsp (And.intro hse hck))
      clear hsp hse hck
      go_wp2_with (first
        | (go_at_call 58; refine Hcl.out.mono ?_; rintro e w3 ⟨A3, c3, m3, rfl, j1, j2, j3⟩; have J1 := hid j1; have J2 := hid (j2.eq (b := blk wr.heap.size #[.int .i64 sp, .int .i64 se, .slice Aq clk.length cq] 107 + (m3 + (blk b' #[.slice B0 t d0, .slice none 0 0, .slice none 0 0, .slice Ae σ.evs.length ce] 84 + (m0 + (me + G))))) (by show m3 + (blk _ _ _ + _) = _; ac_rfl)); have J3 := hid ((HEt.out.trans (Ext.alloc _ _)).trans j3); clear j1 j2 j3)
        | (refine wpList_store_blk rfl (.tmp 35) (.tmp 34) 22 rfl size22 wr.heap.size 2 (.slice A3 clk.length c3) rfl rfl rfl #[.int .i64 sp, .int .i64 se, .slice Aq clk.length cq] 107 _ J2.out (by simp) ?_; intro w4 j4 j5; have J4 := hid (show Has w4 (blk wr.heap.size #[.int .i64 sp, .int .i64 se, .slice A3 clk.length c3] 107 + (m3 + (blk b' #[.slice B0 t d0, .slice none 0 0, .slice none 0 0, .slice Ae σ.evs.length ce] 84 + (m0 + (me + G))))) from j4); have J5 := hid (J3.out.trans j5); clear j4 j5))
      clear f0 f1 f2 hfb
      generalize wr.heap.size = g at *
      have keep : ∀ (W : World) (X : MS), Has W (X + (blk g #[.int .i64 sp, .int .i64 se, .slice A3 clk.length c3] 107 + (blk b' #[.slice B0 t d0, .slice none 0 0, .slice none 0 0, .slice Ae σ.evs.length ce] 84 + (me + G)))) → W.cell? ⟨b', 0, none⟩ = some (.slice B0 t d0) ∧ W.cell? ⟨g, 0, none⟩ = some (.int .i64 sp) ∧ W.cell? ⟨g, 1, none⟩ = some (.int .i64 se) ∧ W.cell? ⟨g, 2, none⟩ = some (.slice A3 clk.length c3) := fun W X h =>
        have hg := h.eq (b := blk g #[.int .i64 sp, .int .i64 se, .slice A3 clk.length c3] 107 + (X + (blk b' #[.slice B0 t d0, .slice none 0 0, .slice none 0 0, .slice Ae σ.evs.length ce] 84 + (me + G)))) (by ac_rfl)
        ⟨(h.eq (b := blk b' #[.slice B0 t d0, .slice none 0 0, .slice none 0 0, .slice Ae σ.evs.length ce] 84 + (X + (blk g #[.int .i64 sp, .int .i64 se, .slice A3 clk.length c3] 107 + (me + G)))) (by ac_rfl)).at_ rfl, hg.at_ rfl, hg.at_ rfl, hg.at_ rfl⟩
      have H5 := hid (show Has w4.drew ((m0 + m3) + (blk g #[.int .i64 sp, .int .i64 se, .slice A3 clk.length c3] 107 + (blk b' #[.slice B0 t d0, .slice none 0 0, .slice none 0 0, .slice Ae σ.evs.length ce] 84 + (me + G)))) from J4.out.drew.eq (by ac_rfl))
      have hS := keep _ _ H5.out
      have Hkeep := hid keep
      clear keep
      refine wp_region_txt (fun W => W.cell? ⟨b', 0, none⟩ = some (.slice B0 t d0) ∧ W.cell? ⟨g, 0, none⟩ = some (.int .i64 sp) ∧ W.cell? ⟨g, 1, none⟩ = some (.int .i64 se) ∧ W.cell? ⟨g, 2, none⟩ = some (.slice A3 clk.length c3)) (some 10)
        [(0, true), (1, true), (2, true), (3, true), (4, true), (5, true), (6, false), (7, false), (8, true), (9, true), (10, false)] (by kernel_rfl) rfl (by kernel_rfl) (by kernel_rfl) (by repeat (first | with_reducible refine PanicOk.thn ?_ | with_reducible refine PanicOk.blk ?_ | exact PanicOk.body _ _ _)) ?_
      repeat
        (refine txt_quiet ?_ hS rfl rfl (fun W hW => ?_) ?_
         rotate_left 1
         · obtain ⟨hW1, hW2, hW3, hW4⟩ := hW
           go_simp
           exact rfl
         simp only [Act.put, List.setIfInBounds_toArray, List.set_cons_zero, List.set_cons_succ])
      refine txt_op rfl rfl ?_
      refine op_run (.slice (some ⟨w4.heap.size, 0, none⟩) 1 1) (w4.drew.alloc (.cells #[.int .i64 sp, .int .i64 se, .slice A3 clk.length c3] 107)) (by go_simp) ?_
      have hS6 := Hkeep.out (w4.drew.alloc (.cells #[.int .i64 sp, .int .i64 se, .slice A3 clk.length c3] 107)) (pts w4.heap.size (.cells #[.int .i64 sp, .int .i64 se, .slice A3 clk.length c3] 107) + (m0 + m3)) ((H5.out.alloc _).eq (by show pts w4.heap.size _ + _ = _; ac_rfl))
      refine ⟨fun _ => hS6, ?_⟩
      simp only [Act.put, List.setIfInBounds_toArray, List.set_cons_zero, List.set_cons_succ]
      clear hS
      refine txt_op rfl rfl ?_
      refine op_push (.tmp 40) (.tmp 42) row80 rfl (.slice B0 t d0) rfl _ rfl rfl StaR StaR.one StaR.len (σ.sta.take t) s m0 m3 _ H0.out (show StaR s [.int .i64 sp, .int .i64 se, .slice A3 clk.length c3] m3 from by obtain ⟨x1, x2, x3⟩ := Hfld.out; rw [← x1, ← x2]; exact ⟨_, rfl, by rw [x3]; exact J1.out, rfl⟩) (H5.out.eq (b := m0 + (m3 + (blk g #[.int .i64 sp, .int .i64 se, .slice A3 clk.length c3] 107 + (blk b' #[.slice B0 t d0, .slice none 0 0, .slice none 0 0, .slice Ae σ.evs.length ce] 84 + (me + G))))) (by ac_rfl)) t Hl0.out (by omega) (by omega) ?_
      intro B4 d4 w6 m6 j4 j5 j6
      have hS7 := Hkeep.out w6 m6 j5
      refine ⟨fun _ => hS7, ?_⟩
      simp only [Act.put, List.setIfInBounds_toArray, List.set_cons_zero, List.set_cons_succ]
      clear hS6
      repeat
        (refine txt_quiet ?_ hS7 rfl rfl (fun W hW => ?_) ?_
         rotate_left 1
         · obtain ⟨hW1, hW2, hW3, hW4⟩ := hW
           go_simp
           exact rfl
         simp only [Act.put, List.setIfInBounds_toArray, List.set_cons_zero, List.set_cons_succ])
      refine txt_op rfl rfl ?_
      refine op_store_blk (.tmp 45) (.tmp 43) 80 rfl size80 b' 0 (.slice B4 (t + 1) d4) rfl rfl rfl #[.slice B0 t d0, .slice none 0 0, .slice none 0 0, .slice Ae σ.evs.length ce] 84 (m6 + (blk g #[.int .i64 sp, .int .i64 se, .slice A3 clk.length c3] 107 + (me + G))) (j5.eq (by ac_rfl)) (by simp) ?_
      intro w7 j7 j8
      refine ⟨fun h => absurd rfl h, ?_⟩
      simp only [Act.put]
      refine txt_done ?_
      have H8 := hid (show Has w7 (blk b' #[.slice B4 (t + 1) d4, .slice none 0 0, .slice none 0 0, .slice Ae σ.evs.length ce] 84 + (m6 + (me + G))) from ((show Has w7 (blk b' #[.slice B4 (t + 1) d4, .slice none 0 0, .slice none 0 0, .slice Ae σ.evs.length ce] 84 + (m6 + (blk g #[.int .i64 sp, .int .i64 se, .slice A3 clk.length c3] 107 + (me + G)))) from j7).eq (b := blk g #[.int .i64 sp, .int .i64 se, .slice A3 clk.length c3] 107 + (blk b' #[.slice B4 (t + 1) d4, .slice none 0 0, .slice none 0 0, .slice Ae σ.evs.length ce] 84 + (m6 + (me + G)))) (by ac_rfl)).right)
      have E8 := hid (((J5.out.trans (Ext.drew _)).trans j6).trans j8)
      clear hS7 j5 j6 j7 j8 H5
      have J4' := hid j4
      clear j4
      go_wp2
      go_roundw
      case rel => exact ⟨t + 1, Hlt.out, by go_num, _, m6, by rw [Htk.out]; exact J4'.out, H8.out, E8.out⟩
      case measure => have := Hlt.out; simp [intOf]; omega
    · obtain rfl : t = σ.sta.length := by omega
      have Hsta := hid (show SlR 107 3 StaR σ.sta (.slice B0 σ.sta.length d0) m0 by have := H0.out; rw [List.take_of_length_le (Nat.le_refl _)] at this; exact this)
      have f1 : wr.cell? ⟨b, 1, none⟩ = some (.slice A1 σ.sta.length c1) := Ha.out.2.1.cell (HHt.out.eq (b := (blk b' #[.slice B0 σ.sta.length d0, .slice none 0 0, .slice none 0 0, .slice Ae σ.evs.length ce] 84 + (m0 + me)) + G) (by ac_rfl))
      obtain ⟨G1, hG1⟩ : ∃ G1, G1 = m0 + (me + G) := ⟨_, rfl⟩
      have HG1 := hid hG1
      have HHt1 := hid (show Has wr (blk b' #[.slice B0 σ.sta.length d0, .slice none 0 0, .slice none 0 0, .slice Ae σ.evs.length ce] 84 + (0 + G1)) from by rw [hG1, MS.zero_add]; exact HHt.out)
      have HF1 := hid (show ∀ (W : World) (X : MS), Has W (X + G1) → Has W ((X + (m0 + me)) + G) from fun W X h => h.eq (by rw [hG1]; ac_rfl))
      clear hG1 H0
      go_wp2
      clear f1
      go_loopw [52] (fun v wq => ∃ t : Nat, t ≤ σ.sta.length ∧ v = .int .i64 t ∧ ∃ v1 m1, Chans Pl (σ.chan.take t) v1 m1 ∧ Has wq (blk b' #[.slice B0 σ.sta.length d0, v1, .slice none 0 0, .slice Ae σ.evs.length ce] 84 + (m1 + G1)) ∧ Ext w wq) (fun v _ => σ.sta.length - (intOf v).toNat)
      case atStart => exact ⟨0, Nat.zero_le _, rfl, _, 0, SlR.empty _ _ _, HHt1.out, HEt.out⟩
      case round =>
        obtain ⟨t, ht, rfl, v1, m1, h1, hHq, hEq⟩ := hrel
        obtain ⟨B1, d1, rfl, _⟩ := SlR.form h1
        have hl1 : (σ.chan.take t).length = t := by rw [List.length_take, Hrows.out]; omega
        rw [hl1] at h1 hHq
        have H1 := hid h1
        have HHq := hid hHq
        have HEq := hid hEq
        have Hl1 := hid hl1
        clear h1 hHq hEq hl1
        by_cases hlt : t < σ.sta.length
        · obtain ⟨r, hr, hrl, hrj⟩ := chan_get Hok.out hlt
          obtain ⟨bl, ol, Ar, cr, hA2, e2, kr, _⟩ := Hcc.out.getSl hr
          subst hA2
          rw [hrl] at e2 kr
          have f2 := e2.cell (HF1.out wr (blk b' #[.slice B0 σ.sta.length d0, .slice B1 t d1, .slice none 0 0, .slice Ae σ.evs.length ce] 84 + m1) (HHq.out.eq (by ac_rfl)))
          have Hkr := hid kr
          have Hrj := hid hrj
          have Hrl := hid hrl
          have Htk := hid (take_more hr)
          have Hlt := hid hlt
          have hltI : (t : Int) < σ.sta.length := by omega
          have Hll := hid (fun s (hs : s < σ.sta.length) => line_len Hok.out hlt hs)
          clear hr hrl hrj kr e2 hlt
          go_wp2
          clear f2
          go_loopw [8, 58] (fun vo v wx => ∃ s : Nat, s ≤ σ.sta.length ∧ v = .int .i64 s ∧ ∃ mo, Lines Pl (r.take s) vo mo ∧ Has wx (mo + (blk b' #[.slice B0 σ.sta.length d0, .slice B1 t d1, .slice none 0 0, .slice Ae σ.evs.length ce] 84 + (m1 + G1))) ∧ Ext w wx) (fun _ v _ => σ.sta.length - (intOf v).toNat)
          case atStart => exact ⟨0, Nat.zero_le _, rfl, 0, SlR.empty _ _ _, by rw [MS.zero_add]; exact HHq.out, HEq.out⟩
          case round =>
            obtain ⟨s, hs, rfl, mo, ho, hHs, hEs⟩ := hrel
            obtain ⟨Bo, dO, rfl, _⟩ := SlR.form ho
            have hlo : (r.take s).length = s := by rw [List.length_take, Hrl.out]; show min s σ.sta.length = s; omega
            rw [hlo] at ho ⊢
            have Ho := hid ho
            have HHs := hid hHs
            have HEs := hid hEs
            have Hlo := hid hlo
            clear ho hHs hEs hlo
            by_cases hls : s < σ.sta.length
            · obtain ⟨br, orr, Al, cl, hAr, e4, kln, hl4, _⟩ := Hkr.out.getSl (Hrj.out s hls)
              subst hAr
              have hG := HF1.out wr (mo + (blk b' #[.slice B0 σ.sta.length d0, .slice B1 t d1, .slice none 0 0, .slice Ae σ.evs.length ce] 84 + m1)) (HHs.out.eq (by ac_rfl))
              have f4 := e4.cell hG
              have hln := Hll.out s hls
              have Hc := hid (clone_msgs (w := wr) (kln.more _) hG (by omega))
              have hlsI : (s : Int) < σ.sta.length := by omega
              have Hls := hid hls
              have Htk2 := hid (take_more (Hrj.out s hls))
              clear e4 kln hG hls
              go_wp2_with (first
                | (go_at_call 84; refine Hc.out.mono ?_; rintro e w3 ⟨A3, c3, m3, rfl, j1, j2, j3⟩; have J1 := hid j1; have J2 := hid (j2.eq (b := mo + (m3 + (blk b' #[.slice B0 σ.sta.length d0, .slice B1 t d1, .slice none 0 0, .slice Ae σ.evs.length ce] 84 + (m1 + G1)))) (by have := HG1.out; subst this; ac_rfl)); have J3 := hid (HEs.out.trans j3); clear j1 j2 j3)
                | (at_builtin; refine wpList_push rfl (.tmp 62) (.tmp 65) row92 rfl (.slice Bo s dO) rfl _ rfl rfl (El (Line Pl)) El.one El.len (r.take s) (σ.lineAt t s) mo m3 _ Ho.out ⟨_, rfl, J1.out, rfl⟩ J2.out s Hlo.out (by omega) (by omega) ?_; intro B8 d8 w8 m8 j4 j5 j6; have J4 := hid j4; have J5 := hid j5; have J6 := hid (J3.out.trans j6); clear j4 j5 j6))
              go_roundw
              case rel => exact ⟨s + 1, Hls.out, by go_num, m8, by rw [Htk2.out]; exact J4.out, J5.out, J6.out⟩
              case measure => have := Hls.out; simp [intOf]; omega
            · obtain rfl : s = σ.sta.length := by omega
              have Hor := hid (show Lines Pl r (.slice Bo σ.sta.length dO) mo by have := Ho.out; rw [List.take_of_length_le (by rw [Hrl.out]; exact Nat.le_refl _)] at this; exact this)
              have g1 : wr.cell? ⟨b', 1, none⟩ = some (.slice B1 t d1) := (HHs.out.eq (b := blk b' #[.slice B0 σ.sta.length d0, .slice B1 t d1, .slice none 0 0, .slice Ae σ.evs.length ce] 84 + (mo + (m1 + G1))) (by ac_rfl)).at_ rfl
              go_wp2_with (first
                | (at_builtin; refine wpList_push rfl (.tmp 72) (.tmp 74) row81 rfl (.slice B1 t d1) rfl _ rfl rfl (El (Lines Pl)) El.one El.len (σ.chan.take t) r m1 mo _ H1.out ⟨_, rfl, Hor.out, rfl⟩ (HHs.out.eq (b := m1 + (mo + (blk b' #[.slice B0 σ.sta.length d0, .slice B1 t d1, .slice none 0 0, .slice Ae σ.evs.length ce] 84 + G1))) (by ac_rfl)) t Hl1.out (by omega) (by omega) ?_; intro B9 d9 w9 m9 j4 j5 j6; have J4 := hid j4; have J5 := hid (j5.eq (b := blk b' #[.slice B0 σ.sta.length d0, .slice B1 t d1, .slice none 0 0, .slice Ae σ.evs.length ce] 84 + (m9 + G1)) (by ac_rfl)); have J6 := hid (HEs.out.trans j6); clear j4 j5 j6)
                | (refine wpList_store_blk rfl (.tmp 77) (.tmp 75) 81 rfl size81 b' 1 (.slice B9 (t + 1) d9) rfl rfl rfl #[.slice B0 σ.sta.length d0, .slice B1 t d1, .slice none 0 0, .slice Ae σ.evs.length ce] 84 _ J5.out (by simp) ?_; intro w10 j7 j8; have J7 := hid j7; have J8 := hid (J6.out.trans j8); clear j7 j8))
              go_roundw
              case rel => exact ⟨t + 1, Hlt.out, by go_num, _, m9, by rw [Htk.out]; exact J4.out, J7.out, J8.out⟩
              case measure => have := Hlt.out; simp [intOf]; omega
        · obtain rfl : t = σ.sta.length := by omega
          have Hch := hid (show Chans Pl σ.chan (.slice B1 σ.sta.length d1) m1 by have := H1.out; rw [List.take_of_length_le (by rw [Hrows.out]; exact Nat.le_refl _)] at this; exact this)
          obtain ⟨G2, hG2⟩ : ∃ G2, G2 = m1 + G1 := ⟨_, rfl⟩
          have HG2 := hid hG2
          have HF2 := hid (show ∀ (W : World) (X : MS), Has W (X + G2) → Has W ((X + (m1 + (m0 + me))) + G) from fun W X h => h.eq (by rw [hG2, HG1.out]; ac_rfl))
          have HHq2 := hid (show Has wr (blk b' #[.slice B0 σ.sta.length d0, .slice B1 σ.sta.length d1, .slice none 0 0, .slice Ae σ.evs.length ce] 84 + (0 + G2)) from by rw [hG2, MS.zero_add]; exact HHq.out)
          have f2 : wr.cell? ⟨b, 2, none⟩ = some (.slice A2 σ.shots.length c2) := Ha.out.2.2.cell (HF2.out wr _ (HHq2.out.eq (b := blk b' #[.slice B0 σ.sta.length d0, .slice B1 σ.sta.length d1, .slice none 0 0, .slice Ae σ.evs.length ce] 84 + G2) (by rw [MS.zero_add])))
          clear hG2 H1 HF1
          have Hdim := hid (fun k (hk : k < σ.shots.length) => Hok.out.shot (σ.X k) (List.mem_of_getElem? (Net.X_some hk)))
          generalize hn : σ.sta.length = n at *
          have Hn := hid hn
          clear hn
          go_wp2
          clear f2
          go_loopw [84] (fun v wq => ∃ t : Nat, t ≤ σ.shots.length ∧ v = .int .i64 t ∧ ∃ ps' v2 m2, ps'.length = t ∧ SlR 101 1 (El ShotV) ((σ.shots.take t).zip ps') v2 m2 ∧ Has wq (blk b' #[.slice B0 n d0, .slice B1 n d1, v2, .slice Ae σ.evs.length ce] 84 + (m2 + G2)) ∧ Ext w wq) (fun v _ => σ.shots.length - (intOf v).toNat)
          case atStart => exact ⟨0, Nat.zero_le _, rfl, [], _, 0, rfl, SlR.empty _ _ _, HHq2.out, HEq.out⟩
          case round =>
            obtain ⟨t, ht, rfl, ps', v2, m2, hps, h2, hHx, hEx⟩ := hrel
            obtain ⟨B2, d2, rfl, _⟩ := SlR.form h2
            have hl2 : ((σ.shots.take t).zip ps').length = t := by rw [List.length_zip, List.length_take, hps]; omega
            rw [hl2] at h2 hHx
            have H2 := hid h2
            have HHx := hid hHx
            have HEx := hid hEx
            have Hl2 := hid (And.intro hl2 hps)
            clear h2 hHx hEx hl2 hps
            by_cases hlt : t < σ.shots.length
            · obtain ⟨bx, ox, p, hA2, e2, U0, U1, U2, U3, U4, y0, y1, y2, y3, y4, r0, r1, r2, r3, r4⟩ := Hx.out.getShot (Net.X_some hlt)
              subst hA2
              obtain ⟨z1, z2, z3, z4, z5, z6, z7⟩ := Hdim.out t hlt
              obtain ⟨S0, s0, rfl, _⟩ := r0.form
              obtain ⟨S1, s1, rfl, _⟩ := r1.form
              obtain ⟨S2, s2, rfl, _⟩ := r2.form
              obtain ⟨S3, s3, rfl, _⟩ := r3.form
              obtain ⟨S4, s4, rfl, _⟩ := r4.form
              rw [z1] at y0 r0
              rw [z2] at y1 r1
              rw [z4] at y2 r2
              rw [z5] at y3 r3
              rw [z6] at y4 r4
              have hev := Hok.out.evs
              have hb3 : ∀ r ∈ (σ.X t).under, r.length ≤ 1000 := fun r hr => by rw [(z7 r hr).1]; omega
              have hb4 : ∀ r ∈ (σ.X t).under, ∀ q ∈ r, q.length ≤ 1000 := fun r hr q hq => by have := (z7 r hr).2 q hq; omega
              have hmore := take_more (Net.X_some hlt)
              have Hmore := hid hmore
              generalize σ.X t = x at *
              have f3 := e2.cell (HF2.out wr (blk b' #[.slice B0 n d0, .slice B1 n d1, .slice B2 t d2, .slice Ae σ.evs.length ce] 84 + m2) (HHx.out.eq (by ac_rfl)))
              have keep : ∀ (W : World) (X : MS), Has W (X + G2) → W.cell? ⟨p, 0, none⟩ = some (.slice S0 n s0) ∧ W.cell? ⟨p, 2, none⟩ = some (.slice S2 n s2) ∧ W.cell? ⟨p, 3, none⟩ = some (.slice S3 n s3) ∧ W.cell? ⟨p, 4, none⟩ = some (.slice S4 n s4) := fun W X h =>
                have hg := HF2.out W X h
                ⟨y0.cell hg, y2.cell hg, y3.cell hg, y4.cell hg⟩
              have H5 := hid (show Has wr.drew ((blk b' #[.slice B0 n d0, .slice B1 n d1, .slice B2 t d2, .slice Ae σ.evs.length ce] 84 + m2) + G2) from HHx.out.drew.eq (by ac_rfl))
              have hS := keep _ _ H5.out
              have Hkeep := hid keep
              have Hf1 := hid (show ∀ (W : World) (X : MS), Has W (X + G2) → W.cell? ⟨p, 1, none⟩ = some (.slice S1 n s1) from fun W X h => y1.cell (HF2.out W X h))
              have Hz := hid (And.intro z1 (And.intro z2 (And.intro z3 (And.intro z4 (And.intro z5 z6)))))
              have Hr := hid (And.intro r0 (And.intro r1 (And.intro r2 (And.intro r3 r4))))
              have Hb := hid (And.intro hb3 hb4)
              have Hlt := hid hlt
              have hltI : (t : Int) < σ.shots.length := by omega
              have HGG := hid (show ∀ (T : Type) (R : RT T) (l : List T) (v : Value) (X : MS), RdS G R l v → RdS (X + G2) R l v from fun T R l v X h => by
                have e : X + G2 = (X + (m1 + (m0 + me))) + G := by rw [HG2.out, HG1.out]; ac_rfl
                rw [e]; exact h.more _)
              clear y0 y1 y2 y3 y4 r0 r1 r2 r3 r4 z1 z2 z3 z4 z5 z6 z7 keep e2 hlt hb3 hb4 hmore hev
              go_wp2
              clear f3
              refine wp_region_txt (fun W => W.cell? ⟨p, 0, none⟩ = some (.slice S0 n s0) ∧ W.cell? ⟨p, 2, none⟩ = some (.slice S2 n s2) ∧ W.cell? ⟨p, 3, none⟩ = some (.slice S3 n s3) ∧ W.cell? ⟨p, 4, none⟩ = some (.slice S4 n s4)) none
                [(0, true), (1, true), (2, true), (3, true), (5, true), (6, true), (7, true), (8, true), (10, true), (11, true), (12, true), (13, true), (14, true), (16, true), (17, true), (18, true), (19, true), (20, true), (4, false), (9, false), (15, false), (21, false), (22, true), (23, true), (24, false), (25, true)] (by kernel_rfl) rfl (by kernel_rfl) (by kernel_rfl) (by repeat (first | with_reducible refine PanicOk.thn ?_ | with_reducible refine PanicOk.blk ?_ | exact PanicOk.body _ _ _)) ?_
              repeat
                (refine txt_quiet ?_ hS rfl rfl (fun W hW => ?_) ?_
                 rotate_left 1
                 · obtain ⟨hW1, hW2, hW3, hW4⟩ := hW
                   go_simp
                   exact rfl
                 simp only [Act.put, List.setIfInBounds_toArray, List.set_cons_zero, List.set_cons_succ])
              refine txt_op rfl rfl ?_
              refine op_call 85 _ _ (by go_simp) _ (clone_bools (w := wr.drew) (HGG.out _ _ _ _ _ Hr.out.1) H5.out (by rw [Hz.out.1]; omega)) ?_
              rintro e w3 ⟨T0, u0, n0, rfl, j1, j2, j3⟩
              rw [Hz.out.1] at j1 ⊢
              refine ⟨_, rfl, ?_⟩
              have R0 := hid j1
              have K3 := hid (show Has w3 ((n0 + (blk b' #[.slice B0 n d0, .slice B1 n d1, .slice B2 t d2, .slice Ae σ.evs.length ce] 84 + m2)) + G2) from j2.eq (by ac_rfl))
              have E3 := hid ((HEx.out.trans (Ext.drew _)).trans j3)
              have hS3 := Hkeep.out _ _ K3.out
              refine ⟨fun _ => hS3, ?_⟩
              simp only [Act.put, List.setIfInBounds_toArray, List.set_cons_zero, List.set_cons_succ]
              clear hS j1 j2 j3
              refine txt_op rfl rfl ?_
              refine op_call 58 _ _ (by go_simp) _ (clone_rd (w := w3) (HGG.out _ _ _ _ _ Hr.out.2.2.1) K3.out (by rw [Hz.out.2.2.2.1]; omega)) ?_
              rintro e w4 ⟨T2, u2, n2, rfl, j1, j2, j3⟩
              rw [Hz.out.2.2.2.1] at j1 ⊢
              refine ⟨_, rfl, ?_⟩
              have R2 := hid j1
              have K4 := hid (show Has w4 ((n2 + (n0 + (blk b' #[.slice B0 n d0, .slice B1 n d1, .slice B2 t d2, .slice Ae σ.evs.length ce] 84 + m2))) + G2) from j2.eq (by ac_rfl))
              have E4 := hid (E3.out.trans j3)
              have hS4 := Hkeep.out _ _ K4.out
              refine ⟨fun _ => hS4, ?_⟩
              simp only [Act.put, List.setIfInBounds_toArray, List.set_cons_zero, List.set_cons_succ]
              clear hS3 j1 j2 j3
              refine txt_op rfl rfl ?_
              refine op_call 58 _ _ (by go_simp) _ (clone_rd (w := w4) (HGG.out _ _ _ _ _ Hr.out.2.2.2.1) K4.out (by rw [Hz.out.2.2.2.2.1]; omega)) ?_
              rintro e w5 ⟨T3, u3, n3, rfl, j1, j2, j3⟩
              rw [Hz.out.2.2.2.2.1] at j1 ⊢
              refine ⟨_, rfl, ?_⟩
              have R3 := hid j1
              have K5 := hid (show Has w5 ((n3 + (n2 + (n0 + (blk b' #[.slice B0 n d0, .slice B1 n d1, .slice B2 t d2, .slice Ae σ.evs.length ce] 84 + m2)))) + G2) from j2.eq (by ac_rfl))
              have E5 := hid (E4.out.trans j3)
              have hS5 := Hkeep.out _ _ K5.out
              refine ⟨fun _ => hS5, ?_⟩
              simp only [Act.put, List.setIfInBounds_toArray, List.set_cons_zero, List.set_cons_succ]
              clear hS4 j1 j2 j3
              refine txt_op rfl rfl ?_
              refine op_call 60 _ _ (by go_simp) _ (deep_any _ x.under _ w5 (HGG.out _ _ _ _ _ Hr.out.2.2.2.2) K5.out (by rw [Hz.out.2.2.2.2.2]; omega) Hb.out.1 Hb.out.2) ?_
              rintro e w6 ⟨T4, u4, n4, rfl, j1, j2, j3⟩
              rw [Hz.out.2.2.2.2.2] at j1 ⊢
              refine ⟨_, rfl, ?_⟩
              have R4 := hid j1
              have K6 := hid (show Has w6 ((n4 + (n3 + (n2 + (n0 + (blk b' #[.slice B0 n d0, .slice B1 n d1, .slice B2 t d2, .slice Ae σ.evs.length ce] 84 + m2))))) + G2) from j2.eq (by ac_rfl))
              have E6 := hid (E5.out.trans j3)
              have hS6 := Hkeep.out _ _ K6.out
              refine ⟨fun _ => hS6, ?_⟩
              simp only [Act.put, List.setIfInBounds_toArray, List.set_cons_zero, List.set_cons_succ]
              clear hS5 j1 j2 j3
              repeat
                (refine txt_quiet ?_ hS6 rfl rfl (fun W hW => ?_) ?_
                 rotate_left 1
                 · obtain ⟨hW1, hW2, hW3, hW4⟩ := hW
                   go_simp
                   exact rfl
                 simp only [Act.put, List.setIfInBounds_toArray, List.set_cons_zero, List.set_cons_succ])
              refine txt_op rfl rfl ?_
              refine op_run (.pointer (some ⟨w6.heap.size, 0, none⟩)) (w6.alloc (.cells #[.slice T0 n u0, .slice none 0 0, .slice T2 n u2, .slice T3 n u3, .slice T4 n u4] 109)) (by go_simp) ?_
              have K7 := hid (show Has (w6.alloc (.cells #[.slice T0 n u0, .slice none 0 0, .slice T2 n u2, .slice T3 n u3, .slice T4 n u4] 109)) (blk w6.heap.size #[.slice T0 n u0, .slice none 0 0, .slice T2 n u2, .slice T3 n u3, .slice T4 n u4] 109 + (0 + ((n4 + (n3 + (n2 + (n0 + (blk b' #[.slice B0 n d0, .slice B1 n d1, .slice B2 t d2, .slice Ae σ.evs.length ce] 84 + m2))))) + G2))) from by rw [MS.zero_add]; exact K6.out.alloc _)
              have hS7 := Hkeep.out (w6.alloc (.cells #[.slice T0 n u0, .slice none 0 0, .slice T2 n u2, .slice T3 n u3, .slice T4 n u4] 109)) (blk w6.heap.size #[.slice T0 n u0, .slice none 0 0, .slice T2 n u2, .slice T3 n u3, .slice T4 n u4] 109 + (n4 + (n3 + (n2 + (n0 + (blk b' #[.slice B0 n d0, .slice B1 n d1, .slice B2 t d2, .slice Ae σ.evs.length ce] 84 + m2)))))) (K7.out.eq (by rw [MS.zero_add]; ac_rfl))
              have E7 := hid (E6.out.trans (Ext.alloc w6 (.cells #[.slice T0 n u0, .slice none 0 0, .slice T2 n u2, .slice T3 n u3, .slice T4 n u4] 109)))
              refine ⟨fun _ => hS7, ?_⟩
              simp only [Act.put, List.setIfInBounds_toArray, List.set_cons_zero, List.set_cons_succ]
              clear hS6
              repeat
                (refine txt_quiet ?_ hS7 rfl rfl (fun W hW => ?_) ?_
                 rotate_left 1
                 · obtain ⟨hW1, hW2, hW3, hW4⟩ := hW
                   go_simp
                   exact rfl
                 simp only [Act.put, List.setIfInBounds_toArray, List.set_cons_zero, List.set_cons_succ])
              refine txt_done ?_
              clear hS7
              generalize w6.heap.size = q at *
              generalize w6.alloc _ = w7 at *
              have f1 : w7.cell? ⟨p, 1, none⟩ = some (.slice S1 n s1) := Hf1.out w7 (blk q #[.slice T0 n u0, .slice none 0 0, .slice T2 n u2, .slice T3 n u3, .slice T4 n u4] 109 + (n4 + (n3 + (n2 + (n0 + (blk b' #[.slice B0 n d0, .slice B1 n d1, .slice B2 t d2, .slice Ae σ.evs.length ce] 84 + m2)))))) (K7.out.eq (by rw [MS.zero_add]; ac_rfl))
              obtain ⟨RR, hRR⟩ : ∃ RR, RR = (n4 + (n3 + (n2 + (n0 + (blk b' #[.slice B0 n d0, .slice B1 n d1, .slice B2 t d2, .slice Ae σ.evs.length ce] 84 + m2))))) := ⟨_, rfl⟩
              have HRR := hid hRR
              rw [← hRR] at K7
              clear hRR
              go_wp2
              clear f1
              go_loopw [118] (fun v wq => ∃ s : Nat, s ≤ n ∧ v = .int .i64 s ∧ ∃ vc mc, Bools2 (x.closed.take s) vc mc ∧ Has wq (blk q #[.slice T0 n u0, vc, .slice T2 n u2, .slice T3 n u3, .slice T4 n u4] 109 + (mc + (RR + G2))) ∧ Ext w wq) (fun v _ => n - (intOf v).toNat)
              case atStart => exact ⟨0, Nat.zero_le _, rfl, _, 0, SlR.empty _ _ _, K7.out, E7.out⟩
              case round =>
                obtain ⟨s, hs, rfl, vc, mc, hvc, hHs, hEs⟩ := hrel
                obtain ⟨Bc, dc, rfl, _⟩ := SlR.form hvc
                have hlc : (x.closed.take s).length = s := by rw [List.length_take, Hz.out.2.1]; omega
                rw [hlc] at hvc hHs
                have Hvc := hid hvc
                have HHs := hid hHs
                have HEs := hid hEs
                have Hlc := hid hlc
                clear hvc hHs hEs hlc
                by_cases hls : s < n
                · obtain ⟨rw_, hrw⟩ : ∃ r, x.closed[s]? = some r := ⟨_, List.getElem?_eq_getElem (by rw [Hz.out.2.1]; exact hls)⟩
                  have hrwl := Hz.out.2.2.1 rw_ (List.mem_of_getElem? hrw)
                  obtain ⟨bc, oc, Aw, cw, hAw, e5, k5, _⟩ := Hr.out.2.1.getSl hrw
                  subst hAw
                  rw [hrwl] at e5 k5
                  have f5 := e5.cell (HF2.out wr (blk q #[.slice T0 n u0, .slice Bc s dc, .slice T2 n u2, .slice T3 n u3, .slice T4 n u4] 109 + (mc + RR)) (HHs.out.eq (by ac_rfl)))
                  have keep : ∀ (W : World) (X : MS), Has W (X + (blk q #[.slice T0 n u0, .slice Bc s dc, .slice T2 n u2, .slice T3 n u3, .slice T4 n u4] 109 + (RR + G2))) → W.cell? ⟨q, 1, none⟩ = some (.slice Bc s dc) := fun W X h => (h.eq (b := blk q #[.slice T0 n u0, .slice Bc s dc, .slice T2 n u2, .slice T3 n u3, .slice T4 n u4] 109 + (X + (RR + G2))) (by ac_rfl)).at_ rfl
                  have H8 := hid (show Has wr.drew (mc + (blk q #[.slice T0 n u0, .slice Bc s dc, .slice T2 n u2, .slice T3 n u3, .slice T4 n u4] 109 + (RR + G2))) from HHs.out.drew.eq (by ac_rfl))
                  have hS := keep _ _ H8.out
                  have Hkeep2 := hid keep
                  have Hk5 := hid (show RdS ((mc + (blk q #[.slice T0 n u0, .slice Bc s dc, .slice T2 n u2, .slice T3 n u3, .slice T4 n u4] 109 + RR)) + G2) RT.bool rw_ (.slice Aw n cw) from HGG.out _ _ _ _ _ k5)
                  have Htk := hid (take_more hrw)
                  have Hls := hid hls
                  have hlsI : (s : Int) < n := by omega
                  have Hrwl := hid hrwl
                  clear keep k5 e5 hrw hls hrwl
                  go_wp2
                  clear f5
                  refine wp_region_txt (fun W => W.cell? ⟨q, 1, none⟩ = some (.slice Bc s dc)) (some 11)
                    [(0, true), (1, true), (2, true), (3, true), (4, true), (5, true), (6, false), (7, false), (8, false), (9, true), (10, true), (11, false)] (by kernel_rfl) rfl (by kernel_rfl) (by kernel_rfl) (by repeat (first | with_reducible refine PanicOk.thn ?_ | with_reducible refine PanicOk.blk ?_ | exact PanicOk.body _ _ _)) ?_
                  repeat
                    (refine txt_quiet ?_ hS rfl rfl (fun W hW => ?_) ?_
                     rotate_left 1
                     · obtain hW1 := hW
                       go_simp
                       exact rfl
                     simp only [Act.put, List.setIfInBounds_toArray, List.set_cons_zero, List.set_cons_succ])
                  refine txt_op rfl rfl ?_
                  refine op_call 85 _ _ (by go_simp) _ (clone_bools (w := wr.drew) Hk5.out (H8.out.eq (by ac_rfl)) (by rw [Hrwl.out]; omega)) ?_
                  rintro e w3 ⟨T, u, nn, rfl, j1, j2, j3⟩
                  rw [Hrwl.out] at j1 ⊢
                  refine ⟨_, rfl, ?_⟩
                  have K8 := hid (show Has w3 ((nn + mc) + (blk q #[.slice T0 n u0, .slice Bc s dc, .slice T2 n u2, .slice T3 n u3, .slice T4 n u4] 109 + (RR + G2))) from j2.eq (by ac_rfl))
                  have hS3 := Hkeep2.out _ _ K8.out
                  refine ⟨fun _ => hS3, ?_⟩
                  simp only [Act.put, List.setIfInBounds_toArray, List.set_cons_zero, List.set_cons_succ]
                  clear hS
                  refine txt_op rfl rfl ?_
                  refine op_run (.slice (some ⟨w3.heap.size, 0, none⟩) 1 1) (w3.alloc (.cells #[.slice T n u] 69)) (by go_simp) ?_
                  have hS4 := Hkeep2.out (w3.alloc (.cells #[.slice T n u] 69)) (pts w3.heap.size (.cells #[.slice T n u] 69) + (nn + mc)) ((K8.out.alloc _).eq (by ac_rfl))
                  refine ⟨fun _ => hS4, ?_⟩
                  simp only [Act.put, List.setIfInBounds_toArray, List.set_cons_zero, List.set_cons_succ]
                  clear hS3
                  refine txt_op rfl rfl ?_
                  refine op_push (.tmp 126) (.tmp 129) row64 rfl (.slice Bc s dc) rfl _ rfl rfl (El Bools) El.one El.len (x.closed.take s) rw_ mc nn _ Hvc.out ⟨_, rfl, j1, rfl⟩ (K8.out.eq (b := mc + (nn + (blk q #[.slice T0 n u0, .slice Bc s dc, .slice T2 n u2, .slice T3 n u3, .slice T4 n u4] 109 + (RR + G2)))) (by ac_rfl)) s Hlc.out (by omega) (by omega) ?_
                  intro B9 d9 w9 m9 j4 j5 j6
                  have hS5 := Hkeep2.out w9 m9 j5
                  refine ⟨fun _ => hS5, ?_⟩
                  simp only [Act.put, List.setIfInBounds_toArray, List.set_cons_zero, List.set_cons_succ]
                  clear hS4
                  repeat
                    (refine txt_quiet ?_ hS5 rfl rfl (fun W hW => ?_) ?_
                     rotate_left 1
                     · obtain hW1 := hW
                       go_simp
                       exact rfl
                     simp only [Act.put, List.setIfInBounds_toArray, List.set_cons_zero, List.set_cons_succ])
                  refine txt_op rfl rfl ?_
                  refine op_store_blk (.tmp 132) (.tmp 130) 64 rfl size64 q 1 (.slice B9 (s + 1) d9) rfl rfl rfl #[.slice T0 n u0, .slice Bc s dc, .slice T2 n u2, .slice T3 n u3, .slice T4 n u4] 109 (m9 + (RR + G2)) (j5.eq (by ac_rfl)) (by simp) ?_
                  intro w10 j7 j8
                  refine ⟨fun h => absurd rfl h, ?_⟩
                  simp only [Act.put]
                  refine txt_done ?_
                  have H10 := hid (show Has w10 (blk q #[.slice T0 n u0, .slice B9 (s + 1) d9, .slice T2 n u2, .slice T3 n u3, .slice T4 n u4] 109 + (m9 + (RR + G2))) from j7)
                  have E10 := hid ((((HEs.out.trans (Ext.drew _)).trans j3).trans j6).trans j8)
                  have H9 := hid j4
                  clear hS5 j1 j2 j3 j4 j5 j6 j7 j8 H8
                  go_wp2
                  go_roundw
                  case rel => exact ⟨s + 1, Hls.out, by go_num, _, m9, by rw [Htk.out]; exact H9.out, H10.out, E10.out⟩
                  case measure => have := Hls.out; simp [intOf]; omega
                · obtain rfl : s = n := by omega
                  have Hcl := hid (show Bools2 x.closed (.slice Bc s dc) mc by have := Hvc.out; rw [List.take_of_length_le (by rw [Hz.out.2.1]; exact Nat.le_refl _)] at this; exact this)
                  have Hsv := hid (show ShotV (x, q) (.pointer (some ⟨q, 0, none⟩)) (blk q #[.slice T0 s u0, .slice Bc s dc, .slice T2 s u2, .slice T3 s u3, .slice T4 s u4] 109 + (n0 + (mc + (n2 + (n3 + n4))))) from ⟨_, _, _, _, _, _, _, _, _, _, rfl, rfl, R0.out, Hcl.out, R2.out, R3.out, R4.out⟩)
                  have HH9 := hid (show Has wr (m2 + ((blk q #[.slice T0 s u0, .slice Bc s dc, .slice T2 s u2, .slice T3 s u3, .slice T4 s u4] 109 + (n0 + (mc + (n2 + (n3 + n4))))) + (blk b' #[.slice B0 s d0, .slice B1 s d1, .slice B2 t d2, .slice Ae σ.evs.length ce] 84 + G2))) from HHs.out.eq (by rw [HRR.out]; ac_rfl))
                  have g2 : wr.cell? ⟨b', 2, none⟩ = some (.slice B2 t d2) := (HH9.out.eq (b := blk b' #[.slice B0 s d0, .slice B1 s d1, .slice B2 t d2, .slice Ae σ.evs.length ce] 84 + (m2 + ((blk q #[.slice T0 s u0, .slice Bc s dc, .slice T2 s u2, .slice T3 s u3, .slice T4 s u4] 109 + (n0 + (mc + (n2 + (n3 + n4))))) + G2))) (by ac_rfl)).at_ rfl
                  go_wp2_with (first
                    | (at_builtin; refine wpList_push rfl (.tmp 138) (.tmp 140) row82 rfl (.slice B2 t d2) rfl _ rfl rfl (El ShotV) El.one El.len ((σ.shots.take t).zip ps') (x, q) m2 _ _ H2.out ⟨_, rfl, Hsv.out, rfl⟩ HH9.out t Hl2.out.1 (by omega) (by omega) ?_; intro B9 d9 w9 m9 j4 j5 j6; have J4 := hid j4; have J5 := hid (j5.eq (b := blk b' #[.slice B0 s d0, .slice B1 s d1, .slice B2 t d2, .slice Ae σ.evs.length ce] 84 + (m9 + G2)) (by ac_rfl)); have J6 := hid (HEs.out.trans j6); clear j4 j5 j6)
                    | (refine wpList_store_blk rfl (.tmp 143) (.tmp 141) 82 rfl size82 b' 2 (.slice B9 (t + 1) d9) rfl rfl rfl #[.slice B0 s d0, .slice B1 s d1, .slice B2 t d2, .slice Ae σ.evs.length ce] 84 _ J5.out (by simp) ?_; intro w10 j7 j8; have J7 := hid j7; have J8 := hid (J6.out.trans j8); clear j7 j8))
                  go_roundw
                  case rel => exact ⟨t + 1, Hlt.out, by go_num, ps' ++ [q], _, m9, by rw [List.length_append, Hl2.out.2]; rfl, by
                      have e : (σ.shots.take (t + 1)).zip (ps' ++ [q]) = (σ.shots.take t).zip ps' ++ [(x, q)] := by
                        rw [Hmore.out, List.zip_append (by rw [List.length_take, Hl2.out.2]; have := Hlt.out; omega)]; rfl
                      rw [e]; exact J4.out, J7.out, J8.out⟩
                  case measure => have := Hlt.out; simp [intOf]; omega
            · obtain rfl : t = σ.shots.length := by omega
              have HX := hid (show IsNet Pl σ ps' b' (blk b' #[.slice B0 n d0, .slice B1 n d1, .slice B2 σ.shots.length d2, .slice Ae σ.evs.length ce] 84 + (m0 + (m1 + (m2 + me)))) from ⟨Hl2.out.2, _, _, _, _, m0, m1, m2, me, rfl, Hsta.out, Hch.out, by have := H2.out; rw [List.take_of_length_le (Nat.le_refl _)] at this; exact this, Re.out⟩)
              have HY := hid (show Has wr ((blk b' #[.slice B0 n d0, .slice B1 n d1, .slice B2 σ.shots.length d2, .slice Ae σ.evs.length ce] 84 + (m0 + (m1 + (m2 + me)))) + G) from HHx.out.eq (by rw [HG2.out, HG1.out]; ac_rfl))
              go_wp2
              go_ret
              exact ⟨b', ps', _, rfl, HX.out, HY.out, HEx.out⟩
end Go.Proofs.Ytnkgfgkgepadhaa

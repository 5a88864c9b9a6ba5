/-
  The walk of the reference's Copy.
-/
import Derived.Test.YtnkgfgkgepadhaaRefOpen
namespace Go.Proofs.Ytnkgfgkgepadhaa
open Go.RowKit
set_option linter.unusedVariables false
set_option linter.unusedSimpArgs false

/-- The first loop of Copy. -/
def CpInv (F G : MS) (w : World) (b n : Nat) (vh : Value) (σ : Net) (v : Value) (wr : World) : Prop :=
  ∃ t : Nat, t ≤ n ∧ v = .int .i64 t ∧ ∃ v1 m1 v2 m2, Ints2 (σ.clocks.take t) v1 m1 ∧ RChans F (σ.chan.take t) v2 m2 ∧ Has wr (blk b #[vh, v1, v2, .slice none 0 0, .slice none 0 0] 118 + (m1 + (m2 + G))) ∧ Ext w wr
set_option maxHeartbeats 4000000 in
set_option maxRecDepth 100000 in
theorem rcopy_any {F : MS} {σ : Net} {b : Nat} {w : World} (hok : NetOk σ) (hr : RdRef F σ b) (hH : Has w F) :
    Calls Try.prog 88 #[.pointer (some ⟨b, 0, none⟩)] w fun e w' => ∃ b' m, e = .returned (.pointer (some ⟨b', 0, none⟩)) ∧ IsRef F σ b' m ∧ Has w' (m + F) ∧ Ext w w' := by
  obtain ⟨v0, v1, v2, v3, v4, q⟩ := hr
  obtain ⟨a0, a1, a2, a3, a4, kh, kc, kl, ke, ks⟩ := q
  obtain ⟨A0, c0, rfl, _⟩ := kh.form
  obtain ⟨A1, c1, rfl, _⟩ := kc.form
  obtain ⟨A2, c2, rfl, _⟩ := kl.form
  obtain ⟨A3, c3, rfl, _⟩ := ke.form
  obtain ⟨A4, c4, rfl, _⟩ := ks.form
  have n5 : σ.n ≤ 5 := hok.n5
  have hn0 : σ.helds.length = σ.n := helds_len σ
  have hn1 : σ.clocks.length = σ.n := clocks_len σ
  have hn2 : σ.chan.length = σ.n := hok.rows
  rw [hn0] at a0 kh
  rw [hn1] at a1 kc
  rw [hn2] at a2 kl
  have f0 := a0.cell (X := 0) (by rw [MS.zero_add]; exact hH)
  have Hc := hid (rints_any kh hH (by omega))
  rw [hn0] at Hc
  have HH := hid hH
  have Hok := hid hok
  have Hkh := hid kh
  have Hn := hid (And.intro hn0 (And.intro hn1 hn2))
  have Ha := hid (And.intro a0 (And.intro a1 (And.intro a2 (And.intro a3 a4))))
  have Hk := hid (And.intro kc (And.intro kl (And.intro ke ks)))
  have q5 : (σ.n : Int) ≤ 5 := by omega
  clear hok hH a0 a1 a2 a3 a4 kh kc kl ke ks hn0 hn1 hn2
  go_enter Try.func88, Try.ntmps88
  go_wp2_with (go_at_call 90; refine Hc.out.mono ?_; rintro e w1 ⟨Ah, ch, mh, rfl, k1, k2, k3⟩; have Kh := hid k1; have K1 := hid k2; have E1 := hid k3; clear k1 k2 k3)
  have HB := hid (K1.out.alloc (.cells #[.slice Ah σ.n ch, .slice none 0 0, .slice none 0 0, .slice none 0 0, .slice none 0 0] 118))
  have HEB := hid (E1.out.trans (Ext.alloc w1 (.cells #[.slice Ah σ.n ch, .slice none 0 0, .slice none 0 0, .slice none 0 0, .slice none 0 0] 118)))
  generalize hbb : w1.heap.size = b' at *
  clear hbb
  generalize w1.alloc _ = w2 at *
  have HI := hid (show CpInv F (mh + F) w b' σ.n (.slice Ah σ.n ch) σ (.int .i64 0) w2 from
    ⟨0, Nat.zero_le _, rfl, .slice none 0 0, 0, .slice none 0 0, 0, SlR.empty _ _ _, SlR.empty _ _ _, by rw [MS.zero_add, MS.zero_add]; exact HB.out, HEB.out⟩)
  clear HB HEB K1 E1 f0
  go_loopw [4] (fun v wr => CpInv F (mh + F) w b' σ.n (.slice Ah σ.n ch) σ v wr) (fun v _ => σ.n - (intOf v).toNat)
  case atStart => exact HI.out
  case round =>
    obtain ⟨t, ht, rfl, v1, m1, v2, m2, h1, h2, hHt, hEt⟩ := hrel
    obtain ⟨B1, d1, rfl, _⟩ := SlR.form h1
    obtain ⟨B2, d2, rfl, _⟩ := SlR.form h2
    have hl1 : (σ.clocks.take t).length = t := by rw [List.length_take, Hn.out.2.1]; omega
    have hl2 : (σ.chan.take t).length = t := by rw [List.length_take, Hn.out.2.2]; omega
    rw [hl1] at h1 hHt
    rw [hl2] at h2 hHt
    obtain ⟨a0, a1, a2, a3, a4⟩ := Ha.out
    have f0 : wr.cell? ⟨b, 0, none⟩ = _ := MS.at.cell (((a0.more mh).more m2).more m1) hHt
    by_cases hlt : t < σ.n
    · -- DEV<
      obtain ⟨kc, kl, _, _⟩ := Hk.out
      obtain ⟨bc, oc, Aq, cq, hA1, e1, kq, _⟩ := kc.getSl (clocks_get Hok.out hlt)
      subst hA1
      obtain ⟨r, hr, hrl, hrj⟩ := chan_get Hok.out hlt
      obtain ⟨bl, ol, Ar, cr, hA2, e2, kr, _⟩ := kl.getSl hr
      subst hA2
      rw [hrl] at e2 kr
      have hqn : (σ.S t).clock.length = σ.n := S_clock Hok.out hlt
      rw [hqn] at e1 kq
      have hltI : (t : Int) < σ.n := by omega
      -- what the region reads
      have keep : ∀ (W : World) (X : MS), Has W (X + (blk b' #[.slice Ah σ.n ch, .slice B1 t d1, .slice B2 t d2, .slice none 0 0, .slice none 0 0] 118 + (m2 + (mh + F)))) →
          W.cell? ⟨b', 1, none⟩ = some (.slice B1 t d1) ∧ W.cell? ⟨b, 1, none⟩ = some (.slice (some ⟨bc, oc, none⟩) σ.n c1) ∧ W.cell? ⟨bc, oc + t, none⟩ = some (.slice Aq σ.n cq) := fun W X h =>
        ⟨(blk_at' rfl _).cell h, (((a1.more mh).more m2).more _).cell h, (((e1.more mh).more m2).more _).cell h⟩
      have Hkeep := hid keep
      have H3 : Has wr.drew (m1 + (blk b' #[.slice Ah σ.n ch, .slice B1 t d1, .slice B2 t d2, .slice none 0 0, .slice none 0 0] 118 + (m2 + (mh + F)))) := hHt.drew.eq (by ac_rfl)
      have hS := keep _ _ H3
      have Hh1 := hid h1
      have Hh2 := hid h2
      have HE := hid hEt
      have Hlt := hid hlt
      have Hr := hid (And.intro hr (And.intro hrl hrj))
      have Hkr := hid kr
      have Hkq := hid kq
      have He2 := hid e2
      have Hc1 := hid (take_more (clocks_get Hok.out hlt))
      have Hc2 := hid (take_more hr)
      have Hl := hid (And.intro hl1 hl2)
      have Hqn := hid hqn
      have Ha0 := hid a0
      have Ha2 := hid a2
      clear keep h1 h2 hHt hEt a0 a1 a2 a3 a4 kc kl hr hrl hrj kr kq e1 e2 hl1 hl2 hqn
      go_wp2
      refine wp_region_txt (fun W => W.cell? ⟨b', 1, none⟩ = some (.slice B1 t d1) ∧ W.cell? ⟨b, 1, none⟩ = some (.slice (some ⟨bc, oc, none⟩) σ.n c1) ∧ W.cell? ⟨bc, oc + t, none⟩ = some (.slice Aq σ.n cq)) (some 17)
        [(0, true), (1, true), (2, true), (3, true), (4, true), (5, true), (6, true), (7, true), (8, true), (9, true), (10, true), (11, true), (12, false), (13, false), (14, false), (15, true), (16, true), (17, false)] (by kernel_rfl) rfl (by kernel_rfl) (by kernel_rfl) (by repeat (first | with_reducible refine PanicOk.thn ?_ | with_reducible refine PanicOk.blk ?_ | exact PanicOk.body _ _ _)) ?_
      repeat
        (refine txt_quiet ?_ hS rfl rfl (fun W hW => ?_) ?_
         rotate_left 1
         · obtain ⟨hW1, hW2, hW3⟩ := hW
           go_simp
           exact rfl
         simp only [Act.put, List.setIfInBounds_toArray, List.set_cons_zero, List.set_cons_succ])
      refine txt_op rfl rfl ?_
      refine op_call 90 _ _ (by go_simp) _ (rints_any (w := wr.drew) ((((Hkq.out.more mh).more m2).more (blk b' #[.slice Ah σ.n ch, .slice B1 t d1, .slice B2 t d2, .slice none 0 0, .slice none 0 0] 118)).more m1) H3 (by rw [Hqn.out]; omega)) ?_
      rintro e w3 ⟨Aw, cw, mw, rfl, j1, j2, j3⟩
      rw [Hqn.out] at j1 ⊢
      refine ⟨_, rfl, ?_⟩
      have hS3 := Hkeep.out w3 (mw + m1) (j2.eq (by ac_rfl))
      refine ⟨fun _ => hS3, ?_⟩
      simp only [Act.put, List.setIfInBounds_toArray, List.set_cons_zero, List.set_cons_succ]
      clear hS
      refine txt_op rfl rfl ?_
      refine op_run (.slice (some ⟨w3.heap.size, 0, none⟩) 1 1) (w3.alloc (.cells #[.slice Aw σ.n cw] 22)) (by go_simp) ?_
      have hS4 := Hkeep.out (w3.alloc (.cells #[.slice Aw σ.n cw] 22)) (pts w3.heap.size (.cells #[.slice Aw σ.n cw] 22) + (mw + m1)) ((j2.alloc _).eq (by ac_rfl))
      refine ⟨fun _ => hS4, ?_⟩
      simp only [Act.put, List.setIfInBounds_toArray, List.set_cons_zero, List.set_cons_succ]
      clear hS3
      refine txt_op rfl rfl ?_
      refine op_push (.tmp 34) (.tmp 43) row44 rfl (.slice B1 t d1) rfl _ rfl rfl (El Ints) El.one El.len (σ.clocks.take t) (σ.S t).clock m1 mw _ Hh1.out (El.ints j1) (j2.eq (b := m1 + (mw + (blk b' #[.slice Ah σ.n ch, .slice B1 t d1, .slice B2 t d2, .slice none 0 0, .slice none 0 0] 118 + (m2 + (mh + F))))) (by ac_rfl)) t Hl.out.1 (by omega) (by omega) ?_
      intro B3 d3 w5 m5 j4 j5 j6
      have hS5 := Hkeep.out w5 m5 j5
      refine ⟨fun _ => hS5, ?_⟩
      simp only [Act.put, List.setIfInBounds_toArray, List.set_cons_zero, List.set_cons_succ]
      clear hS4
      repeat
        (refine txt_quiet ?_ hS5 rfl rfl (fun W hW => ?_) ?_
         rotate_left 1
         · obtain ⟨hW1, hW2, hW3⟩ := hW
           go_simp
           exact rfl
         simp only [Act.put, List.setIfInBounds_toArray, List.set_cons_zero, List.set_cons_succ])
      refine txt_op rfl rfl ?_
      refine op_store_blk (.tmp 46) (.tmp 44) 44 rfl size44 b' 1 (.slice B3 (t + 1) d3) rfl rfl rfl #[.slice Ah σ.n ch, .slice B1 t d1, .slice B2 t d2, .slice none 0 0, .slice none 0 0] 118 (m5 + (m2 + (mh + F))) (j5.eq (by ac_rfl)) (by simp) ?_
      intro w6 j7 j8
      refine ⟨fun h => absurd rfl h, ?_⟩
      simp only [Act.put]
      refine txt_done ?_
      have H6 := hid (show Has w6 (blk b' #[.slice Ah σ.n ch, .slice B3 (t + 1) d3, .slice B2 t d2, .slice none 0 0, .slice none 0 0] 118 + (m5 + (m2 + (mh + F)))) from j7)
      have E6 := hid ((((HE.out.trans (Ext.drew _)).trans j3).trans j6).trans j8)
      have Hcl := hid (show Ints2 (σ.clocks.take (t + 1)) (.slice B3 (t + 1) d3) m5 by rw [Hc1.out]; exact j4)
      clear hS5 j1 j2 j3 j4 j5 j6 j7 j8 H3 Hh1 HE
      have f0 : w6.cell? ⟨b, 0, none⟩ = _ := MS.at.cell (((Ha0.out.more mh).more m2).more m5) H6.out
      go_wp2
      obtain ⟨hr, hrl, hrj⟩ := Hr.out
      have K6 := hid (show Has w6 (blk b' #[.slice Ah σ.n ch, .slice B3 (t + 1) d3, .slice B2 t d2, .slice none 0 0, .slice none 0 0] 118 + (m5 + (m2 + (mh + F)))) from H6.out)
      have Hrj := hid hrj
      have Hrl := hid hrl
      clear hr hrl hrj f0
      go_loopw [5, 6] (fun vo v wq => ∃ s : Nat, s ≤ σ.n ∧ v = .int .i64 s ∧ ∃ mo, RLines F (r.take s) vo mo ∧ Has wq (mo + (blk b' #[.slice Ah σ.n ch, .slice B3 (t + 1) d3, .slice B2 t d2, .slice none 0 0, .slice none 0 0] 118 + (m5 + (m2 + (mh + F))))) ∧ Ext w wq) (fun _ v _ => σ.n - (intOf v).toNat)
      case atStart => exact ⟨0, Nat.zero_le _, rfl, 0, SlR.empty _ _ _, by rw [MS.zero_add]; exact K6.out, E6.out⟩
      case round =>
        obtain ⟨s, hs, rfl, mo, ho, hHs, hEs⟩ := hrel
        obtain ⟨Bo, dO, rfl, _⟩ := SlR.form ho
        have hlo : (r.take s).length = s := by rw [List.length_take, Hrl.out]; omega
        rw [hlo] at ho ⊢
        have lift : ∀ {x y : Nat} {u : Value}, F.at x y u → wr.cell? ⟨x, y, none⟩ = some u := fun h => MS.at.cell ((((h.more mh).more m2).more m5).more (blk b' #[.slice Ah σ.n ch, .slice B3 (t + 1) d3, .slice B2 t d2, .slice none 0 0, .slice none 0 0] 118)) hHs
        have g0 := lift Ha0.out
        by_cases hls : s < σ.n
        · have g2 := lift Ha2.out
          have g3 := lift He2.out
          obtain ⟨br, orr, Al, cl, hAr, e4, kln, hl4, _⟩ := Hkr.out.getSl (Hrj.out s hls)
          subst hAr
          have g4 := lift e4
          have hln := line_len Hok.out hlt hls
          obtain ⟨_, _, _, xs, y1, y2, y3⟩ := kln.cells
          have hnews := (((((y1.more mh).more m2).more m5).more (blk b' #[.slice Ah σ.n ch, .slice B3 (t + 1) d3, .slice B2 t d2, .slice none 0 0, .slice none 0 0] 118))).news hHs
          have hnone : Al = none → (σ.lineAt t s).length = 0 := fun hA => by
            rcases Nat.eq_zero_or_pos (σ.lineAt t s).length with h | h
            · exact h
            · obtain ⟨bb, oo, h7, _⟩ := y1 (fun e => by rw [e, RT.rmsg_sz] at y3; simp at y3; omega)
              rw [hA] at h7; cases h7
          have Hnews := hid hnews
          have Hnone := hid hnone
          have Hy := hid (And.intro y2 y3)
          have Ho := hid ho
          have HHs := hid hHs
          have HEs := hid hEs
          have Hls := hid hls
          have hlsI : (s : Int) < σ.n := by omega
          have hlnI : ((σ.lineAt t s).length : Int) ≤ 1000 := by omega
          have Hmr := hid (take_more (Hrj.out s hls))
          have Hlo := hid hlo
          have Hln := hid hln
          clear lift e4 kln y1 y2 y3 hnews hnone ho hHs hEs hlo hln
          go_wp2_with (first
            | (at_builtin; refine wpList_append_sl rfl (.tmp 57) (.tmp 67) 125 rfl 127 _ 2 32 Try.underlying125 info127 rfl (.slice none 0 0) rfl Al (σ.lineAt t s).length cl rfl 0 [] 0 _ (Sl.nil 127 2) (by rw [MS.zero_add]; exact HHs.out) _ Hy.out.2 Hnone.out Hnews.out (rowsq_one (T := RT.rmsg) (fun _ _ => rmsg_one) Hy.out.1) (by have := Hln.out; simp only [maxLen]; omega) (by have := Hln.out; omega) ?_; intro vl w7 ml j1 j2 j3; obtain ⟨Bl, dl, rfl, _⟩ := j1.form; simp only [Nat.zero_add, List.nil_append] at j1 ⊢; have J1 := hid (rline_of j1 Hy.out.1); have J2 := hid j2; have J3 := hid j3; clear j1 j2 j3)
            | (at_builtin; refine wpList_push rfl (.tmp 56) (.tmp 69) row119 rfl (.slice Bo s dO) rfl _ rfl rfl (El (RLine F)) El.one El.len (r.take s) (σ.lineAt t s) mo ml _ Ho.out ⟨_, rfl, J1.out, rfl⟩ (J2.out.eq (b := mo + (ml + (blk b' #[.slice Ah σ.n ch, .slice B3 (t + 1) d3, .slice B2 t d2, .slice none 0 0, .slice none 0 0] 118 + (m5 + (m2 + (mh + F)))))) (by ac_rfl)) s Hlo.out (by omega) (by omega) ?_; intro B8 d8 w8 m8 j4 j5 j6; have J4 := hid j4; have J5 := hid j5; have J6 := hid j6; clear j4 j5 j6))
          go_roundw
          case rel => exact ⟨s + 1, Hls.out, by go_num, m8, by rw [Hmr.out]; exact J4.out, J5.out, (HEs.out.trans J3.out).trans J6.out⟩
          case measure => have := Hls.out; simp [intOf]; omega
        · obtain rfl : s = σ.n := by omega
          have Ho := hid (show RLines F r (.slice Bo σ.n dO) mo by rw [List.take_of_length_le (by have := Hrl.out; omega)] at ho; exact ho)
          have g1 : wr.cell? ⟨b', 2, none⟩ = some (.slice B2 t d2) := MS.at.cell (blk_at' rfl _) hHs
          have HHs := hid hHs
          have HEs := hid hEs
          clear lift ho hHs hEs hlo
          go_wp2_with (first
            | (at_builtin; refine wpList_push rfl (.tmp 75) (.tmp 77) row115 rfl (.slice B2 t d2) rfl _ rfl rfl (El (RLines F)) El.one El.len (σ.chan.take t) r m2 mo _ Hh2.out ⟨_, rfl, Ho.out, rfl⟩ (HHs.out.eq (b := m2 + (mo + (blk b' #[.slice Ah σ.n ch, .slice B3 (t + 1) d3, .slice B2 t d2, .slice none 0 0, .slice none 0 0] 118 + (m5 + (mh + F))))) (by ac_rfl)) t Hl.out.2 (by omega) (by omega) ?_; intro B9 d9 w9 m9 j4 j5 j6; have J4 := hid j4; have J5 := hid (j5.eq (b := blk b' #[.slice Ah σ.n ch, .slice B3 (t + 1) d3, .slice B2 t d2, .slice none 0 0, .slice none 0 0] 118 + (m5 + (m9 + (mh + F)))) (by ac_rfl)); have J6 := hid j6; clear j4 j5 j6)
            | (refine wpList_store_blk rfl (.tmp 80) (.tmp 78) 115 rfl size115 b' 2 (.slice B9 (t + 1) d9) rfl rfl rfl #[.slice Ah σ.n ch, .slice B3 (t + 1) d3, .slice B2 t d2, .slice none 0 0, .slice none 0 0] 118 _ J5.out (by simp) ?_; intro w10 j7 j8; have J7 := hid j7; have J8 := hid j8; clear j7 j8))
          go_roundw
          case rel => exact ⟨t + 1, Hlt.out, by go_num, _, m5, _, m9, Hcl.out, by rw [Hc2.out]; exact J4.out, J7.out, (HEs.out.trans J6.out).trans J8.out⟩
          case measure => have := Hlt.out; simp [intOf]; omega
      -- DEV>
    · obtain rfl : t = σ.n := by omega
      have Hv1 := hid (show Ints2 σ.clocks (.slice B1 σ.n d1) m1 by rw [List.take_of_length_le (by have := Hn.out.2.1; omega)] at h1; exact h1)
      have Hv2 := hid (show RChans F σ.chan (.slice B2 σ.n d2) m2 by rw [List.take_of_length_le (by have := Hn.out.2.2; omega)] at h2; exact h2)
      obtain ⟨_, _, ke, ks⟩ := Hk.out
      have Hks := hid ks
      obtain ⟨_, _, _, xs, y1, y2, y3⟩ := ke.cells
      have keep : ∀ (W : World) (X : MS), Has W (X + (blk b' #[.slice Ah σ.n ch, .slice B1 σ.n d1, .slice B2 σ.n d2, .slice none 0 0, .slice none 0 0] 118 + (m1 + (m2 + (mh + F))))) →
          W.cell? ⟨b', 3, none⟩ = some (.slice none 0 0) ∧ W.cell? ⟨b, 3, none⟩ = some (.slice A3 σ.evs.length c3) := fun W X h =>
        ⟨(blk_at' rfl _).cell h, ((((a3.more mh).more m2).more m1).more _).cell h⟩
      have H3 : Has wr.drew (0 + (blk b' #[.slice Ah σ.n ch, .slice B1 σ.n d1, .slice B2 σ.n d2, .slice none 0 0, .slice none 0 0] 118 + (m1 + (m2 + (mh + F))))) := by rw [MS.zero_add]; exact hHt.drew
      have hS := keep _ _ H3
      have Hkeep := hid keep
      have hnews := (((((y1.more mh).more m2).more m1).more (blk b' #[.slice Ah σ.n ch, .slice B1 σ.n d1, .slice B2 σ.n d2, .slice none 0 0, .slice none 0 0] 118))).news H3
      have hnone : A3 = none → σ.evs.length = 0 := fun hA => by
        rcases Nat.eq_zero_or_pos σ.evs.length with h | h
        · exact h
        · obtain ⟨bb, oo, h7, _⟩ := y1 (fun e => by
            rw [e] at y3
            have : RT.ev.sz = 5 := rfl
            rw [this] at y3; simp at y3; omega)
          rw [hA] at h7; cases h7
      have Hnews := hid hnews
      have Hnone := hid hnone
      have Hy := hid (And.intro y2 y3)
      have HE := hid hEt
      have Ha4 := hid a4
      have hev := Hok.out.evs
      have hevI : (σ.evs.length : Int) ≤ 400 := by omega
      have Hev := hid hev
      clear h1 h2 hHt hEt hl1 hl2 a0 a1 a2 a3 a4 ke ks y1 y2 y3 keep hnews hnone hev
      go_wp2
      refine wp_region_txt (fun W => W.cell? ⟨b', 3, none⟩ = some (.slice none 0 0) ∧ W.cell? ⟨b, 3, none⟩ = some (.slice A3 σ.evs.length c3)) (some 12)
        [(0, true), (1, true), (2, true), (3, true), (4, true), (5, true), (6, true), (7, true), (8, true), (9, false), (10, true), (11, true), (12, false)] (by kernel_rfl) rfl (by kernel_rfl) (by kernel_rfl) (by repeat (first | with_reducible refine PanicOk.thn ?_ | with_reducible refine PanicOk.blk ?_ | exact PanicOk.body _ _ _)) ?_
      repeat
        (refine txt_quiet ?_ hS rfl rfl (fun W hW => ?_) ?_
         rotate_left 1
         · obtain ⟨hW1, hW2⟩ := hW
           go_simp
           exact rfl
         simp only [Act.put, List.setIfInBounds_toArray, List.set_cons_zero, List.set_cons_succ])
      refine txt_op rfl rfl ?_
      refine op_append_sl (.tmp 85) (.tmp 89) 32 rfl 68 _ 5 56 Try.underlying32 info68 rfl (.slice none 0 0) rfl A3 σ.evs.length c3 rfl 0 [] 0 _ (Sl.nil 68 5) H3 xs Hy.out.2 Hnone.out Hnews.out (RdC_one Hy.out.1) (by have := Hev.out; simp only [maxLen]; omega) (by have := Hev.out; omega) ?_
      intro v3' w3 m3 j1 j2 j3
      obtain ⟨B3, d3, rfl, _⟩ := j1.form
      simp only [Nat.zero_add, List.nil_append] at j1 ⊢
      have hS3 := Hkeep.out w3 m3 j2
      refine ⟨fun _ => hS3, ?_⟩
      simp only [Act.put, List.setIfInBounds_toArray, List.set_cons_zero, List.set_cons_succ]
      clear hS
      repeat
        (refine txt_quiet ?_ hS3 rfl rfl (fun W hW => ?_) ?_
         rotate_left 1
         · obtain ⟨hW1, hW2⟩ := hW
           go_simp
           exact rfl
         simp only [Act.put, List.setIfInBounds_toArray, List.set_cons_zero, List.set_cons_succ])
      refine txt_op rfl rfl ?_
      refine op_store_blk (.tmp 92) (.tmp 90) 32 rfl size32 b' 3 (.slice B3 σ.evs.length d3) rfl rfl rfl #[.slice Ah σ.n ch, .slice B1 σ.n d1, .slice B2 σ.n d2, .slice none 0 0, .slice none 0 0] 118 (m3 + (m1 + (m2 + (mh + F)))) (j2.eq (by ac_rfl)) (by simp) ?_
      intro w4 j4 j5
      refine ⟨fun h => absurd rfl h, ?_⟩
      simp only [Act.put]
      refine txt_done ?_
      have H4 := hid (show Has w4 (blk b' #[.slice Ah σ.n ch, .slice B1 σ.n d1, .slice B2 σ.n d2, .slice B3 σ.evs.length d3, .slice none 0 0] 118 + (0 + (m3 + (m1 + (m2 + (mh + F)))))) from by rw [MS.zero_add]; exact j4)
      have E4 := hid (((HE.out.trans (Ext.drew _)).trans j3).trans j5)
      have Hv3 := hid (revs_of j1 Hy.out.1)
      clear hS3 j1 j2 j3 j4 j5 H3
      go_wp2
      go_loopw [8] (fun v wr => ∃ t : Nat, t ≤ σ.shots.length ∧ v = .int .i64 t ∧ ∃ v4 m4, SlR 150 5 RShot (σ.shots.take t) v4 m4 ∧ Has wr (blk b' #[.slice Ah σ.n ch, .slice B1 σ.n d1, .slice B2 σ.n d2, .slice B3 σ.evs.length d3, v4] 118 + (m4 + (m3 + (m1 + (m2 + (mh + F)))))) ∧ Ext w wr) (fun v _ => σ.shots.length - (intOf v).toNat)
      case atStart => exact ⟨0, Nat.zero_le _, rfl, _, 0, SlR.empty _ _ _, H4.out, E4.out⟩
      case round =>
        obtain ⟨t, ht, rfl, v4, m4, h4, hHt, hEt⟩ := hrel
        have lift : ∀ {x y : Nat} {u : Value}, F.at x y u → wr.cell? ⟨x, y, none⟩ = some u := fun h => MS.at.cell ((((((h.more mh).more m2).more m1).more m3).more m4)) hHt
        have g4 := lift Ha4.out
        have hshI : (σ.shots.length : Int) ≤ 8 := by have := Hok.out.shots; omega
        by_cases hlt : t < σ.shots.length
        · obtain ⟨x, hx⟩ : ∃ x, σ.shots[t]? = some x := ⟨_, List.getElem?_eq_getElem hlt⟩
          obtain ⟨b5, o5, S0, s0, S1, s1, S2, s2, S3, s3, S4, s4, hA4, ⟨e0, e1, e2, e3, e4⟩, r0, r1, r2, r3, r4⟩ := Hks.out.getRshot hx
          subst hA4
          have i0 := lift e0
          have i1 := lift e1
          have i2 := lift e2
          have i3 := lift e3
          have i4 := lift e4
          obtain ⟨z1, z2, z3, z4, z5, z6, z7⟩ := Hok.out.shot x (List.mem_of_getElem? hx)
          have hltI : (t : Int) < σ.shots.length := by omega
          have hn5' : σ.sta.length ≤ 5 := Hok.out.n5
          have HF := hid (show Has (wr.alloc (.cells #[.slice S0 x.recorded.length s0, .slice S1 x.pieces.length s1, .slice S2 x.cut.length s2, .slice S3 x.closed.length s3, .slice S4 x.under.length s4] 150)) (blk wr.heap.size #[.slice S0 x.recorded.length s0, .slice S1 x.pieces.length s1, .slice S2 x.cut.length s2, .slice S3 x.closed.length s3, .slice S4 x.under.length s4] 150 + (blk b' #[.slice Ah σ.n ch, .slice B1 σ.n d1, .slice B2 σ.n d2, .slice B3 σ.evs.length d3, v4] 118 + (m4 + (m3 + (m1 + (m2 + (mh + F))))))) from hHt.alloc _)
          have HEA := hid (hEt.trans (Ext.alloc wr (.cells #[.slice S0 x.recorded.length s0, .slice S1 x.pieces.length s1, .slice S2 x.cut.length s2, .slice S3 x.closed.length s3, .slice S4 x.under.length s4] 150)))
          have H4' := hid h4
          have Hr := hid (And.intro r0 (And.intro r1 (And.intro r2 (And.intro r3 r4))))
          have Hz := hid (And.intro z1 (And.intro z2 (And.intro z3 (And.intro z4 (And.intro z5 (And.intro z6 z7))))))
          have Hx := hid hx
          have Hlt := hid hlt
          have hgb := World.block_lt_of_cell? _ _ i0
          simp only at hgb
          clear lift h4 hHt hEt hx e0 e1 e2 e3 e4 r0 r1 r2 r3 r4 z1 z2 z3 z4 z5 z6 z7
          go_wp2
          generalize hgg : wr.heap.size = g9 at *
          clear hgg
          have HFo := HF.out
          generalize wr.alloc _ = w5 at *
          obtain ⟨hs0, hs1, hs2, hs3, hs4⟩ : w5.cell? ⟨g9, 0, none⟩ = some (.slice S0 x.recorded.length s0) ∧ w5.cell? ⟨g9, 1, none⟩ = some (.slice S1 x.pieces.length s1) ∧ w5.cell? ⟨g9, 2, none⟩ = some (.slice S2 x.cut.length s2) ∧ w5.cell? ⟨g9, 3, none⟩ = some (.slice S3 x.closed.length s3) ∧ w5.cell? ⟨g9, 4, none⟩ = some (.slice S4 x.under.length s4) :=
            ⟨HFo.at_ rfl, HFo.at_ rfl, HFo.at_ rfl, HFo.at_ rfl, HFo.at_ rfl⟩
          have hS : w5.drew.cell? ⟨g9, 0, none⟩ = some (.slice S0 x.recorded.length s0) ∧ w5.drew.cell? ⟨g9, 1, none⟩ = some (.slice S1 x.pieces.length s1) ∧ w5.drew.cell? ⟨g9, 2, none⟩ = some (.slice S2 x.cut.length s2) := ⟨hs0, hs1, hs2⟩
          clear hs0 hs1 hs2 hs3 hs4 i0 i1 i2 i3 i4 g4
          refine wp_region_grp (fun W => W.cell? ⟨g9, 0, none⟩ = some (.slice S0 x.recorded.length s0) ∧ W.cell? ⟨g9, 1, none⟩ = some (.slice S1 x.pieces.length s1) ∧ W.cell? ⟨g9, 2, none⟩ = some (.slice S2 x.cut.length s2)) none [0, 1, 3, 4, 6, 7] [(5, [2]), (8, [5]), (9, [2, 5, 8])] [2, 5, 8, 9, 10] [(11, false)] (by kernel_rfl) rfl (by kernel_rfl) (by kernel_rfl) (by kernel_rfl) (by kernel_rfl) (by decide +kernel)
            (by repeat (first | exact PanicOk.body _ _ _ | refine PanicOk.thn ?_ | refine PanicOk.blk ?_)) ?_
          repeat
            (refine pre_quiet ?_ hS rfl rfl (fun W hW => ?_) ?_
             rotate_left 1
             · obtain ⟨hW1, hW2, hW3⟩ := hW
               go_simp
               exact rfl
             simp only [Act.put, List.setIfInBounds_toArray, List.set_cons_zero, List.set_cons_succ])
          refine pre_done ⟨blk g9 #[.slice S0 x.recorded.length s0, .slice S1 x.pieces.length s1, .slice S2 x.cut.length s2, .slice S3 x.closed.length s3, .slice S4 x.under.length s4] 150 + (blk b' #[.slice Ah σ.n ch, .slice B1 σ.n d1, .slice B2 σ.n d2, .slice B3 σ.evs.length d3, v4] 118 + (m4 + (m3 + (m1 + (m2 + (mh + F)))))),
            fun i f v m => if i = 2 then Bools x.recorded v m else if i = 5 then Ints x.pieces v m else if i = 8 then Ints x.cut v m else if i = 9 then v = .agg #[f 2, f 5, f 8, .slice none 0 0, .slice none 0 0] ∧ m = 0 else ∃ g, v = .pointer (some ⟨g, 0, none⟩) ∧ m = blk g #[.slice none 0 0, .slice none 0 0, .slice none 0 0, .slice none 0 0, .slice none 0 0] 150, HFo.drew, fun W X h => ⟨(blk_at' rfl _).cell h, (blk_at' rfl _).cell h, (blk_at' rfl _).cell h⟩, ?_, ?_, ?_, ?_⟩
          · intro j hj
            simp only [List.mem_cons, List.not_mem_nil, or_false] at hj
            rcases hj with rfl | rfl | rfl | rfl | rfl <;> exact of_decide_eq_true rfl
          · intro i f f' v m hd hG
            by_cases h9 : i = 9
            · subst h9
              have e2 := hd 2 (by decide)
              have e5 := hd 5 (by decide)
              have e8 := hd 8 (by decide)
              simpa [e2, e5, e8] using hG
            · simpa [h9] using hG
          · -- DEV<
            intro i hi o ho a' f W M K hev hev2 hev3 hw hK
            obtain ⟨r0, r1, r2, _, _⟩ := Hr.out
            obtain ⟨z1, _, _, z4, z5, _, _⟩ := Hz.out
            simp only [List.mem_cons, List.not_mem_nil, or_false] at hi
            rcases hi with rfl | rfl | rfl | rfl | rfl
            · cases (show some _ = some o from ho)
              have e : a'.tmps[110]?.getD undef = .slice S0 x.recorded.length s0 := by
                have := hev 110 (by decide)
                simpa [Act.eval] using this
              refine op_call 95 #[.slice S0 x.recorded.length s0] W (by go_simp) _ (rbools_any (w := W) (((((((((r0.more mh).more m2).more m1).more m3).more m4).more (blk b' #[.slice Ah σ.n ch, .slice B1 σ.n d1, .slice B2 σ.n d2, .slice B3 σ.evs.length d3, v4] 118)).more (blk g9 #[.slice S0 x.recorded.length s0, .slice S1 x.pieces.length s1, .slice S2 x.cut.length s2, .slice S3 x.closed.length s3, .slice S4 x.under.length s4] 150)).more M)) hw (by omega)) ?_
              rintro e' w' ⟨A', c', m', rfl, k1, k2, k3⟩
              exact ⟨_, rfl, hK _ w' m' k1 k2 k3⟩
            · cases (show some _ = some o from ho)
              have e : a'.tmps[113]?.getD undef = .slice S1 x.pieces.length s1 := by
                have := hev 113 (by decide)
                simpa [Act.eval] using this
              refine op_call 90 #[.slice S1 x.pieces.length s1] W (by go_simp) _ (rints_any (w := W) (((((((((r1.more mh).more m2).more m1).more m3).more m4).more (blk b' #[.slice Ah σ.n ch, .slice B1 σ.n d1, .slice B2 σ.n d2, .slice B3 σ.evs.length d3, v4] 118)).more (blk g9 #[.slice S0 x.recorded.length s0, .slice S1 x.pieces.length s1, .slice S2 x.cut.length s2, .slice S3 x.closed.length s3, .slice S4 x.under.length s4] 150)).more M)) hw (by omega)) ?_
              rintro e' w' ⟨A', c', m', rfl, k1, k2, k3⟩
              exact ⟨_, rfl, hK _ w' m' k1 k2 k3⟩
            · cases (show some _ = some o from ho)
              have e : a'.tmps[116]?.getD undef = .slice S2 x.cut.length s2 := by
                have := hev 116 (by decide)
                simpa [Act.eval] using this
              refine op_call 90 #[.slice S2 x.cut.length s2] W (by go_simp) _ (rints_any (w := W) (((((((((r2.more mh).more m2).more m1).more m3).more m4).more (blk b' #[.slice Ah σ.n ch, .slice B1 σ.n d1, .slice B2 σ.n d2, .slice B3 σ.evs.length d3, v4] 118)).more (blk g9 #[.slice S0 x.recorded.length s0, .slice S1 x.pieces.length s1, .slice S2 x.cut.length s2, .slice S3 x.closed.length s3, .slice S4 x.under.length s4] 150)).more M)) hw (by omega)) ?_
              rintro e' w' ⟨A', c', m', rfl, k1, k2, k3⟩
              exact ⟨_, rfl, hK _ w' m' k1 k2 k3⟩
            · cases (show some _ = some o from ho)
              obtain ⟨n2, h2⟩ := hev3 2 (by decide)
              obtain ⟨n5, h5⟩ := hev3 5 (by decide)
              obtain ⟨n8, h8⟩ := hev3 8 (by decide)
              obtain ⟨T2, u2, h2, _⟩ := SlR.form (show Bools x.recorded (f 2) n2 by simpa using h2)
              obtain ⟨T5, u5, h5, _⟩ := SlR.form (show Ints x.pieces (f 5) n5 by simpa using h5)
              obtain ⟨T8, u8, h8, _⟩ := SlR.form (show Ints x.cut (f 8) n8 by simpa using h8)
              have e2 : a'.tmps[111]?.getD undef = .slice T2 x.recorded.length u2 := by
                have := hev2 2 (by decide)
                rw [← h2, ← this]; simp [Act.eval, dstOf]
              have e5 : a'.tmps[114]?.getD undef = .slice T5 x.pieces.length u5 := by
                have := hev2 5 (by decide)
                rw [← h5, ← this]; simp [Act.eval, dstOf]
              have e8 : a'.tmps[117]?.getD undef = .slice T8 x.cut.length u8 := by
                have := hev2 8 (by decide)
                rw [← h8, ← this]; simp [Act.eval, dstOf]
              refine op_run (.agg #[f 2, f 5, f 8, .slice none 0 0, .slice none 0 0]) W (by rw [h2, h5, h8]; go_simp) ?_
              exact hK _ W 0 ⟨rfl, rfl⟩ (by rw [MS.zero_add]; exact hw) (Ext.refl W)
            · cases (show some _ = some o from ho)
              refine op_run (.pointer (some ⟨W.heap.size, 0, none⟩)) (W.alloc (.cells #[.slice none 0 0, .slice none 0 0, .slice none 0 0, .slice none 0 0, .slice none 0 0] 150)) (by go_simp) ?_
              exact hK _ _ _ ⟨W.heap.size, rfl, rfl⟩ (hw.alloc _) (Ext.alloc _ _)
            -- DEV>
          · intro f g w6 hfg H1 E1
            have q2 := hfg 2 (by simp)
            have q5 := hfg 5 (by simp)
            have q8 := hfg 8 (by simp)
            have q9 := hfg 9 (by simp)
            have q10 := hfg 10 (by simp)
            simp only [if_true, if_neg (by decide : ¬ 5 = 2), if_neg (by decide : ¬ 8 = 2), if_neg (by decide : ¬ 8 = 5), if_neg (by decide : ¬ 9 = 2), if_neg (by decide : ¬ 9 = 5), if_neg (by decide : ¬ 9 = 8), if_neg (by decide : ¬ 10 = 2), if_neg (by decide : ¬ 10 = 5), if_neg (by decide : ¬ 10 = 8), if_neg (by decide : ¬ 10 = 9)] at q2 q5 q8 q9 q10
            obtain ⟨q9, q90⟩ := q9
            obtain ⟨gq, q10, q100⟩ := q10
            obtain ⟨T2, u2, e2, _⟩ := SlR.form q2
            obtain ⟨T5, u5, e5, _⟩ := SlR.form q5
            obtain ⟨T8, u8, e8, _⟩ := SlR.form q8
            rw [e2, e5, e8] at q9
            rw [e2] at q2
            rw [e5] at q5
            rw [e8] at q8
            simp only [List.foldl_cons, List.foldl_nil, putL, q9, q10, e2, e5, e8]
            obtain ⟨R, hR⟩ : ∃ R, R = g 2 + (g 5 + (g 8 + (blk g9 #[.slice S0 x.recorded.length s0, .slice S1 x.pieces.length s1, .slice S2 x.cut.length s2, .slice S3 x.closed.length s3, .slice S4 x.under.length s4] 150 + (blk b' #[.slice Ah σ.n ch, .slice B1 σ.n d1, .slice B2 σ.n d2, .slice B3 σ.evs.length d3, v4] 118 + (m4 + (m3 + (m1 + (m2 + (mh + F))))))))) := ⟨_, rfl⟩
            have H7 : Has w6 (blk gq #[.slice none 0 0, .slice none 0 0, .slice none 0 0, .slice none 0 0, .slice none 0 0] 150 + R) := (show Has w6 (g 10 + (g 9 + (g 8 + (g 5 + (g 2 + (blk g9 #[.slice S0 x.recorded.length s0, .slice S1 x.pieces.length s1, .slice S2 x.cut.length s2, .slice S3 x.closed.length s3, .slice S4 x.under.length s4] 150 + (blk b' #[.slice Ah σ.n ch, .slice B1 σ.n d1, .slice B2 σ.n d2, .slice B3 σ.evs.length d3, v4] 118 + (m4 + (m3 + (m1 + (m2 + (mh + F)))))))))))) from H1).eq (by rw [q90, q100, hR, MS.zero_add]; ac_rfl)
            have hs3 : R.at g9 3 (.slice S3 x.closed.length s3) := by rw [hR]; exact ((((blk_at' rfl _).more _).more _).more _)
            have hs4 : R.at g9 4 (.slice S4 x.under.length s4) := by rw [hR]; exact ((((blk_at' rfl _).more _).more _).more _)
            have hb0 : R.at b' 4 v4 := by rw [hR]; exact (((((blk_at' rfl _).more _).more _).more _).more _)
            obtain ⟨Y, hY⟩ : ∃ Y, R = Y + F := ⟨g 2 + (g 5 + (g 8 + (blk g9 #[.slice S0 x.recorded.length s0, .slice S1 x.pieces.length s1, .slice S2 x.cut.length s2, .slice S3 x.closed.length s3, .slice S4 x.under.length s4] 150 + (blk b' #[.slice Ah σ.n ch, .slice B1 σ.n d1, .slice B2 σ.n d2, .slice B3 σ.evs.length d3, v4] 118 + (m4 + (m3 + (m1 + (m2 + mh)))))))), by rw [hR]; ac_rfl⟩
            have Hq := hid (And.intro q2 (And.intro q5 q8))
            have HR := hid hR
            have HY := hid hY
            have E6 := hid ((HEA.out.trans (Ext.drew _)).trans E1)
            clear hfg H1 E1 q90 q100 q9 q10 e2 e5 e8 q2 q5 q8 hR hY HFo hS
            show wpTxt _ _ _ _ _ _ (((((Act.put _ (some 111) (.slice T2 x.recorded.length u2)).put (some 114) (.slice T5 x.pieces.length u5)).put (some 117) (.slice T8 x.cut.length u8)).put (some 118) (.agg #[.slice T2 x.recorded.length u2, .slice T5 x.pieces.length u5, .slice T8 x.cut.length u8, .slice none 0 0, .slice none 0 0])).put (some 10) (.pointer (some ⟨gq, 0, none⟩))) _
            simp only [Act.put, List.setIfInBounds_toArray, List.set_cons_zero, List.set_cons_succ]
            refine txt_op rfl rfl ?_
            refine op_store_whole (.tmp 10) (.tmp 118) 150 rfl 5 size150 gq (.agg #[.slice T2 x.recorded.length u2, .slice T5 x.pieces.length u5, .slice T8 x.cut.length u8, .slice none 0 0, .slice none 0 0]) rfl rfl rfl (by simp [Value.cells, Value.oneCell']) #[.slice none 0 0, .slice none 0 0, .slice none 0 0, .slice none 0 0, .slice none 0 0] 150 R H7 rfl ?_
            intro w7 k7 k8
            refine ⟨fun _ => ⟨?_, ?_, ?_⟩, ?_⟩
            · exact MS.at.cell (X := blk gq _ 150) (by rw [HR.out]; exact ((((blk_at' rfl _).more _).more _).more _)) k7
            · exact MS.at.cell (X := blk gq _ 150) (by rw [HR.out]; exact ((((blk_at' rfl _).more _).more _).more _)) k7
            · exact MS.at.cell (X := blk gq _ 150) (by rw [HR.out]; exact ((((blk_at' rfl _).more _).more _).more _)) k7
            simp only [Act.put]
            refine txt_done ?_
            have H8 := hid (show Has w7 (blk gq #[.slice T2 x.recorded.length u2, .slice T5 x.pieces.length u5, .slice T8 x.cut.length u8, .slice none 0 0, .slice none 0 0] 150 + (0 + (0 + R))) from by rw [MS.zero_add, MS.zero_add]; exact k7)
            have E8 := hid (E6.out.trans k8)
            have Hs3 := hid hs3
            have Hs4 := hid hs4
            have Hb0 := hid hb0
            clear H7 k7 k8 hs3 hs4 hb0 E6
            have Hzz := hid (show x.under.length = x.closed.length ∧ x.closed.length ≤ 5 ∧ (∀ r ∈ x.closed, r.length ≤ 5) ∧ ∀ r ∈ x.under, r.length ≤ 5 ∧ ∀ l ∈ r, l.length ≤ 400 from by
              obtain ⟨z1, z2, z3, z4, z5, z6, z7⟩ := Hz.out
              have := Hok.out.evs
              exact ⟨by omega, by omega, fun r hr => by have := z3 r hr; omega, fun r hr => ⟨by have := (z7 r hr).1; omega, fun l hl => by have := (z7 r hr).2 l hl; omega⟩⟩)
            have hclI : (x.closed.length : Int) ≤ 5 := by have := Hzz.out.2.1; omega
            go_wp2
            go_loopw [11] (fun v wq => ∃ s : Nat, s ≤ x.closed.length ∧ v = .int .i64 s ∧ ∃ vc mc vu mu, Bools2 (x.closed.take s) vc mc ∧ Ints3 (x.under.take s) vu mu ∧ Has wq (blk gq #[.slice T2 x.recorded.length u2, .slice T5 x.pieces.length u5, .slice T8 x.cut.length u8, vc, vu] 150 + (mc + (mu + R))) ∧ Ext w wq) (fun v _ => x.closed.length - (intOf v).toNat)
            case atStart => exact ⟨0, Nat.zero_le _, rfl, _, 0, _, 0, SlR.empty _ _ _, SlR.empty _ _ _, H8.out, E8.out⟩
            case round =>
              obtain ⟨s, hs, rfl, vc, mc, vu, mu, hvc, hvu, hHs, hEs⟩ := hrel
              obtain ⟨Bc, dc, rfl, _⟩ := SlR.form hvc
              obtain ⟨Bu, du, rfl, _⟩ := SlR.form hvu
              have hlc : (x.closed.take s).length = s := by rw [List.length_take]; omega
              have hlu : (x.under.take s).length = s := by rw [List.length_take, Hzz.out.1]; omega
              rw [hlc] at hvc hHs
              rw [hlu] at hvu hHs
              have g3 := MS.at.cell (((Hs3.out.more mu).more mc)) hHs
              by_cases hls : s < x.closed.length
              · obtain ⟨rc, hrc⟩ : ∃ r, x.closed[s]? = some r := ⟨_, List.getElem?_eq_getElem hls⟩
                obtain ⟨ru, hru⟩ : ∃ r, x.under[s]? = some r := ⟨_, List.getElem?_eq_getElem (by rw [Hzz.out.1]; exact hls)⟩
                obtain ⟨_, _, _, r3, r4⟩ := Hr.out
                obtain ⟨bC, oC, Arc, crc, hS3, y3, y4, _⟩ := r3.getSl hrc
                obtain ⟨bU, oU, Aru, cru, hS4, y5, y6, _⟩ := r4.getSl hru
                subst hS3
                subst hS4
                have upF : ∀ {y z : Nat} {u : Value}, F.at y z u → R.at y z u := fun h => by rw [HY.out]; exact h.more Y
                have keep : ∀ (W : World) (X : MS), Has W (X + (blk gq #[.slice T2 x.recorded.length u2, .slice T5 x.pieces.length u5, .slice T8 x.cut.length u8, .slice Bc s dc, .slice Bu s du] 150 + (mu + R))) →
                    W.cell? ⟨gq, 3, none⟩ = some (.slice Bc s dc) ∧ W.cell? ⟨g9, 3, none⟩ = some (.slice (some ⟨bC, oC, none⟩) x.closed.length s3) ∧ W.cell? ⟨bC, oC + s, none⟩ = some (.slice Arc rc.length crc) := fun W X h =>
                  ⟨(blk_at' rfl _).cell h, ((Hs3.out.more mu).more _).cell h, (((upF y3).more mu).more _).cell h⟩
                have H3 : Has wr.drew (mc + (blk gq #[.slice T2 x.recorded.length u2, .slice T5 x.pieces.length u5, .slice T8 x.cut.length u8, .slice Bc s dc, .slice Bu s du] 150 + (mu + R))) := hHs.drew.eq (by ac_rfl)
                have hS := keep _ _ H3
                have hrcl := Hzz.out.2.2.1 rc (List.mem_of_getElem? hrc)
                have hrul := (Hzz.out.2.2.2 ru (List.mem_of_getElem? hru)).1
                have Hkeep := hid keep
                have Hvc := hid hvc
                have Hvu := hid hvu
                have HEs := hid hEs
                have Hls := hid hls
                have Hl := hid (And.intro hlc hlu)
                have Hy4 := hid (show RdS R RT.bool rc (.slice Arc rc.length crc) by rw [HY.out]; exact y4.more Y)
                have Hy6 := hid (show RdS R (RT.sl RT.int) ru (.slice Aru ru.length cru) by rw [HY.out]; exact y6.more Y)
                have Hy5 := hid (upF y5)
                have Hm1 := hid (take_more hrc)
                have Hm2 := hid (take_more hru)
                have Hrq := hid (Hzz.out.2.2.2 ru (List.mem_of_getElem? hru)).2
                have hlsI : (s : Int) < x.closed.length := by omega
                have hlsU : (s : Int) < x.under.length := by have := Hzz.out.1; omega
                have hrulI : (ru.length : Int) ≤ 5 := by omega
                have Hrcl := hid hrcl
                clear hvc hvu hHs hEs hlc hlu hrc hru r3 r4 y3 y4 y5 y6 upF keep hrcl
                go_wp2
                refine wp_region_txt (fun W => W.cell? ⟨gq, 3, none⟩ = some (.slice Bc s dc) ∧ W.cell? ⟨g9, 3, none⟩ = some (.slice (some ⟨bC, oC, none⟩) x.closed.length s3) ∧ W.cell? ⟨bC, oC + s, none⟩ = some (.slice Arc rc.length crc)) (some 11)
                  [(0, true), (1, true), (2, true), (3, true), (4, true), (5, true), (6, true), (7, false), (8, false), (9, false), (10, true), (11, false)] (by kernel_rfl) rfl (by kernel_rfl) (by kernel_rfl) (by repeat (first | with_reducible refine PanicOk.thn ?_ | with_reducible refine PanicOk.blk ?_ | exact PanicOk.body _ _ _)) ?_
                repeat
                  (refine txt_quiet ?_ hS rfl rfl (fun W hW => ?_) ?_
                   rotate_left 1
                   · obtain ⟨hW1, hW2, hW3⟩ := hW
                     go_simp
                     exact rfl
                   simp only [Act.put, List.setIfInBounds_toArray, List.set_cons_zero, List.set_cons_succ])
                refine txt_op rfl rfl ?_
                refine op_call 95 _ _ (by go_simp) _ (rbools_any (w := wr.drew) (((Hy4.out.more mu).more (blk gq #[.slice T2 x.recorded.length u2, .slice T5 x.pieces.length u5, .slice T8 x.cut.length u8, .slice Bc s dc, .slice Bu s du] 150)).more mc) H3 (by have := Hrcl.out; omega)) ?_
                rintro e w8 ⟨Aw, cw, mw, rfl, j1, j2, j3⟩
                refine ⟨_, rfl, ?_⟩
                have hS3 := Hkeep.out w8 (mw + mc) (j2.eq (by ac_rfl))
                refine ⟨fun _ => hS3, ?_⟩
                simp only [Act.put, List.setIfInBounds_toArray, List.set_cons_zero, List.set_cons_succ]
                clear hS
                refine txt_op rfl rfl ?_
                refine op_run (.slice (some ⟨w8.heap.size, 0, none⟩) 1 1) (w8.alloc (.cells #[.slice Aw rc.length cw] 69)) (by go_simp) ?_
                have hS4 := Hkeep.out (w8.alloc (.cells #[.slice Aw rc.length cw] 69)) (pts w8.heap.size (.cells #[.slice Aw rc.length cw] 69) + (mw + mc)) ((j2.alloc _).eq (by ac_rfl))
                refine ⟨fun _ => hS4, ?_⟩
                simp only [Act.put, List.setIfInBounds_toArray, List.set_cons_zero, List.set_cons_succ]
                clear hS3
                refine txt_op rfl rfl ?_
                refine op_push (.tmp 127) (.tmp 134) row64 rfl (.slice Bc s dc) rfl _ rfl rfl (El Bools) El.one El.len (x.closed.take s) rc mc mw _ Hvc.out ⟨_, rfl, j1, SlR.one j1⟩ (j2.eq (b := mc + (mw + (blk gq #[.slice T2 x.recorded.length u2, .slice T5 x.pieces.length u5, .slice T8 x.cut.length u8, .slice Bc s dc, .slice Bu s du] 150 + (mu + R)))) (by ac_rfl)) s Hl.out.1 (by omega) (by omega) ?_
                intro B9 d9 w9 m9 j4 j5 j6
                have hS5 := Hkeep.out w9 m9 j5
                refine ⟨fun _ => hS5, ?_⟩
                simp only [Act.put, List.setIfInBounds_toArray, List.set_cons_zero, List.set_cons_succ]
                clear hS4
                repeat
                  (refine txt_quiet ?_ hS5 rfl rfl (fun W hW => ?_) ?_
                   rotate_left 1
                   · obtain ⟨hW1, hW2, hW3⟩ := hW
                     go_simp
                     exact rfl
                   simp only [Act.put, List.setIfInBounds_toArray, List.set_cons_zero, List.set_cons_succ])
                refine txt_op rfl rfl ?_
                refine op_store_blk (.tmp 136) (.tmp 135) 64 rfl size64 gq 3 (.slice B9 (s + 1) d9) rfl rfl rfl #[.slice T2 x.recorded.length u2, .slice T5 x.pieces.length u5, .slice T8 x.cut.length u8, .slice Bc s dc, .slice Bu s du] 150 (m9 + (mu + R)) (j5.eq (by ac_rfl)) (by simp) ?_
                intro w10 j7 j8
                refine ⟨fun h => absurd rfl h, ?_⟩
                simp only [Act.put]
                refine txt_done ?_
                have Hc9 := hid (show Bools2 (x.closed.take (s + 1)) (.slice B9 (s + 1) d9) m9 by rw [Hm1.out]; exact j4)
                have H10 := hid (show Has w10 (blk gq #[.slice T2 x.recorded.length u2, .slice T5 x.pieces.length u5, .slice T8 x.cut.length u8, .slice B9 (s + 1) d9, .slice Bu s du] 150 + (m9 + (mu + R))) from j7)
                have E10 := hid ((((HEs.out.trans (Ext.drew _)).trans j3).trans j6).trans j8)
                clear hS5 j1 j2 j3 j4 j5 j6 j7 j8 H3
                go_wp2
                go_loopw [12, 13] (fun vo v wq => ∃ j : Nat, j ≤ ru.length ∧ v = .int .i64 j ∧ ∃ mo, Ints2 (ru.take j) vo mo ∧ Has wq (mo + (blk gq #[.slice T2 x.recorded.length u2, .slice T5 x.pieces.length u5, .slice T8 x.cut.length u8, .slice B9 (s + 1) d9, .slice Bu s du] 150 + (m9 + (mu + R)))) ∧ Ext w wq) (fun _ v _ => ru.length - (intOf v).toNat)
                case atStart => exact ⟨0, Nat.zero_le _, rfl, 0, SlR.empty _ _ _, by rw [MS.zero_add]; exact H10.out, E10.out⟩
                case round =>
                  obtain ⟨j, hj, rfl, mo, ho, hHj, hEj⟩ := hrel
                  obtain ⟨Bo, dO, rfl, _⟩ := SlR.form ho
                  have hlo : (ru.take j).length = j := by rw [List.length_take]; omega
                  rw [hlo] at ho ⊢
                  have i4 := MS.at.cell ((((Hs4.out.more mu).more m9).more _)) hHj
                  have i5 := MS.at.cell ((((Hy5.out.more mu).more m9).more _)) hHj
                  by_cases hlj : j < ru.length
                  · obtain ⟨q, hq⟩ : ∃ q, ru[j]? = some q := ⟨_, List.getElem?_eq_getElem hlj⟩
                    obtain ⟨b6, o6, Aq6, cq6, hAru, y7, y8, _⟩ := Hy6.out.getSl hq
                    subst hAru
                    have i6 := MS.at.cell ((((y7.more mu).more m9).more _)) hHj
                    have Hcl6 := hid (rints_any ((((y8.more mu).more m9).more (blk gq #[.slice T2 x.recorded.length u2, .slice T5 x.pieces.length u5, .slice T8 x.cut.length u8, .slice B9 (s + 1) d9, .slice Bu s du] 150)).more mo) hHj (by have := Hrq.out q (List.mem_of_getElem? hq); omega))
                    have Ho := hid ho
                    have HEj := hid hEj
                    have Hlj := hid hlj
                    have Hmq := hid (take_more hq)
                    have Hlo := hid hlo
                    have hljI : (j : Int) < ru.length := by omega
                    clear ho hHj hEj hlo hq y7 y8
                    go_wp2_with (first
                      | (go_at_call 90; refine Hcl6.out.mono ?_; rintro e w11 ⟨A7, c7, m7, rfl, j1, j2, j3⟩; have J1 := hid j1; have J2 := hid j2; have J3 := hid j3; clear j1 j2 j3)
                      | (at_builtin; refine wpList_push rfl (.tmp 147) (.tmp 157) row44 rfl (.slice Bo j dO) rfl _ rfl rfl (El Ints) El.one El.len (ru.take j) q mo m7 _ Ho.out (El.ints J1.out) (J2.out.eq (b := mo + (m7 + (blk gq #[.slice T2 x.recorded.length u2, .slice T5 x.pieces.length u5, .slice T8 x.cut.length u8, .slice B9 (s + 1) d9, .slice Bu s du] 150 + (m9 + (mu + R))))) (by ac_rfl)) j Hlo.out (by omega) (by omega) ?_; intro B8 d8 w12 m8 j4 j5 j6; have J4 := hid j4; have J5 := hid j5; have J6 := hid j6; clear j4 j5 j6))
                    go_roundw
                    case rel => exact ⟨j + 1, Hlj.out, by go_num, m8, by rw [Hmq.out]; exact J4.out, J5.out, (HEj.out.trans J3.out).trans J6.out⟩
                    case measure => have := Hlj.out; simp [intOf]; omega
                  · obtain rfl : j = ru.length := by omega
                    have Ho := hid (show Ints2 ru (.slice Bo ru.length dO) mo by rw [List.take_length] at ho; exact ho)
                    have i7 : wr.cell? ⟨gq, 4, none⟩ = some (.slice Bu s du) := MS.at.cell (blk_at' rfl _) hHj
                    have HHj := hid hHj
                    have HEj := hid hEj
                    clear ho hHj hEj hlo
                    go_wp2_with (first
                      | (at_builtin; refine wpList_push rfl (.tmp 160) (.tmp 162) row36 rfl (.slice Bu s du) rfl _ rfl rfl (El Ints2) El.one El.len (x.under.take s) ru mu mo _ Hvu.out (El.ints2 Ho.out) (HHj.out.eq (b := mu + (mo + (blk gq #[.slice T2 x.recorded.length u2, .slice T5 x.pieces.length u5, .slice T8 x.cut.length u8, .slice B9 (s + 1) d9, .slice Bu s du] 150 + (m9 + R)))) (by ac_rfl)) s Hl.out.2 (by omega) (by omega) ?_; intro B8 d8 w12 m8 j4 j5 j6; have J4 := hid j4; have J5 := hid (j5.eq (b := blk gq #[.slice T2 x.recorded.length u2, .slice T5 x.pieces.length u5, .slice T8 x.cut.length u8, .slice B9 (s + 1) d9, .slice Bu s du] 150 + (m9 + (m8 + R))) (by ac_rfl)); have J6 := hid j6; clear j4 j5 j6)
                      | (refine wpList_store_blk rfl (.tmp 164) (.tmp 163) 36 rfl size36 gq 4 (.slice B8 (s + 1) d8) rfl rfl rfl #[.slice T2 x.recorded.length u2, .slice T5 x.pieces.length u5, .slice T8 x.cut.length u8, .slice B9 (s + 1) d9, .slice Bu s du] 150 _ J5.out (by simp) ?_; intro w13 j7 j8; have J7 := hid j7; have J8 := hid j8; clear j7 j8))
                    go_roundw
                    case rel => exact ⟨s + 1, Hls.out, by go_num, _, m9, _, m8, Hc9.out, by rw [Hm2.out]; exact J4.out, J7.out, (HEj.out.trans J6.out).trans J8.out⟩
                    case measure => have := Hls.out; simp [intOf]; omega
              · obtain rfl : s = x.closed.length := by omega
                have Hvc := hid (show Bools2 x.closed (.slice Bc x.closed.length dc) mc by rw [List.take_length] at hvc; exact hvc)
                have Hvu := hid (show Ints3 x.under (.slice Bu x.closed.length du) mu by rw [List.take_of_length_le (by have := Hzz.out.1; omega)] at hvu; exact hvu)
                obtain ⟨B4, d4, rfl, _⟩ := H4'.out.form
                have hl4 : (σ.shots.take t).length = t := by rw [List.length_take]; omega
                have h4 := H4'.out
                rw [hl4] at h4 Hb0 HR
                have keep : ∀ (W : World) (X : MS), Has W (X + (blk gq #[.slice T2 x.recorded.length u2, .slice T5 x.pieces.length u5, .slice T8 x.cut.length u8, .slice Bc x.closed.length dc, .slice Bu x.closed.length du] 150 + (blk b' #[.slice Ah σ.n ch, .slice B1 σ.n d1, .slice B2 σ.n d2, .slice B3 σ.evs.length d3, .slice B4 t d4] 118 + (g 2 + (g 5 + (g 8 + (mc + (mu + (blk g9 #[.slice S0 x.recorded.length s0, .slice S1 x.pieces.length s1, .slice S2 x.cut.length s2, .slice S3 x.closed.length s3, .slice S4 x.under.length s4] 150 + (m3 + (m1 + (m2 + (mh + F))))))))))))) →
                    W.cell? ⟨b', 4, none⟩ = some (.slice B4 t d4) ∧ W.cell? ⟨gq, 0, none⟩ = some (.slice T2 x.recorded.length u2) ∧ W.cell? ⟨gq, 1, none⟩ = some (.slice T5 x.pieces.length u5) ∧ W.cell? ⟨gq, 2, none⟩ = some (.slice T8 x.cut.length u8) ∧ W.cell? ⟨gq, 3, none⟩ = some (.slice Bc x.closed.length dc) ∧ W.cell? ⟨gq, 4, none⟩ = some (.slice Bu x.closed.length du) := fun W X h =>
                  ⟨((blk_at' rfl _).more _).cell h, (blk_at' rfl _).cell h, (blk_at' rfl _).cell h, (blk_at' rfl _).cell h, (blk_at' rfl _).cell h, (blk_at' rfl _).cell h⟩
                have H3 : Has wr.drew (m4 + (blk gq #[.slice T2 x.recorded.length u2, .slice T5 x.pieces.length u5, .slice T8 x.cut.length u8, .slice Bc x.closed.length dc, .slice Bu x.closed.length du] 150 + (blk b' #[.slice Ah σ.n ch, .slice B1 σ.n d1, .slice B2 σ.n d2, .slice B3 σ.evs.length d3, .slice B4 t d4] 118 + (g 2 + (g 5 + (g 8 + (mc + (mu + (blk g9 #[.slice S0 x.recorded.length s0, .slice S1 x.pieces.length s1, .slice S2 x.cut.length s2, .slice S3 x.closed.length s3, .slice S4 x.under.length s4] 150 + (m3 + (m1 + (m2 + (mh + F))))))))))))) := hHs.drew.eq (by rw [HR.out]; ac_rfl)
                have hS := keep _ _ H3
                have Hkeep := hid keep
                have H4'' := hid h4
                have Hmx := hid (take_more Hx.out)
                have HEs := hid hEs
                have Hl4 := hid hl4
                clear hvc hvu hHs hEs hlc hlu keep h4 hl4
                go_wp2
                refine wp_region_txt (fun W => W.cell? ⟨b', 4, none⟩ = some (.slice B4 t d4) ∧ W.cell? ⟨gq, 0, none⟩ = some (.slice T2 x.recorded.length u2) ∧ W.cell? ⟨gq, 1, none⟩ = some (.slice T5 x.pieces.length u5) ∧ W.cell? ⟨gq, 2, none⟩ = some (.slice T8 x.cut.length u8) ∧ W.cell? ⟨gq, 3, none⟩ = some (.slice Bc x.closed.length dc) ∧ W.cell? ⟨gq, 4, none⟩ = some (.slice Bu x.closed.length du)) (some 10)
                  [(0, true), (1, true), (2, true), (3, true), (4, true), (5, true), (6, false), (7, false), (8, true), (9, true), (10, false)] (by kernel_rfl) rfl (by kernel_rfl) (by kernel_rfl) (by repeat (first | with_reducible refine PanicOk.thn ?_ | with_reducible refine PanicOk.blk ?_ | exact PanicOk.body _ _ _)) ?_
                repeat
                  (refine txt_quiet ?_ hS rfl rfl (fun W hW => ?_) ?_
                   rotate_left 1
                   · obtain ⟨hW1, hW2, hW3, hW4, hW5, hW6⟩ := hW
                     go_simp
                     exact rfl
                   simp only [Act.put, List.setIfInBounds_toArray, List.set_cons_zero, List.set_cons_succ])
                refine txt_op rfl rfl ?_
                refine op_run (.slice (some ⟨wr.heap.size, 0, none⟩) 1 1) (wr.drew.alloc (.cells #[.slice T2 x.recorded.length u2, .slice T5 x.pieces.length u5, .slice T8 x.cut.length u8, .slice Bc x.closed.length dc, .slice Bu x.closed.length du] 150)) (by go_simp) ?_
                have hS4 := Hkeep.out (wr.drew.alloc (.cells #[.slice T2 x.recorded.length u2, .slice T5 x.pieces.length u5, .slice T8 x.cut.length u8, .slice Bc x.closed.length dc, .slice Bu x.closed.length du] 150)) (pts wr.heap.size (.cells #[.slice T2 x.recorded.length u2, .slice T5 x.pieces.length u5, .slice T8 x.cut.length u8, .slice Bc x.closed.length dc, .slice Bu x.closed.length du] 150) + m4) ((H3.alloc _).eq (by show pts wr.heap.size _ + _ = _; ac_rfl))
                refine ⟨fun _ => hS4, ?_⟩
                simp only [Act.put, List.setIfInBounds_toArray, List.set_cons_zero, List.set_cons_succ]
                clear hS
                refine txt_op rfl rfl ?_
                refine op_push (.tmp 169) (.tmp 171) row116 rfl (.slice B4 t d4) rfl _ rfl rfl RShot RShot.one RShot.len (σ.shots.take t) x m4 (g 2 + (g 5 + (g 8 + (mc + mu)))) _ H4''.out ⟨_, _, _, _, _, _, _, _, _, _, rfl, rfl, Hq.out.1, Hq.out.2.1, Hq.out.2.2, Hvc.out, Hvu.out⟩ (H3.eq (b := m4 + ((g 2 + (g 5 + (g 8 + (mc + mu)))) + (blk b' #[.slice Ah σ.n ch, .slice B1 σ.n d1, .slice B2 σ.n d2, .slice B3 σ.evs.length d3, .slice B4 t d4] 118 + (blk gq #[.slice T2 x.recorded.length u2, .slice T5 x.pieces.length u5, .slice T8 x.cut.length u8, .slice Bc x.closed.length dc, .slice Bu x.closed.length du] 150 + (blk g9 #[.slice S0 x.recorded.length s0, .slice S1 x.pieces.length s1, .slice S2 x.cut.length s2, .slice S3 x.closed.length s3, .slice S4 x.under.length s4] 150 + (m3 + (m1 + (m2 + (mh + F))))))))) (by ac_rfl)) t Hl4.out (by have := Hlt.out; have := Hok.out.shots; omega) (by omega) ?_
                intro B5 d5 w9 m9 j4 j5 j6
                have hS5 : w9.cell? ⟨b', 4, none⟩ = some (.slice B4 t d4) ∧ w9.cell? ⟨gq, 0, none⟩ = some (.slice T2 x.recorded.length u2) ∧ w9.cell? ⟨gq, 1, none⟩ = some (.slice T5 x.pieces.length u5) ∧ w9.cell? ⟨gq, 2, none⟩ = some (.slice T8 x.cut.length u8) ∧ w9.cell? ⟨gq, 3, none⟩ = some (.slice Bc x.closed.length dc) ∧ w9.cell? ⟨gq, 4, none⟩ = some (.slice Bu x.closed.length du) :=
                  ⟨MS.at.cell (blk_at' rfl _) j5, MS.at.cell ((blk_at' rfl _).more _) j5, MS.at.cell ((blk_at' rfl _).more _) j5, MS.at.cell ((blk_at' rfl _).more _) j5, MS.at.cell ((blk_at' rfl _).more _) j5, MS.at.cell ((blk_at' rfl _).more _) j5⟩
                refine ⟨fun _ => hS5, ?_⟩
                simp only [Act.put, List.setIfInBounds_toArray, List.set_cons_zero, List.set_cons_succ]
                clear hS4
                repeat
                  (refine txt_quiet ?_ hS5 rfl rfl (fun W hW => ?_) ?_
                   rotate_left 1
                   · obtain ⟨hW1, hW2, hW3, hW4, hW5, hW6⟩ := hW
                     go_simp
                     exact rfl
                   simp only [Act.put, List.setIfInBounds_toArray, List.set_cons_zero, List.set_cons_succ])
                refine txt_op rfl rfl ?_
                refine op_store_blk (.tmp 174) (.tmp 172) 116 rfl size116 b' 4 (.slice B5 (t + 1) d5) rfl rfl rfl #[.slice Ah σ.n ch, .slice B1 σ.n d1, .slice B2 σ.n d2, .slice B3 σ.evs.length d3, .slice B4 t d4] 118 (m9 + (blk gq #[.slice T2 x.recorded.length u2, .slice T5 x.pieces.length u5, .slice T8 x.cut.length u8, .slice Bc x.closed.length dc, .slice Bu x.closed.length du] 150 + (blk g9 #[.slice S0 x.recorded.length s0, .slice S1 x.pieces.length s1, .slice S2 x.cut.length s2, .slice S3 x.closed.length s3, .slice S4 x.under.length s4] 150 + (m3 + (m1 + (m2 + (mh + F))))))) (j5.eq (by ac_rfl)) (by simp) ?_
                intro w10 j7 j8
                refine ⟨fun h => absurd rfl h, ?_⟩
                simp only [Act.put]
                refine txt_done ?_
                have Hc9 := hid (show SlR 150 5 RShot (σ.shots.take (t + 1)) (.slice B5 (t + 1) d5) m9 by rw [Hmx.out]; exact j4)
                have H10 := hid (((show Has w10 (blk b' #[.slice Ah σ.n ch, .slice B1 σ.n d1, .slice B2 σ.n d2, .slice B3 σ.evs.length d3, .slice B5 (t + 1) d5] 118 + (m9 + (blk gq #[.slice T2 x.recorded.length u2, .slice T5 x.pieces.length u5, .slice T8 x.cut.length u8, .slice Bc x.closed.length dc, .slice Bu x.closed.length du] 150 + (blk g9 #[.slice S0 x.recorded.length s0, .slice S1 x.pieces.length s1, .slice S2 x.cut.length s2, .slice S3 x.closed.length s3, .slice S4 x.under.length s4] 150 + (m3 + (m1 + (m2 + (mh + F)))))))) from j7).eq (b := (blk gq #[.slice T2 x.recorded.length u2, .slice T5 x.pieces.length u5, .slice T8 x.cut.length u8, .slice Bc x.closed.length dc, .slice Bu x.closed.length du] 150 + blk g9 #[.slice S0 x.recorded.length s0, .slice S1 x.pieces.length s1, .slice S2 x.cut.length s2, .slice S3 x.closed.length s3, .slice S4 x.under.length s4] 150) + (blk b' #[.slice Ah σ.n ch, .slice B1 σ.n d1, .slice B2 σ.n d2, .slice B3 σ.evs.length d3, .slice B5 (t + 1) d5] 118 + (m9 + (m3 + (m1 + (m2 + (mh + F))))))) (by ac_rfl)).right)
                have E11 := hid ((HEs.out.trans (Ext.drew _)).trans (j6.trans j8))
                clear hS5 j4 j5 j6 j7 j8 H3
                go_wp2
                go_roundw
                case rel => exact ⟨t + 1, Hlt.out, by go_num, _, m9, Hc9.out, H10.out, E11.out⟩
                case measure => have := Hlt.out; simp [intOf]; omega
        · obtain rfl : t = σ.shots.length := by omega
          have H4' := hid (show SlR 150 5 RShot σ.shots v4 m4 by rw [List.take_length] at h4; exact h4)
          have HHt := hid hHt
          have HEt := hid hEt
          clear lift h4 hHt hEt
          go_wp2
          go_ret
          exact ⟨b', _, rfl, ⟨_, _, _, _, _, _, _, _, _, _, rfl, Kh.out, Hv1.out, Hv2.out, Hv3.out, H4'.out⟩, HHt.out.eq (by ac_rfl), HEt.out⟩
end Go.Proofs.Ytnkgfgkgepadhaa

/-
  The walks of events and shots, where both sides are the same. The walk of shots, where both sides are the same.
-/
import Derived.Test.YtnkgfgkgepadhaaKeeps4
namespace Go.Proofs.Ytnkgfgkgepadhaa
open Go.RowKit
set_option linter.unusedVariables false
set_option linter.unusedSimpArgs false
set_option maxHeartbeats 4000000
set_option maxRecDepth 100000

theorem size68q : (Try.prog.info? 68).map (·.size) = some 5 := by kernel_rfl
theorem events_same {F : MS} {l : List Ev} {A A2 : Option Addr} {n n2 c c2 : Nat} {w : World} (h1 : RdS F RT.ev l (.slice A n c)) (h2 : RdS F RT.ev l (.slice A2 n2 c2)) (hH : Has w F) (hl : l.length ≤ 1000) (hc : ∀ e ∈ l, e.clock.length ≤ 1000) :
    Calls Try.prog 71 #[.slice A n c, .slice A2 n2 c2] w fun e w' => e = .returned (.bool true) ∧ (∀ M, Has w M → Has w' M) ∧ Ext w w' := by
  obtain ⟨rfl, _⟩ := h1.cells
  obtain ⟨rfl, _⟩ := h2.cells
  have H1 := hid h1
  have H2 := hid h2
  have HH := hid hH
  have Hc := hid hc
  have q3 : (l.length : Int) ≤ 1000 := by omega
  have hne : ((l.length : Int) != (l.length : Int)) = false := by simp
  clear h1 h2 hH hc
  go_enter Try.func71, Try.ntmps71
  go_wp2
  go_loopw [5] (fun v wr => ∃ t : Nat, t ≤ l.length ∧ v = .int .i64 t ∧ (∃ X, Has wr (X + MS.all w)) ∧ Ext w wr) (fun v _ => l.length - (intOf v).toNat)
  case atStart => exact ⟨0, Nat.zero_le _, rfl, ⟨0, by rw [MS.zero_add]; exact Has.all w⟩, Ext.refl w⟩
  case round =>
    obtain ⟨t, ht, rfl, ⟨X, hX⟩, hE⟩ := hrel
    by_cases hlt : t < l.length
    · obtain ⟨x, hx⟩ : ∃ x, l[t]? = some x := ⟨_, List.getElem?_eq_getElem hlt⟩
      obtain ⟨b1, o1, A1, c1, rfl, e0, e1, e2, e3, e4, k1⟩ := H1.out.getEv hx
      obtain ⟨b2, o2, A2, c2', rfl, g0, g1, g2, g3, g4, k2⟩ := H2.out.getEv hx
      have hcl := Hc.out x (List.mem_of_getElem? hx)
      obtain ⟨s, hs⟩ : ∃ s, s = x.station := ⟨_, rfl⟩
      obtain ⟨wh, hwh⟩ : ∃ s, s = x.what := ⟨_, rfl⟩
      obtain ⟨ot, hot⟩ : ∃ s, s = x.other := ⟨_, rfl⟩
      obtain ⟨pc, hpc⟩ : ∃ s, s = x.pieces := ⟨_, rfl⟩
      rw [← hs] at e0 g0
      rw [← hwh] at e1 g1
      rw [← hot] at e2 g2
      rw [← hpc] at e3 g3
      have keep : ∀ (W : World) (Y : MS), Has W (Y + (X + MS.all w)) → (W.cell? ⟨b1, o1 + t * 5, none⟩ = some (.int .i64 s) ∧ W.cell? ⟨b1, o1 + t * 5 + 1, none⟩ = some (.int .i64 wh) ∧ W.cell? ⟨b1, o1 + t * 5 + 2, none⟩ = some (.int .i64 ot) ∧ W.cell? ⟨b1, o1 + t * 5 + 3, none⟩ = some (.int .i64 pc) ∧ W.cell? ⟨b1, o1 + t * 5 + 4, none⟩ = some (.slice A1 x.clock.length c1) ∧
          W.cell? ⟨b2, o2 + t * 5, none⟩ = some (.int .i64 s) ∧ W.cell? ⟨b2, o2 + t * 5 + 1, none⟩ = some (.int .i64 wh) ∧ W.cell? ⟨b2, o2 + t * 5 + 2, none⟩ = some (.int .i64 ot) ∧ W.cell? ⟨b2, o2 + t * 5 + 3, none⟩ = some (.int .i64 pc) ∧ W.cell? ⟨b2, o2 + t * 5 + 4, none⟩ = some (.slice A2 x.clock.length c2')) := fun W Y h =>
        have hf : Has W (0 + F) := by rw [MS.zero_add]; exact HH.out.of_all (h.eq (b := (Y + X) + MS.all w) (by ac_rfl))
        ⟨e0.cell hf, e1.cell hf, e2.cell hf, e3.cell hf, e4.cell hf, g0.cell hf, g1.cell hf, g2.cell hf, g3.cell hf, g4.cell hf⟩
      have hS := keep wr.drew 0 (by rw [MS.zero_add]; exact hX.drew)
      have HX := hid hX
      have HE := hid hE
      have Hkeep := hid keep
      have Hk := hid (And.intro k1 (And.intro k2 hcl))
      have Hlt := hid hlt
      have hltI : (t : Int) < l.length := by omega
      have t1 : (s != s) = false := by simp
      have t2 : (wh != wh) = false := by simp
      have t3 : (ot != ot) = false := by simp
      have t4 : (pc != pc) = false := by simp
      clear hX hE keep k1 k2 hcl hlt e0 e1 e2 e3 e4 g0 g1 g2 g3 g4 hx hs hwh hot hpc
      generalize x.clock = clk at *
      clear x
      go_wp2
      refine wp_region_grp (fun W => W.cell? ⟨b1, o1 + t * 5, none⟩ = some (.int .i64 s) ∧ W.cell? ⟨b1, o1 + t * 5 + 1, none⟩ = some (.int .i64 wh) ∧ W.cell? ⟨b1, o1 + t * 5 + 2, none⟩ = some (.int .i64 ot) ∧ W.cell? ⟨b1, o1 + t * 5 + 3, none⟩ = some (.int .i64 pc) ∧ W.cell? ⟨b1, o1 + t * 5 + 4, none⟩ = some (.slice A1 clk.length c1) ∧
          W.cell? ⟨b2, o2 + t * 5, none⟩ = some (.int .i64 s) ∧ W.cell? ⟨b2, o2 + t * 5 + 1, none⟩ = some (.int .i64 wh) ∧ W.cell? ⟨b2, o2 + t * 5 + 2, none⟩ = some (.int .i64 ot) ∧ W.cell? ⟨b2, o2 + t * 5 + 3, none⟩ = some (.int .i64 pc) ∧ W.cell? ⟨b2, o2 + t * 5 + 4, none⟩ = some (.slice A2 clk.length c2')) none [0, 1, 2, 3, 4, 5, 6, 7] [] [8, 9] [(10, false), (11, false)]
        (by kernel_rfl) rfl (by kernel_rfl) (by kernel_rfl) (by kernel_rfl) (by kernel_rfl) (by decide +kernel)
        (by repeat (first | with_reducible refine PanicOk.thn ?_ | with_reducible refine PanicOk.blk ?_ | exact PanicOk.body _ _ _)) ?_
      repeat
        (refine pre_quiet ?_ hS rfl rfl (fun W hW => ?_) ?_
         rotate_left 1
         · obtain ⟨hW1, hW2, hW3, hW4, hW5, hW6, hW7, hW8, hW9, hW10⟩ := hW
           go_simp
           exact rfl
         simp only [Act.put, List.setIfInBounds_toArray, List.set_cons_zero, List.set_cons_succ])
      refine pre_done ⟨X + MS.all w, fun i f v m => ∃ g, v = .pointer (some ⟨g, 0, none⟩) ∧ m = blk g #[.int .i64 0, .int .i64 0, .int .i64 0, .int .i64 0, .slice none 0 0] 68, HX.out.drew, fun W Y h => Hkeep.out W Y h, ?_, ?_, ?_, ?_⟩
      · intro j hj
        simp only [List.mem_cons, List.not_mem_nil, or_false] at hj
        rcases hj with rfl | rfl <;> exact of_decide_eq_true rfl
      · intro i f f' v m hd hG
        exact hG
      · intro i hi o ho a' f W M K hev hev2 hev3 hw hK
        simp only [List.mem_cons, List.not_mem_nil, or_false] at hi
        rcases hi with rfl | rfl
        · cases (show some _ = some o from ho)
          refine op_run (.pointer (some ⟨W.heap.size, 0, none⟩)) (W.alloc (.cells #[.int .i64 0, .int .i64 0, .int .i64 0, .int .i64 0, .slice none 0 0] 68)) (by go_simp) ?_
          exact hK _ _ _ ⟨W.heap.size, rfl, rfl⟩ (hw.alloc _) (Ext.alloc _ _)
        · cases (show some _ = some o from ho)
          refine op_run (.pointer (some ⟨W.heap.size, 0, none⟩)) (W.alloc (.cells #[.int .i64 0, .int .i64 0, .int .i64 0, .int .i64 0, .slice none 0 0] 68)) (by go_simp) ?_
          exact hK _ _ _ ⟨W.heap.size, rfl, rfl⟩ (hw.alloc _) (Ext.alloc _ _)
      · intro f g w6 hfg H6 E6
        obtain ⟨g8, q8, r8⟩ := hfg 8 (by simp)
        obtain ⟨g9, q9, r9⟩ := hfg 9 (by simp)
        have H7 := hid (show Has w6 (blk g8 #[.int .i64 0, .int .i64 0, .int .i64 0, .int .i64 0, .slice none 0 0] 68 + (blk g9 #[.int .i64 0, .int .i64 0, .int .i64 0, .int .i64 0, .slice none 0 0] 68 + (X + MS.all w))) from (show Has w6 (g 9 + (g 8 + (X + MS.all w))) from H6).eq (by rw [r8, r9]; ac_rfl))
        have E7 := hid ((HE.out.trans (Ext.drew _)).trans E6)
        simp only [List.foldl_cons, List.foldl_nil, putL, q8, q9]
        clear hfg H6 E6 q8 q9 r8 r9
        show wpTxt _ _ _ _ _ _ ((Act.put _ (some 6) (.pointer (some ⟨g8, 0, none⟩))).put (some 7) (.pointer (some ⟨g9, 0, none⟩))) _
        simp only [Act.put, List.setIfInBounds_toArray, List.set_cons_zero, List.set_cons_succ]
        have hS7 := Hkeep.out w6 (blk g8 #[.int .i64 0, .int .i64 0, .int .i64 0, .int .i64 0, .slice none 0 0] 68 + blk g9 #[.int .i64 0, .int .i64 0, .int .i64 0, .int .i64 0, .slice none 0 0] 68) (H7.out.eq (by ac_rfl))
        refine txt_op rfl rfl ?_
        refine op_store_whole (.tmp 6) (.tmp 22) 68 rfl 5 size68q g8 (.agg #[.int .i64 s, .int .i64 wh, .int .i64 ot, .int .i64 pc, .slice A1 clk.length c1]) rfl rfl rfl (by simp [Value.cells, Value.oneCell']) #[.int .i64 0, .int .i64 0, .int .i64 0, .int .i64 0, .slice none 0 0] 68 _ H7.out rfl ?_
        intro w8 k8 E8
        refine ⟨fun _ => Hkeep.out w8 (blk g8 #[.int .i64 s, .int .i64 wh, .int .i64 ot, .int .i64 pc, .slice A1 clk.length c1] 68 + blk g9 #[.int .i64 0, .int .i64 0, .int .i64 0, .int .i64 0, .slice none 0 0] 68) ((show Has w8 (blk g8 #[.int .i64 s, .int .i64 wh, .int .i64 ot, .int .i64 pc, .slice A1 clk.length c1] 68 + _) from k8).eq (by ac_rfl)), ?_⟩
        simp only [Act.put, List.setIfInBounds_toArray, List.set_cons_zero, List.set_cons_succ]
        refine txt_op rfl rfl ?_
        refine op_store_whole (.tmp 7) (.tmp 26) 68 rfl 5 size68q g9 (.agg #[.int .i64 s, .int .i64 wh, .int .i64 ot, .int .i64 pc, .slice A2 clk.length c2']) rfl rfl rfl (by simp [Value.cells, Value.oneCell']) #[.int .i64 0, .int .i64 0, .int .i64 0, .int .i64 0, .slice none 0 0] 68 (blk g8 #[.int .i64 s, .int .i64 wh, .int .i64 ot, .int .i64 pc, .slice A1 clk.length c1] 68 + (X + MS.all w)) ((show Has w8 (blk g8 #[.int .i64 s, .int .i64 wh, .int .i64 ot, .int .i64 pc, .slice A1 clk.length c1] 68 + _) from k8).eq (by ac_rfl)) rfl ?_
        intro w9 k9 E9
        have H9 := hid (show Has w9 (blk g9 #[.int .i64 s, .int .i64 wh, .int .i64 ot, .int .i64 pc, .slice A2 clk.length c2'] 68 + (blk g8 #[.int .i64 s, .int .i64 wh, .int .i64 ot, .int .i64 pc, .slice A1 clk.length c1] 68 + (X + MS.all w))) from k9)
        refine ⟨fun _ => Hkeep.out w9 (blk g9 #[.int .i64 s, .int .i64 wh, .int .i64 ot, .int .i64 pc, .slice A2 clk.length c2'] 68 + blk g8 #[.int .i64 s, .int .i64 wh, .int .i64 ot, .int .i64 pc, .slice A1 clk.length c1] 68) (H9.out.eq (by ac_rfl)), ?_⟩
        simp only [Act.put, List.setIfInBounds_toArray, List.set_cons_zero, List.set_cons_succ]
        refine txt_done ?_
        have H9' := hid (H9.out.eq (b := blk g8 #[.int .i64 s, .int .i64 wh, .int .i64 ot, .int .i64 pc, .slice A1 clk.length c1] 68 + (blk g9 #[.int .i64 s, .int .i64 wh, .int .i64 ot, .int .i64 pc, .slice A2 clk.length c2'] 68 + (X + MS.all w))) (by ac_rfl))
        have E10 := hid ((E7.out.trans E8).trans E9)
        have y0 : w9.cell? ⟨g8, 0, none⟩ = some (.int .i64 s) := H9'.out.at_ rfl
        have y1 : w9.cell? ⟨g8, 1, none⟩ = some (.int .i64 wh) := H9'.out.at_ rfl
        have y2 : w9.cell? ⟨g8, 2, none⟩ = some (.int .i64 ot) := H9'.out.at_ rfl
        have y3 : w9.cell? ⟨g8, 3, none⟩ = some (.int .i64 pc) := H9'.out.at_ rfl
        have y4 : w9.cell? ⟨g8, 4, none⟩ = some (.slice A1 clk.length c1) := H9'.out.at_ rfl
        have z0 : w9.cell? ⟨g9, 0, none⟩ = some (.int .i64 s) := H9.out.at_ rfl
        have z1 : w9.cell? ⟨g9, 1, none⟩ = some (.int .i64 wh) := H9.out.at_ rfl
        have z2 : w9.cell? ⟨g9, 2, none⟩ = some (.int .i64 ot) := H9.out.at_ rfl
        have z3 : w9.cell? ⟨g9, 3, none⟩ = some (.int .i64 pc) := H9.out.at_ rfl
        have z4 : w9.cell? ⟨g9, 4, none⟩ = some (.slice A2 clk.length c2') := H9.out.at_ rfl
        have HF9 := hid (show Has w9 F from HH.out.of_all (H9.out.eq (b := (blk g9 #[.int .i64 s, .int .i64 wh, .int .i64 ot, .int .i64 pc, .slice A2 clk.length c2'] 68 + (blk g8 #[.int .i64 s, .int .i64 wh, .int .i64 ot, .int .i64 pc, .slice A1 clk.length c1] 68 + X)) + MS.all w) (by ac_rfl)))
        clear hS hS7 k8 k9 E8 E9 H7 E7
        go_wp2_with (go_at_call 30; refine (numbers_any Hk.out.1 Hk.out.2.1 HF9.out (by have := Hk.out.2.2; omega) (by have := Hk.out.2.2; omega)).mono ?_; rintro e w10 ⟨rfl, j1, j2⟩; rw [numEq_self]; have J1 := hid (j1 _ H9.out); have J2 := hid j2; clear j1 j2)
        go_roundw
        case rel => exact ⟨t + 1, Hlt.out, by go_num, ⟨_, J1.out.eq (by rw [← MS.add_assoc, ← MS.add_assoc])⟩, E10.out.trans J2.out⟩
        case measure => have := Hlt.out; simp [intOf]; omega
    · obtain rfl : t = l.length := by omega
      have HX := hid hX
      have HE := hid hE
      clear hX hE
      go_wp2
      go_ret
      exact ⟨rfl, fun M hM => hM.of_all HX.out, HE.out⟩

end Go.Proofs.Ytnkgfgkgepadhaa

namespace Go.Proofs.Ytnkgfgkgepadhaa
open Go.RowKit
set_option linter.unusedVariables false
set_option linter.unusedSimpArgs false
set_option maxHeartbeats 4000000
set_option maxRecDepth 100000

theorem MS.at.c0 {F : MS} {b i : Nat} {u : Value} {w : World} (h : F.at b i u) (hH : Has w F) : w.cell? ⟨b, i, none⟩ = some u := MS.at.cell (X := 0) h (by rw [MS.zero_add]; exact hH)
theorem shots_same {F : MS} {p : List Int} {u : List (List (List Int))} {A A' B B' : Option Addr} {n n' m m' c c' d d' : Nat} {w : World} (h1 : RdS F RT.int p (.slice A n c)) (h2 : RdS F (RT.sl (RT.sl RT.int)) u (.slice A' n' c')) (k1 : RdS F RT.int p (.slice B m d)) (k2 : RdS F (RT.sl (RT.sl RT.int)) u (.slice B' m' d')) (hH : Has w F)
    (b1 : p.length ≤ 1000) (b2 : u.length ≤ 1000) (b3 : ∀ r ∈ u, r.length ≤ 1000) (b4 : ∀ r ∈ u, ∀ q ∈ r, q.length ≤ 1000) :
    Calls Try.prog 76 #[.agg #[.slice A n c, .slice A' n' c'], .agg #[.slice B m d, .slice B' m' d']] w fun e w' => e = .returned (.bool true) ∧ (∀ M, Has w M → Has w' M) ∧ Ext w w' := by
  obtain ⟨rfl, _⟩ := h1.cells
  obtain ⟨rfl, _⟩ := h2.cells
  obtain ⟨rfl, _⟩ := k1.cells
  obtain ⟨rfl, _⟩ := k2.cells
  have H1 := hid (And.intro h1 (And.intro h2 (And.intro k1 k2)))
  have HH := hid hH
  have Hb := hid (And.intro b3 b4)
  have q1 : (p.length : Int) ≤ 1000 := by omega
  have q2 : (u.length : Int) ≤ 1000 := by omega
  have hne : ((u.length : Int) != (u.length : Int)) = false := by simp
  have HA : Has ((w.alloc (.cells #[.slice A p.length c, .slice A' u.length c'] 38)).alloc (.cells #[.slice B p.length d, .slice B' u.length d'] 38)) (blk (w.heap.size + 1) #[.slice B p.length d, .slice B' u.length d'] 38 + (blk w.heap.size #[.slice A p.length c, .slice A' u.length c'] 38 + MS.all w)) := by
    have := ((Has.all w).alloc (.cells #[.slice A p.length c, .slice A' u.length c'] 38)).alloc (.cells #[.slice B p.length d, .slice B' u.length d'] 38)
    rw [show (w.alloc (.cells #[.slice A p.length c, .slice A' u.length c'] 38)).heap.size = w.heap.size + 1 by simp] at this
    exact this
  have EA := hid ((Ext.alloc w (.cells #[.slice A p.length c, .slice A' u.length c'] 38)).trans (Ext.alloc _ (.cells #[.slice B p.length d, .slice B' u.length d'] 38)))
  have HA' := hid HA
  have HF2 := HH.out.of_all (HA.eq (MS.add_assoc _ _ _).symm)
  have Hnum := hid (numbers_any h1 k1 HF2 (by omega) (by omega))
  clear h1 h2 k1 k2 hH b3 b4 HA b1 b2 HF2
  go_enter Try.func76, Try.ntmps76
  go_wp2_with fail
  refine Hnum.out.mono ?_
  rintro e w1 ⟨rfl, j1, j2⟩
  rw [numEq_self]
  have J0 := j1 _ HA'.out
  have g1 : w1.cell? ⟨w.heap.size, 1, none⟩ = some (.slice A' u.length c') := (J0.eq (b := blk w.heap.size #[.slice A p.length c, .slice A' u.length c'] 38 + (blk (w.heap.size + 1) #[.slice B p.length d, .slice B' u.length d'] 38 + MS.all w)) (by ac_rfl)).at_ rfl
  have g2 : w1.cell? ⟨w.heap.size + 1, 1, none⟩ = some (.slice B' u.length d') := J0.at_ rfl
  have J1 := hid J0
  have J2 := hid (EA.out.trans j2)
  clear j1 j2 J0
  go_wp2
  generalize hg : w.heap.size = g at *
  have Hg := hid hg
  clear hg EA HA'
  have J1' := hid (show Has w1 (0 + (blk (g + 1) #[.slice B p.length d, .slice B' u.length d'] 38 + (blk g #[.slice A p.length c, .slice A' u.length c'] 38 + MS.all w))) by rw [MS.zero_add]; exact J1.out)
  clear g1 g2 J1
  have fac : ∀ (W : World), Has W (blk (g + 1) #[.slice B p.length d, .slice B' u.length d'] 38 + (blk g #[.slice A p.length c, .slice A' u.length c'] 38 + MS.all w)) → W.cell? ⟨g, 1, none⟩ = some (.slice A' u.length c') ∧ W.cell? ⟨g + 1, 1, none⟩ = some (.slice B' u.length d') ∧ Has W F := fun W h =>
    ⟨(h.eq (b := blk g #[.slice A p.length c, .slice A' u.length c'] 38 + (blk (g + 1) #[.slice B p.length d, .slice B' u.length d'] 38 + MS.all w)) (by ac_rfl)).at_ rfl, h.at_ rfl, HH.out.of_all (h.eq (MS.add_assoc _ _ _).symm)⟩
  have Hfac := hid fac
  clear fac
  generalize hRR : (blk (g + 1) #[.slice B p.length d, .slice B' u.length d'] 38 + (blk g #[.slice A p.length c, .slice A' u.length c'] 38 + MS.all w)) = RR at *
  have HRR := hid hRR
  clear hRR
  rw [MS.zero_add] at J1'
  go_loopw [5] (fun v wr => ∃ t : Nat, t ≤ u.length ∧ v = .int .i64 t ∧ Has wr RR ∧ Ext w wr) (fun v _ => u.length - (intOf v).toNat)
  case atStart => exact ⟨0, Nat.zero_le _, rfl, J1'.out, J2.out⟩
  case round =>
    obtain ⟨t, ht, rfl, hX, hE⟩ := hrel
    obtain ⟨f1, f2, hF⟩ := Hfac.out wr hX
    have HX := hid hX
    have HE := hid hE
    clear hX hE
    by_cases hlt : t < u.length
    · obtain ⟨r, hr⟩ : ∃ r, u[t]? = some r := ⟨_, List.getElem?_eq_getElem hlt⟩
      have hrm := List.mem_of_getElem? hr
      obtain ⟨b1, o1, A1, c1, hA1, e1, y1, _⟩ := H1.out.2.1.getSl hr
      obtain ⟨b2, o2, A2, c2, hA2, e2, y2, _⟩ := H1.out.2.2.2.getSl hr
      subst hA1
      subst hA2
      have hltI : (t : Int) < u.length := by omega
      have hrl : (r.length : Int) ≤ 1000 := by have := Hb.out.1 r hrm; omega
      have hne2 : ((r.length : Int) != (r.length : Int)) = false := by simp
      have keep : ∀ (W : World), Has W RR → W.cell? ⟨g, 1, none⟩ = some (.slice (some ⟨b1, o1, none⟩) u.length c') ∧ W.cell? ⟨g + 1, 1, none⟩ = some (.slice (some ⟨b2, o2, none⟩) u.length d') ∧ W.cell? ⟨b1, o1 + t, none⟩ = some (.slice A1 r.length c1) ∧ W.cell? ⟨b2, o2 + t, none⟩ = some (.slice A2 r.length c2) := fun W h =>
        have hf := Hfac.out W h
        ⟨hf.1, hf.2.1, e1.c0 hf.2.2, e2.c0 hf.2.2⟩
      have hS := keep wr.drew HX.out.drew
      have Hkeep := hid keep
      have Hy := hid (And.intro y1 y2)
      have Hlt := hid hlt
      have Hq := hid (Hb.out.2 r hrm)
      clear keep y1 y2 hlt hrm hr e1 e2 hF
      go_wp2
      refine wp_region_txt (fun W => W.cell? ⟨g, 1, none⟩ = some (.slice (some ⟨b1, o1, none⟩) u.length c') ∧ W.cell? ⟨g + 1, 1, none⟩ = some (.slice (some ⟨b2, o2, none⟩) u.length d') ∧ W.cell? ⟨b1, o1 + t, none⟩ = some (.slice A1 r.length c1) ∧ W.cell? ⟨b2, o2 + t, none⟩ = some (.slice A2 r.length c2)) none
        [(0, true), (1, true), (2, true), (3, true), (4, true), (5, true), (6, true), (7, true), (8, true), (9, true), (10, true), (11, true), (12, true)] (by kernel_rfl) rfl (by kernel_rfl) (by kernel_rfl) (by repeat (first | with_reducible refine PanicOk.thn ?_ | with_reducible refine PanicOk.blk ?_ | exact PanicOk.body _ _ _)) ?_
      repeat
        (refine txt_quiet ?_ hS rfl rfl (fun W hW => ?_) ?_
         rotate_left 1
         · obtain ⟨hW1, hW2, hW3, hW4⟩ := hW
           go_simp
           exact rfl
         simp only [Act.put, List.setIfInBounds_toArray, List.set_cons_zero, List.set_cons_succ])
      refine txt_done ?_
      clear f1 f2 hS
      go_wp2
      go_loopw [6] (fun v wq => ∃ s : Nat, s ≤ r.length ∧ v = .int .i64 s ∧ Has wq RR ∧ Ext w wq) (fun v _ => r.length - (intOf v).toNat)
      case atStart => exact ⟨0, Nat.zero_le _, rfl, HX.out.drew, HE.out.trans (Ext.drew _)⟩
      case round =>
        obtain ⟨s, hs, rfl, hX2, hE2⟩ := hrel
        obtain ⟨f1, f2, f3, f4⟩ := Hkeep.out wr hX2
        have HX2 := hid hX2
        have HE2 := hid hE2
        clear hX2 hE2
        by_cases hls : s < r.length
        · obtain ⟨q, hq⟩ : ∃ q, r[s]? = some q := ⟨_, List.getElem?_eq_getElem hls⟩
          obtain ⟨b3, o3, A3, c3, hA3, e3, y3, _⟩ := Hy.out.1.getSl hq
          obtain ⟨b4, o4, A4, c4, hA4, e4, y4, _⟩ := Hy.out.2.getSl hq
          subst hA3
          subst hA4
          have hlsI : (s : Int) < r.length := by omega
          have hql : q.length ≤ 1000 := Hq.out q (List.mem_of_getElem? hq)
          have keep2 : ∀ (W : World), Has W RR → W.cell? ⟨g, 1, none⟩ = some (.slice (some ⟨b1, o1, none⟩) u.length c') ∧ W.cell? ⟨g + 1, 1, none⟩ = some (.slice (some ⟨b2, o2, none⟩) u.length d') ∧ W.cell? ⟨b1, o1 + t, none⟩ = some (.slice (some ⟨b3, o3, none⟩) r.length c1) ∧ W.cell? ⟨b2, o2 + t, none⟩ = some (.slice (some ⟨b4, o4, none⟩) r.length c2) ∧ W.cell? ⟨b3, o3 + s, none⟩ = some (.slice A3 q.length c3) ∧ W.cell? ⟨b4, o4 + s, none⟩ = some (.slice A4 q.length c4) := fun W h =>
            have hf := Hfac.out W h
            have hk := Hkeep.out W h
            ⟨hk.1, hk.2.1, hk.2.2.1, hk.2.2.2, e3.c0 hf.2.2, e4.c0 hf.2.2⟩
          have hS := keep2 wr.drew HX2.out.drew
          have hltI := Hlt.out
          have hltI2 : (t : Int) < u.length := by omega
          have Hkeep2 := hid keep2
          have Hc := hid (fun (W : World) (h : Has W RR) => numbers_any y3 y4 (Hfac.out W h).2.2 (by omega) (by omega))
          have Hls := hid hls
          clear keep2 y3 y4 hls hq e3 e4 hltI
          go_wp2
          refine wp_region_txt (fun W => W.cell? ⟨g, 1, none⟩ = some (.slice (some ⟨b1, o1, none⟩) u.length c') ∧ W.cell? ⟨g + 1, 1, none⟩ = some (.slice (some ⟨b2, o2, none⟩) u.length d') ∧ W.cell? ⟨b1, o1 + t, none⟩ = some (.slice (some ⟨b3, o3, none⟩) r.length c1) ∧ W.cell? ⟨b2, o2 + t, none⟩ = some (.slice (some ⟨b4, o4, none⟩) r.length c2) ∧ W.cell? ⟨b3, o3 + s, none⟩ = some (.slice A3 q.length c3) ∧ W.cell? ⟨b4, o4 + s, none⟩ = some (.slice A4 q.length c4)) none
            [(0, true), (1, true), (2, true), (3, true), (4, true), (5, true), (6, true), (7, true), (8, true), (9, true), (10, true), (11, true), (12, true), (13, true), (14, true), (15, true), (16, false), (17, true)] (by kernel_rfl) rfl (by kernel_rfl) (by kernel_rfl) (by repeat (first | with_reducible refine PanicOk.thn ?_ | with_reducible refine PanicOk.blk ?_ | exact PanicOk.body _ _ _)) ?_
          repeat
            (refine txt_quiet ?_ hS rfl rfl (fun W hW => ?_) ?_
             rotate_left 1
             · obtain ⟨hW1, hW2, hW3, hW4, hW5, hW6⟩ := hW
               go_simp
               exact rfl
             simp only [Act.put, List.setIfInBounds_toArray, List.set_cons_zero, List.set_cons_succ])
          refine txt_op rfl rfl ?_
          refine op_call 30 _ _ (by go_simp) _ (Hc.out _ HX2.out.drew) ?_
          rintro e w3 ⟨rfl, j1, j2⟩
          rw [numEq_self]
          refine ⟨_, rfl, ?_⟩
          have J3 := hid (j1 _ HX2.out.drew)
          have J4 := hid ((HE2.out.trans (Ext.drew _)).trans j2)
          have hS3 := Hkeep2.out w3 J3.out
          refine ⟨fun _ => hS3, ?_⟩
          simp only [Act.put, List.setIfInBounds_toArray, List.set_cons_zero, List.set_cons_succ]
          clear hS j1 j2
          repeat
            (refine txt_quiet ?_ hS3 rfl rfl (fun W hW => ?_) ?_
             rotate_left 1
             · obtain ⟨hW1, hW2, hW3, hW4, hW5, hW6⟩ := hW
               go_simp
               exact rfl
             simp only [Act.put, List.setIfInBounds_toArray, List.set_cons_zero, List.set_cons_succ])
          refine txt_done ?_
          clear hS3 f1 f2 f3 f4
          go_wp2
          go_roundw
          case rel => exact ⟨s + 1, Hls.out, by go_num, J3.out, J4.out⟩
          case measure => have := Hls.out; simp [intOf]; omega
        · obtain rfl : s = r.length := by omega
          have hltI := Hlt.out
          have hltI2 : (t : Int) < u.length := by omega
          go_wp2
          go_roundw
          case rel => exact ⟨t + 1, Hlt.out, by go_num, HX2.out, HE2.out⟩
          case measure => have := Hlt.out; simp [intOf]; omega
    · obtain rfl : t = u.length := by omega
      go_wp2
      go_ret
      exact ⟨rfl, fun M hM => hM.of_all (HX.out.eq (by rw [← HRR.out, ← MS.add_assoc])), HE.out⟩
end Go.Proofs.Ytnkgfgkgepadhaa

/-
  The walk of Refute at a region whose cells have no neighbours: joined.
-/
import Derived.Test.YtcdhimnmbpllgaaDoorDR3
namespace Go.Proofs.YtcdhimnmbpllgaaDoor
open Go.RowKit Go.MapKept Go.ChangeMaps
set_option linter.unusedVariables false
set_option linter.unusedSimpArgs false
set_option maxHeartbeats 4000000
set_option maxRecDepth 100000

theorem refute_none {F : MS} {p : List ByteArray} {A : Option Addr} {c : Nat} {w : World} (hr : RdS F RT.str p (.slice A p.length c)) (hl : p.length ≤ 1000) (hs : ∀ s ∈ p, s.size ≤ 1000000) (hf : FourOk F) (hH : Has w F) (hq : isReg p = true) (h0 : 0 < (cellsL p).length) (hno : ∀ q ∈ cellsL p, nbrsL p q = []) :
    Calls Tryd.prog 19 #[.slice A p.length c] w fun e w' => ∃ A' c', e = .returned (.tuple #[.slice A' 1 c', .int .i64 0]) ∧ Kp w w' := by
  have Hof := hid (of_any hr hl hs hH)
  have hv : regV p A c = rgV p A c := by unfold regV; rw [hq]; rfl
  rw [hq, hv] at Hof
  have hp := (isReg.ok hq).1
  have hra := rd_all_str hr hH
  have hfa := hf.all hH
  have Hcl := hid (fun (W : World) (hW : Has W (MS.all w)) => show Calls Tryd.prog 37 #[.agg #[.int .i64 (wd p), .int .i64 p.length, .slice A p.length c]] W fun e w' => ∃ v m, e = .returned v ∧ Cls (cellsL p) v m ∧ (∀ M, Has W M → Has w' (m + M)) ∧ Ext W w' from cells_any hra hp hW)
  have Hmt := hid (fun (W : World) (hW : Has W (MS.all w)) => show Calls Tryd.prog 52 #[.agg #[.int .i64 (wd p), .int .i64 p.length, .slice A p.length c]] W fun e w' => ∃ g, e = .returned (.map (some g)) ∧ (∀ M, Has W M → Has w' (pts g (.map #[] 0) + M)) ∧ Ext W w' from matched_none hra hp hfa hW hno)
  have hin := hid (fun q (h : q ∈ cellsL p) => show (0 ≤ q.1 ∧ q.1 ≤ 8) ∧ 0 ≤ q.2 ∧ q.2 ≤ 8 from by
    obtain ⟨h1, h2, h3, h4⟩ := hsI_in (mem_cells.1 h)
    have := hp.w8
    have := hp.h8
    omega)
  have Hnb := hid (fun (W : World) (hW : Has W (MS.all w)) (qx qy : Int) (hqm : (qx, qy) ∈ cellsL p) (h1 : -1000 ≤ qx ∧ qx ≤ 1000) (h2 : -1000 ≤ qy ∧ qy ≤ 1000) => show Calls Tryd.prog 39 #[.agg #[.int .i64 (wd p), .int .i64 p.length, .slice A p.length c], .agg #[.int .i64 qx, .int .i64 qy]] W fun e w' => ∃ v m, e = .returned v ∧ Cls [] v m ∧ (∀ M, Has W M → Has w' (m + M)) ∧ Ext W w' from by
    have h := nbrs_any hra hp hfa hW (qx, qy) h1 h2
    rw [hno _ hqm] at h
    exact h)
  obtain ⟨L, hL⟩ : ∃ L, L = cellsL p := ⟨_, rfl⟩
  have hL64 : L.length ≤ 64 := by
    have h1 := cellsK_len p p.length
    have h2 : p.length * wd p ≤ 8 * 8 := Nat.mul_le_mul hp.h8 hp.w8
    rw [hL]
    exact Nat.le_trans h1 h2
  rw [← hL] at Hcl hin Hnb h0
  obtain ⟨⟨qx, qy⟩, hq0⟩ : ∃ q, L[0]? = some q := ⟨_, List.getElem?_eq_getElem h0⟩
  obtain ⟨hb1, hb2⟩ := hin.out _ (List.mem_of_getElem? hq0)
  simp only at hb1 hb2
  have Hnq := hid (fun (W : World) (hW : Has W (MS.all w)) => Hnb.out W hW qx qy (List.mem_of_getElem? hq0) (by omega) (by omega))
  have Hq0 := hid hq0
  obtain ⟨nL, hnL⟩ : ∃ nL, nL = L.length := ⟨_, rfl⟩
  rw [← hnL] at hL64 h0
  have HnL := hid hnL
  have hnLI : (nL : Int) ≤ 64 := by omega
  have h0I : (0 : Int) < nL := by omega
  unfold rgV at Hof
  generalize (wd p : Int) = WW at *
  generalize (p.length : Int) = HHI at *
  clear hq hv hr hl hs hf hH hp hra hfa hL hnL hno hq0 Hnb
  go_enter Tryd.func19, Tryd.ntmps19
  go_wp2_with (first
    | (go_at_call 32; refine Hof.out.mono ?_; rintro e1 w1 ⟨rfl, k1⟩; have K1 := hid (k1.1 _ (Has.all w)); have E1 := hid k1.2; have KA := hid ((K1.out).alloc (.cells #[.int .i64 0, .int .i64 0, .slice none 0 0] 51)); have EA := hid (E1.out.trans (Ext.alloc _ (.cells #[.int .i64 0, .int .i64 0, .slice none 0 0] 51))); clear k1)
    | (refine wpList_store_whole rfl (.tmp 4) (.tmp 17) 51 rfl 3 size51 w1.heap.size (.agg #[.int .i64 WW, .int .i64 HHI, .slice A p.length c]) rfl rfl rfl (by simp [Value.cells, Value.oneCell']) #[.int .i64 0, .int .i64 0, .slice none 0 0] 51 _ KA.out rfl ?_; intro w6 j1 j2; have HW6 := hid (show Has w6 (blk w1.heap.size #[.int .i64 WW, .int .i64 HHI, .slice A p.length c] 51 + MS.all w) from j1); have HE6 := hid (EA.out.trans j2); have r0 := HW6.out.at_ (i := 0) rfl; have r1 := HW6.out.at_ (i := 1) rfl; have r2 := HW6.out.at_ (i := 2) rfl; clear j1 j2)
    | (go_at_call 52; refine (Hmt.out w6 HW6.out.right).mono ?_; rintro e7 w7 ⟨g, rfl, k7, l7⟩; have HW7 := hid (k7 _ HW6.out); have HE7 := hid (HE6.out.trans l7); obtain ⟨b6, hb6⟩ : ∃ b6, b6 = w7.heap.size := ⟨_, rfl⟩; have HA7 := hid (show Has (w7.alloc (.cells #[.map none] 88)) (blk b6 #[.map none] 88 + (pts g (.map #[] 0) + (blk w1.heap.size #[.int .i64 WW, .int .i64 HHI, .slice A p.length c] 51 + MS.all w))) by rw [hb6]; exact HW7.out.alloc _); have Hb6 := hid hb6; clear k7 l7 hb6 r0 r1 r2)
    | (rw [← Hb6.out]; refine wpList_store_blk rfl (.tmp 6) (.tmp 22) 88 rfl size88 b6 0 (.map (some g)) rfl rfl rfl #[.map none] 88 _ HA7.out (by decide) ?_; intro w8 k1 k2; have H8 := hid (show Has w8 (blk b6 #[.map (some g)] 88 + (pts g (.map #[] 0) + (blk w1.heap.size #[.int .i64 WW, .int .i64 HHI, .slice A p.length c] 51 + MS.all w))) from k1); have E8 := hid ((HE7.out.trans (Ext.alloc _ _)).trans k2); have r0 := H8.out.right.right.at_ (i := 0) rfl; have r1 := H8.out.right.right.at_ (i := 1) rfl; have r2 := H8.out.right.right.at_ (i := 2) rfl; clear k1 k2)
    | (go_at_call 37; refine (Hcl.out w8 H8.out.right.right.right).mono ?_; rintro e9 w9 ⟨vC, mC, rfl, hC, k9, l9⟩; obtain ⟨AC, cC, rfl, _⟩ := SlR.form hC; rw [← HnL.out] at hC ⊢; have HC9 := hid hC; have H9 := hid (k9 _ H8.out); have E9 := hid (E8.out.trans l9); have hfir := hid (show Calls Tryd.prog 53 #[.slice AC nL cC, .func (.func 54) #[] #[.pointer (some ⟨b6, 0, none⟩)]] w9 fun e w' => e = .returned (.int .i64 0) ∧ Kp w9 w' from by (have hrd := hC.rd; have h9 := k9 _ H8.out; rw [HnL.out] at hrd ⊢; exact first_any (F := blk b6 #[.map (some g)] 88 + (mC + (blk w1.heap.size #[.int .i64 WW, .int .i64 HHI, .slice A p.length c] 51 + MS.all w))) ((hrd.less _).more _) (by rw [← HnL.out]; exact h0) (by rw [← HnL.out]; omega) (MS.at.less (blk_at rfl) _) (h9.eq (by ac_rfl)) (fun q hq => by (obtain ⟨h1, h2⟩ := hin.out q hq; exact ⟨by omega, by omega⟩)))); clear hC k9 l9 r0 r1 r2)
    | (go_at_call 53; refine hfir.out.mono ?_; rintro e10 w10 ⟨rfl, k10⟩; have H10 := hid (k10.1 _ H9.out); have E10 := hid (E9.out.trans k10.2); obtain ⟨bC, oC, hA, z0, z1⟩ := HC9.out.rd.getCl Hq0.out; subst hA; have y0 := z0.c0 H10.out.left; have y1 := z1.c0 H10.out.left; simp only [Nat.zero_mul, Nat.add_zero] at y0 y1; have hkC : nL ≤ cC := (by obtain ⟨_, _, e, _, h, _⟩ := SlR.form HC9.out; injection e with e1 e2 e3; have := HnL.out; omega); clear k10 z0 z1))
  obtain ⟨b9, hb9⟩ : ∃ b9, b9 = w10.heap.size := ⟨_, rfl⟩
  have H11 := hid (show Has (w10.alloc (.cells #[.int .i64 qx, .int .i64 qy] 66)) (blk b9 #[.int .i64 qx, .int .i64 qy] 66 + (blk w1.heap.size #[.int .i64 WW, .int .i64 HHI, .slice A p.length c] 51 + MS.all w)) by
    rw [hb9]
    exact (H10.out.alloc (.cells #[.int .i64 qx, .int .i64 qy] 66)).eq (b := (blk w10.heap.size #[.int .i64 qx, .int .i64 qy] 66 + (blk w1.heap.size #[.int .i64 WW, .int .i64 HHI, .slice A p.length c] 51 + MS.all w)) + (mC + (blk b6 #[.map (some g)] 88 + pts g (.map #[] 0)))) (by unfold blk; ac_rfl) |>.left)
  have E11 := hid (E10.out.trans (Ext.alloc w10 (.cells #[.int .i64 qx, .int .i64 qy] 66)))
  rw [← hb9]
  clear hb9 y0 y1
  have KeepS := hid (show ∀ W, Has W (blk b9 #[.int .i64 qx, .int .i64 qy] 66 + (blk w1.heap.size #[.int .i64 WW, .int .i64 HHI, .slice A p.length c] 51 + MS.all w)) → (W.cell? ⟨w1.heap.size, 0, none⟩ = some (.int .i64 WW) ∧ W.cell? ⟨w1.heap.size, 1, none⟩ = some (.int .i64 HHI) ∧ W.cell? ⟨w1.heap.size, 2, none⟩ = some (.slice A p.length c) ∧ W.cell? ⟨b9, 0, none⟩ = some (.int .i64 qx) ∧ W.cell? ⟨b9, 1, none⟩ = some (.int .i64 qy)) from fun W h => ⟨h.right.at_ rfl, h.right.at_ rfl, h.right.at_ rfl, h.at_ rfl, h.at_ rfl⟩)
  go_loopw [9, 10] (fun v9 v10 wr => ∃ i : Nat, i ≤ 1 ∧ v9 = .slice (some ⟨b9, 0, none⟩) 1 1 ∧ v10 = .int .i64 i ∧ Has wr (blk b9 #[.int .i64 qx, .int .i64 qy] 66 + (blk w1.heap.size #[.int .i64 WW, .int .i64 HHI, .slice A p.length c] 51 + MS.all w)) ∧ Ext w wr) (fun _ v _ => 1 - (intOf v).toNat)
  case atStart => exact ⟨0, Nat.zero_le _, rfl, rfl, H11.out, E11.out⟩
  case round =>
    obtain ⟨i, hi, rfl, rfl, hW, hE⟩ := hrel
    have HW := hid hW
    have HE := hid hE
    clear hW hE
    by_cases hi0 : i = 0
    · subst hi0
      clear hi
      go_wp2
      have hS := KeepS.out wr.drew HW.out.drew
      refine wp_region_txt (fun W => W.cell? ⟨w1.heap.size, 0, none⟩ = some (.int .i64 WW) ∧ W.cell? ⟨w1.heap.size, 1, none⟩ = some (.int .i64 HHI) ∧ W.cell? ⟨w1.heap.size, 2, none⟩ = some (.slice A p.length c) ∧ W.cell? ⟨b9, 0, none⟩ = some (.int .i64 qx) ∧ W.cell? ⟨b9, 1, none⟩ = some (.int .i64 qy)) none
        [(0, true), (1, true), (2, true), (3, true), (4, true), (7, true), (5, false), (6, true)] (by kernel_rfl) rfl (by kernel_rfl) (by kernel_rfl) (by repeat (first | with_reducible refine PanicOk.thn ?_ | with_reducible refine PanicOk.blk ?_ | exact PanicOk.body _ _ _)) ?_
      repeat
        (refine txt_quiet ?_ hS rfl rfl (fun W hW => ?_) ?_
         rotate_left 1
         · obtain ⟨hW1, hW2, hW3, hW4, hW5⟩ := hW
           go_simp
           exact rfl
         simp only [Act.put, List.setIfInBounds_toArray, List.set_cons_zero, List.set_cons_succ])
      refine txt_op rfl rfl ?_
      refine op_call 39 #[.agg #[.int .i64 WW, .int .i64 HHI, .slice A p.length c], .agg #[.int .i64 qx, .int .i64 qy]] wr.drew (by go_simp) _ (Hnq.out wr.drew HW.out.right.right.drew) ?_
      rintro e12 w12 ⟨vN, mN, rfl, hN, k12, l12⟩
      obtain ⟨AN, cN, rfl, _⟩ := SlR.form hN
      have H12 := hid (k12 _ HW.out.drew).right
      have E12 := hid ((HE.out.trans (Ext.drew _)).trans l12)
      clear hN k12 l12 hS
      have hS := KeepS.out w12 H12.out
      refine ⟨_, rfl, fun _ => hS, ?_⟩
      simp only [Act.put, List.setIfInBounds_toArray, List.set_cons_zero, List.set_cons_succ]
      repeat
        (refine txt_quiet ?_ hS rfl rfl (fun W hW => ?_) ?_
         rotate_left 1
         · obtain ⟨hW1, hW2, hW3, hW4, hW5⟩ := hW
           go_simp
           exact rfl
         simp only [Act.put, List.setIfInBounds_toArray, List.set_cons_zero, List.set_cons_succ])
      refine txt_done ?_
      clear hS
      go_wp2
      go_loopw [9, 48] (fun v9 v48 wq => v9 = .slice (some ⟨b9, 0, none⟩) 1 1 ∧ v48 = .int .i64 0 ∧ Has wq (blk b9 #[.int .i64 qx, .int .i64 qy] 66 + (blk w1.heap.size #[.int .i64 WW, .int .i64 HHI, .slice A p.length c] 51 + MS.all w)) ∧ Ext w wq) (fun _ _ _ => 0)
      case atStart => exact ⟨rfl, rfl, H12.out, E12.out⟩
      case round =>
        obtain ⟨rfl, rfl, hW2, hE2⟩ := hrel
        have HW2 := hid hW2
        have HE2 := hid hE2
        clear hW2 hE2
        go_wp2
        go_roundw
        case rel => exact ⟨1, Nat.le_refl _, rfl, by go_num, HW2.out, HE2.out⟩
        case measure => simp [intOf]
    · have hi1 : i = 1 := by omega
      subst hi1
      clear hi hi0
      go_wp2_with (go_at_call 56; refine (sort_one _ wr).mono ?_; rintro e9 w9' ⟨rfl, hw9⟩; rw [hw9]; clear hw9)
      go_ret2
      exact ⟨_, _, rfl, fun M hM => hM.of_all HW.out.right, HE.out⟩
end Go.Proofs.YtcdhimnmbpllgaaDoor

/-
  The walk of matched at a region whose cells have no neighbours.
-/
import Derived.Test.YtcdhimnmbpllgaaDoorDR1
namespace Go.Proofs.YtcdhimnmbpllgaaDoor
open Go.RowKit Go.MapKept Go.ChangeMaps
set_option linter.unusedVariables false
set_option linter.unusedSimpArgs false
set_option maxHeartbeats 4000000
set_option maxRecDepth 100000

theorem matched_none {F : MS} {p : List ByteArray} {A : Option Addr} {c : Nat} {w : World} (hr : RdS F RT.str p (.slice A p.length c)) (hp : RegOk p) (hf : FourOk F) (hH : Has w F) (hno : ∀ q ∈ cellsL p, nbrsL p q = []) :
    Calls Tryd.prog 52 #[rgV p A c] w fun e w' => ∃ g, e = .returned (.map (some g)) ∧ (∀ M, Has w M → Has w' (pts g (.map #[] 0) + M)) ∧ Ext w w' := by
  have hra := rd_all_str hr hH
  have hfa := hf.all hH
  have Hcl := hid (fun (W : World) (hW : Has W (MS.all w)) => show Calls Tryd.prog 37 #[.agg #[.int .i64 (wd p), .int .i64 p.length, .slice A p.length c]] W fun e w' => ∃ v m, e = .returned v ∧ Cls (cellsL p) v m ∧ (∀ M, Has W M → Has w' (m + M)) ∧ Ext W w' from cells_any hra hp hW)
  have Hblk := hid (fun (qx qy : Int) (h1 : -1000 ≤ qx ∧ qx ≤ 1000) (h2 : -1000 ≤ qy ∧ qy ≤ 1000) (W : World) => show Calls Tryd.prog 38 #[.agg #[.int .i64 qx, .int .i64 qy]] W fun e w' => e = .returned (.bool (blackB (qx, qy))) ∧ Kp W w' from black_any (qx, qy) h1 h2 W)
  obtain ⟨b1, hb1⟩ : ∃ b1, b1 = w.heap.size := ⟨_, rfl⟩
  obtain ⟨B0, hB0⟩ : ∃ B0, B0 = blk b1 #[.int .i64 (wd p), .int .i64 p.length, .slice A p.length c] 51 + MS.all w := ⟨_, rfl⟩
  have Hall := hid (show ∀ W X, Has W (X + B0) → Has W (MS.all w) from fun W X h => by rw [hB0] at h; exact h.right.right)
  have Keep := hid (show ∀ W X, Has W (X + B0) → (W.cell? ⟨b1, 0, none⟩ = some (.int .i64 (wd p)) ∧ W.cell? ⟨b1, 1, none⟩ = some (.int .i64 p.length) ∧ W.cell? ⟨b1, 2, none⟩ = some (.slice A p.length c)) from fun W X h => by
    rw [hB0] at h
    exact ⟨h.right.at_ rfl, h.right.at_ rfl, h.right.at_ rfl⟩)
  have Htry := hid (fun (W : World) (X : MS) (hW : Has W (X + B0)) (qx qy : Int) (hq : (qx, qy) ∈ cellsL p) (h1 : -1000 ≤ qx ∧ qx ≤ 1000) (h2 : -1000 ≤ qy ∧ qy ≤ 1000) (v2 v3 v4 : Value) => show Calls Tryd.prog 89 #[.agg #[.int .i64 qx, .int .i64 qy], .pointer (some ⟨b1, 0, none⟩), v2, v3, v4] W fun e w' => e = .returned (.bool false) ∧ Kp W w' from by
    rw [hB0] at hW
    refine try_none (q := (qx, qy)) (F := blk b1 #[.int .i64 (wd p), .int .i64 p.length, .slice A p.length c] 51 + MS.all w) (hra.more _) hp (hfa.more _) ⟨MS.at.less (blk_at rfl) _, MS.at.less (blk_at rfl) _, MS.at.less (blk_at rfl) _⟩ hW.right h1 h2 (hno _ hq))
  have hin := hid (fun q (h : q ∈ cellsL p) => show (0 ≤ q.1 ∧ q.1 ≤ 8) ∧ 0 ≤ q.2 ∧ q.2 ≤ 8 from by
    obtain ⟨h1, h2, h3, h4⟩ := hsI_in (mem_cells.1 h)
    have := hp.w8
    have := hp.h8
    omega)
  obtain ⟨L, hL⟩ : ∃ L, L = cellsL p := ⟨_, rfl⟩
  have hL64 : L.length ≤ 64 := by
    have h1 := cellsK_len p p.length
    have h2 : p.length * wd p ≤ 8 * 8 := Nat.mul_le_mul hp.h8 hp.w8
    rw [hL]
    exact Nat.le_trans h1 h2
  rw [← hL] at Hcl hin Htry
  obtain ⟨nL, hnL⟩ : ∃ nL, nL = L.length := ⟨_, rfl⟩
  rw [← hnL] at hL64
  have HnL := hid hnL
  have hnLI : (nL : Int) ≤ 64 := by omega
  -- the beginning
  obtain ⟨w0, hw0⟩ : ∃ w0, w0 = w.alloc (.cells #[.int .i64 (wd p), .int .i64 p.length, .slice A p.length c] 51) := ⟨_, rfl⟩
  have H0 := hid (show Has w0 B0 by rw [hw0, hB0, hb1]; exact (Has.all w).alloc _)
  have E0 := hid (show Ext w w0 by rw [hw0]; exact Ext.alloc _ _)
  obtain ⟨g, hg⟩ : ∃ g, g = w0.heap.size := ⟨_, rfl⟩
  obtain ⟨b3, hb3⟩ : ∃ b3, b3 = w0.heap.size + 1 := ⟨_, rfl⟩
  have H1 := hid (show Has ((w0.alloc (.map #[] 0)).alloc (.cells #[.map none] 88)) (blk b3 #[.map none] 88 + (pts g (.map #[] 0) + B0)) by
    have h := (H0.out.alloc (.map #[] 0)).alloc (.cells #[.map none] 88)
    rw [show (w0.alloc (.map #[] 0)).heap.size = w0.heap.size + 1 by simp] at h
    rw [hb3, hg]; exact h)
  have E1 := hid ((E0.out.trans (Ext.alloc _ (.map #[] 0))).trans (Ext.alloc _ (.cells #[.map none] 88)))
  have Hb1 := hid hb1
  have Hw0 := hid hw0
  have Hg := hid hg
  have Hb3 := hid hb3
  have Hfin := hid (show ∀ W X M, Has w M → Has W (X + (pts g (.map #[] 0) + B0)) → Has W (pts g (.map #[] 0) + M) from fun W X M hM hW => by
    rw [hB0] at hW
    exact (Has.with_all hM (hW.eq (b := pts g (.map #[] 0) + (X + blk b1 #[.int .i64 (wd p), .int .i64 p.length, .slice A p.length c] 51) + MS.all w) (by ac_rfl))).eq (b := pts g (.map #[] 0) + M + (X + blk b1 #[.int .i64 (wd p), .int .i64 p.length, .slice A p.length c] 51)) (by ac_rfl) |>.left)
  show Calls Tryd.prog 52 #[.agg #[.int .i64 (wd p), .int .i64 p.length, .slice A p.length c]] w _
  generalize (wd p : Int) = WW at *
  generalize (p.length : Int) = HHI at *
  clear hr hp hf hH hno hra hfa hL hnL hL64 hb1 hw0 hg hb3 hB0
  go_enter Tryd.func52, Tryd.ntmps52
  go_wp2_with (first
    | (rw [← Hw0.out]; rw [← Hb1.out]; refine wpList_run rfl _ _ (ex_makeMap rfl) ?_; rw [← Hg.out])
    | (rw [← Hb3.out]; refine wpList_store_blk rfl (.tmp 3) (.tmp 8) 88 rfl size88 b3 0 (.map (some g)) rfl rfl rfl #[.map none] 88 _ H1.out (by decide) ?_; intro w2 k1 k2; have H2 := hid (show Has w2 (blk b3 #[.map (some g)] 88 + (pts g (.map #[] 0) + B0)) from k1); have E2 := hid (E1.out.trans k2); obtain ⟨r0, r1, r2⟩ := Keep.out w2 (blk b3 #[.map (some g)] 88 + pts g (.map #[] 0)) (H2.out.eq (by ac_rfl)); clear k1 k2)
    | (go_at_call 37; refine (Hcl.out w2 (Hall.out w2 (blk b3 #[.map (some g)] 88 + pts g (.map #[] 0)) (H2.out.eq (by ac_rfl)))).mono ?_; rintro e7 w7 ⟨vC, mC, rfl, hC, k7, l7⟩; obtain ⟨AC, cC, rfl, _⟩ := SlR.form hC; rw [← HnL.out] at hC ⊢; have HC7 := hid hC; have HW7 := hid (k7 _ H2.out); have HE7 := hid (E2.out.trans l7); clear hC k7 l7 r0 r1 r2))
  go_loopw [12] (fun v wr => ∃ k : Nat, k ≤ nL ∧ v = .int .i64 k ∧ Has wr (mC + (blk b3 #[.map (some g)] 88 + (pts g (.map #[] 0) + B0))) ∧ Ext w wr) (fun v _ => nL - (intOf v).toNat)
  case atStart => exact ⟨0, Nat.zero_le _, rfl, HW7.out, HE7.out⟩
  case round =>
    obtain ⟨k, hk, rfl, hW, hE⟩ := hrel
    have HW := hid hW
    have HE := hid hE
    clear hW hE
    by_cases hlt : k < nL
    · have hltI : (k : Int) < nL := by omega
      obtain ⟨q, hq⟩ : ∃ q, L[k]? = some q := ⟨_, List.getElem?_eq_getElem (by rw [← HnL.out]; exact hlt)⟩
      have hqm := List.mem_of_getElem? hq
      obtain ⟨hb1, hb2⟩ := hin.out q hqm
      obtain ⟨qx, qy⟩ := q
      simp only at hb1 hb2
      obtain ⟨bC, oC, hA, z0, z1⟩ := HC7.out.rd.getCl hq
      subst hA
      have y0 := z0.c0 HW.out.left
      have y1 := z1.c0 HW.out.left
      simp only at y0 y1
      have hcall := hid (Hblk.out qx qy (by omega) (by omega))
      have Hlt := hid hlt
      have hkC : nL ≤ cC := by
        obtain ⟨_, _, e, _, h, _⟩ := SlR.form HC7.out
        injection e with e1 e2 e3
        have := HnL.out
        omega
      have hT := hid (fun W X hW => Htry.out W X hW qx qy hqm (by omega) (by omega))
      obtain ⟨b5, hb5⟩ : ∃ b5, b5 = wr.heap.size := ⟨_, rfl⟩
      have HA5 := hid (show Has (wr.alloc (.cells #[.int .i64 0, .int .i64 0] 66)) (blk b5 #[.int .i64 0, .int .i64 0] 66 + (mC + (blk b3 #[.map (some g)] 88 + (pts g (.map #[] 0) + B0)))) by rw [hb5]; exact HW.out.alloc _)
      have Hb5 := hid hb5
      clear hlt hk hq z0 z1 hqm hb5
      cases hbq : blackB (qx, qy) with
      | false =>
        rw [hbq] at hcall
        clear hbq
        go_wp2_with (first
          | (go_at_call 38; refine (hcall.out w5).mono ?_; rintro e8 w8 ⟨rfl, k8⟩; have HW8 := hid (k8.1 _ HW5.out); have HE8 := hid (HE5.out.trans k8.2); clear k8 q0 q1)
          | (rw [← Hb5.out]; refine wpList_store_whole rfl (.tmp 5) (.tmp 15) 66 rfl 2 size66 b5 (.agg #[.int .i64 qx, .int .i64 qy]) rfl rfl rfl (by simp [Value.cells, Value.oneCell']) #[.int .i64 0, .int .i64 0] 66 _ HA5.out rfl ?_; intro w5 j1 j2; have HW5 := hid (show Has w5 (blk b5 #[.int .i64 qx, .int .i64 qy] 66 + (mC + (blk b3 #[.map (some g)] 88 + (pts g (.map #[] 0) + B0)))) from j1); have HE5 := hid ((HE.out.trans (Ext.alloc _ _)).trans j2); have q0 := HW5.out.at_ (i := 0) rfl; have q1 := HW5.out.at_ (i := 1) rfl; clear j1 j2))
        go_roundw
        case rel => exact ⟨k + 1, Hlt.out, by go_num, HW8.out.right, HE8.out⟩
        case measure => have := Hlt.out; simp [intOf]; omega
      | true =>
        rw [hbq] at hcall
        clear hbq
        go_wp2_with (first
          | (go_at_call 38; refine (hcall.out w5).mono ?_; rintro e8 w8 ⟨rfl, k8⟩; have HW8 := hid (k8.1 _ HW5.out); have HE8 := hid (HE5.out.trans k8.2); obtain ⟨g6, hg6⟩ : ∃ g6, g6 = w8.heap.size := ⟨_, rfl⟩; have HM8 := hid (show Has ((w8.alloc (.map #[] 0)).alloc (.cells #[.map none] 83)) (blk (g6 + 1) #[.map none] 83 + (pts g6 (.map #[] 0) + (blk b5 #[.int .i64 qx, .int .i64 qy] 66 + (mC + (blk b3 #[.map (some g)] 88 + (pts g (.map #[] 0) + B0)))))) by (have h := (HW8.out.alloc (.map #[] 0)).alloc (.cells #[.map none] 83); rw [show (w8.alloc (.map #[] 0)).heap.size = w8.heap.size + 1 by simp, ← hg6] at h; exact h)); have EM8 := hid ((HE8.out.trans (Ext.alloc _ (.map #[] 0))).trans (Ext.alloc _ (.cells #[.map none] 83))); have Hg6 := hid hg6; clear k8 q0 q1 hg6)
          | (rw [← Hb5.out]; refine wpList_store_whole rfl (.tmp 5) (.tmp 15) 66 rfl 2 size66 b5 (.agg #[.int .i64 qx, .int .i64 qy]) rfl rfl rfl (by simp [Value.cells, Value.oneCell']) #[.int .i64 0, .int .i64 0] 66 _ HA5.out rfl ?_; intro w5 j1 j2; have HW5 := hid (show Has w5 (blk b5 #[.int .i64 qx, .int .i64 qy] 66 + (mC + (blk b3 #[.map (some g)] 88 + (pts g (.map #[] 0) + B0)))) from j1); have HE5 := hid ((HE.out.trans (Ext.alloc _ _)).trans j2); have q0 := HW5.out.at_ (i := 0) rfl; have q1 := HW5.out.at_ (i := 1) rfl; clear j1 j2)
          | (refine wpList_run rfl _ _ (ex_makeMap rfl) ?_; rw [← Hg6.out])
          | (rw [← Hg6.out]; refine wpList_store_blk rfl (.tmp 6) (.tmp 19) 83 rfl size83 (g6 + 1) 0 (.map (some g6)) rfl rfl rfl #[.map none] 83 _ HM8.out (by decide) ?_; intro w9 k1 k2; have H9 := hid (show Has w9 (blk (g6 + 1) #[.map (some g6)] 83 + (pts g6 (.map #[] 0) + (blk b5 #[.int .i64 qx, .int .i64 qy] 66 + (mC + (blk b3 #[.map (some g)] 88 + (pts g (.map #[] 0) + B0)))))) from k1); have E9 := hid (EM8.out.trans k2); obtain ⟨b7, hb7⟩ : ∃ b7, b7 = w9.heap.size := ⟨_, rfl⟩; have HA7 := hid (show Has (w9.alloc (.cells #[.nilFunc] 67)) (blk b7 #[.nilFunc] 67 + (blk (g6 + 1) #[.map (some g6)] 83 + (pts g6 (.map #[] 0) + (blk b5 #[.int .i64 qx, .int .i64 qy] 66 + (mC + (blk b3 #[.map (some g)] 88 + (pts g (.map #[] 0) + B0))))))) by rw [hb7]; exact H9.out.alloc _); have Hb7 := hid hb7; clear k1 k2 hb7)
          | (rw [← Hb7.out]; refine wpList_store_blk rfl (.tmp 7) (.tmp 20) 67 rfl size67 b7 0 (.func (.func 89) #[] #[.pointer (some ⟨b1, 0, none⟩), .pointer (some ⟨g6 + 1, 0, none⟩), .pointer (some ⟨b3, 0, none⟩), .pointer (some ⟨b7, 0, none⟩)]) rfl rfl rfl #[.nilFunc] 67 _ HA7.out (by decide) ?_; intro w10 k1 k2; have H10 := hid (show Has w10 (blk b7 #[(.func (.func 89) #[] #[.pointer (some ⟨b1, 0, none⟩), .pointer (some ⟨g6 + 1, 0, none⟩), .pointer (some ⟨b3, 0, none⟩), .pointer (some ⟨b7, 0, none⟩)])] 67 + (blk (g6 + 1) #[.map (some g6)] 83 + (pts g6 (.map #[] 0) + (blk b5 #[.int .i64 qx, .int .i64 qy] 66 + (mC + (blk b3 #[.map (some g)] 88 + (pts g (.map #[] 0) + B0))))))) from k1); have E10 := hid ((E9.out.trans (Ext.alloc _ _)).trans k2); have u7 := H10.out.at_ (i := 0) rfl; have v0 := H10.out.right.right.right.at_ (i := 0) rfl; have v1 := H10.out.right.right.right.at_ (i := 1) rfl; clear k1 k2)
          | (go_at_call 89; refine (hT.out w10 (blk b7 #[(.func (.func 89) #[] #[.pointer (some ⟨b1, 0, none⟩), .pointer (some ⟨g6 + 1, 0, none⟩), .pointer (some ⟨b3, 0, none⟩), .pointer (some ⟨b7, 0, none⟩)])] 67 + (blk (g6 + 1) #[.map (some g6)] 83 + (pts g6 (.map #[] 0) + (blk b5 #[.int .i64 qx, .int .i64 qy] 66 + (mC + (blk b3 #[.map (some g)] 88 + pts g (.map #[] 0))))))) (H10.out.eq (by ac_rfl)) _ _ _).mono ?_; rintro e11 w11 ⟨rfl, k11⟩; have H11 := hid (k11.1 _ H10.out); have E11 := hid (E10.out.trans k11.2); clear k11 u7 v0 v1))
        go_roundw
        case rel => exact ⟨k + 1, Hlt.out, by go_num, H11.out.right.right.right.right, E11.out⟩
        case measure => have := Hlt.out; simp [intOf]; omega
    · have hke : k = nL := by omega
      subst hke
      clear hlt hk
      have t3 := HW.out.right.at_ (i := 0) rfl
      go_wp2
      go_ret
      exact ⟨g, rfl, fun M hM => Hfin.out _ (mC + blk b3 #[.map (some g)] 88) M hM (HW.out.eq (by ac_rfl)), HE.out⟩
end Go.Proofs.YtcdhimnmbpllgaaDoor

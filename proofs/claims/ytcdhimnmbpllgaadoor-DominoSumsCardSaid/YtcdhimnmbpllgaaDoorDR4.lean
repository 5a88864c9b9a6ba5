/-
  The walk of Refute at a region whose cells have no neighbours: the sort of one cell, the closures. The walk of matched at a region whose cells have no neighbours. The walk of Refute at a region whose cells have no neighbours. The walk of Refute at a region whose cells have no neighbours: joined.
-/
import Derived.Test.YtcdhimnmbpllgaaDoorDK5
import Derived.Test.YtcdhimnmbpllgaaDoorDMemo
import Derived.Test.YtcdhimnmbpllgaaDoorDW9
namespace Go.Proofs.YtcdhimnmbpllgaaDoor
open Go.RowKit Go.MapKept Go.ChangeMaps
set_option linter.unusedVariables false
set_option linter.unusedSimpArgs false
set_option maxHeartbeats 1000000
set_option maxRecDepth 100000

theorem row66 : (66 : TypeId) < Tryd.prog.types.size := of_decide_eq_true (by kernel_rfl)
theorem law66 : Go.WideMaps.KeyLaw Tryd.prog 66 := deep_law_laid laidOut (m := 2) (by omega) row66 (by kernel_rfl) (by rw [Tryd.underlying66])
theorem cells66 : Tryd.prog.cellsOf 66 = 2 := by kernel_rfl
theorem types_size66 : ∃ n, Tryd.prog.types.size + 1 = n + 2 := ⟨Tryd.prog.types.size - 1, by have h : 66 < Tryd.prog.types.size := row66; omega⟩
theorem keyT66 : Tryd.prog.keyType 66 = true := by kernel_rfl
theorem key66 {q : Int × Int} (h : small q) : ∃ l, keyOf Tryd.prog 66 (pairV q) = some l := by
  obtain ⟨n, hn⟩ := types_size66
  have w1 : (Lit.int .i64 q.1).wf = true := wf_sm h.1.1 h.1.2
  have w2 : (Lit.int .i64 q.2).wf = true := wf_sm h.2.1 h.2.2
  have hf : (pairV q).formed Tryd.prog 66 = true := by simp [pairV, Value.formed, Tryd.underlying66, cells66]
  have hl : Tryd.prog.keyLits (Tryd.prog.types.size + 1) 66 (pairV q).cells.toList = some [.int .i64 q.1, .int .i64 q.2] := by
    rw [hn]
    simp [Program.keyLits, Tryd.underlying66, cells66, pairV, Value.cells, Tryd.underlying3, cells3, w1, w2, List.range_succ]
  unfold keyOf
  rw [Tryd.underlying66]
  simp only [keyT66, hf, Bool.and_self, if_true, hl, Option.map_some]
  exact ⟨_, rfl⟩
theorem pair66 : KeyPair Tryd.prog 66 := ⟨law66, fun _ h => key66 h⟩
theorem und88 : Tryd.prog.underlying 88 = some (.map 66 66) := by kernel_rfl
theorem und83 : Tryd.prog.underlying 83 = some (.map 66 4) := by kernel_rfl
theorem zero66 (w : World) : (zeroValue 66).run Tryd.prog w = .ok (.agg #[.int .i64 0, .int .i64 0]) w := by kernel_rfl
theorem zero4 (w : World) : (zeroValue 4).run Tryd.prog w = .ok (.bool false) w := by kernel_rfl
theorem size88 : (Tryd.prog.info? 88).map (·.size) = some 1 := by kernel_rfl
theorem size83 : (Tryd.prog.info? 83).map (·.size) = some 1 := by kernel_rfl
theorem size67 : (Tryd.prog.info? 67).map (·.size) = some 1 := by kernel_rfl

theorem len64_one (w : World) : Calls Tryd.prog 118 #[.int .u64 1] w fun e w' => e = .returned (.int .i64 1) ∧ w' = w := by
  go_enter Tryd.func118, Tryd.ntmps118
  go_wp2
  go_ret
  exact ⟨by kernel_rfl, rfl⟩
theorem len_one (w : World) : Calls Tryd.prog 91 #[.int .u64 1] w fun e w' => e = .returned (.int .i64 1) ∧ w' = w := by
  have H := hid (fun w => len64_one w)
  go_enter Tryd.func91, Tryd.ntmps91
  go_wp2_with (go_at_call 118; refine (H.out _).mono ?_; rintro e1 w1 ⟨rfl, h1⟩; rw [h1]; clear h1)
  go_ret
  exact ⟨rfl, rfl⟩
theorem isort_one (v f : Value) (w : World) : Calls Tryd.prog 109 #[v, .int .i64 0, .int .i64 1, f] w fun e w' => e = .returned (.tuple #[]) ∧ w' = w := by
  go_enter Tryd.func109, Tryd.ntmps109
  go_wp2
  go_loopw [8] (fun v wr => v = .int .i64 1 ∧ wr = w) (fun _ _ => 0)
  case atStart => exact ⟨rfl, rfl⟩
  case round =>
    obtain ⟨rfl, hw⟩ := hrel
    go_wp2
    go_end0
    exact ⟨rfl, rfl⟩
theorem pdq_one (v f : Value) (w : World) : Calls Tryd.prog 90 #[v, .int .i64 0, .int .i64 1, .int .i64 1, f] w fun e w' => e = .returned (.tuple #[]) ∧ w' = w := by
  have H := hid (fun w => isort_one v f w)
  go_enter Tryd.func90, Tryd.ntmps90
  go_wp2
  go_loopw [1, 2] (fun v1 v2 wr => v1 = .int .i64 0 ∧ v2 = .int .i64 1 ∧ wr = w) (fun _ _ _ => 0)
  case atStart => exact ⟨rfl, rfl, rfl⟩
  case round =>
    obtain ⟨rfl, rfl, hw⟩ := hrel
    go_wp2_with (go_at_call 109; refine (H.out _).mono ?_; rintro e1 w1 ⟨rfl, h1⟩; rw [h1]; clear h1)
    (try simp only [Exit.inBlock, Exit.then])
    refine bodyPost_ret (results_none rfl _ _ _) rfl ?_
    exact ⟨rfl, rfl⟩
theorem sort_one {A : Option Addr} {c : Nat} (f : Value) (w : World) : Calls Tryd.prog 56 #[.slice A 1 c, f] w fun e w' => e = .returned (.tuple #[]) ∧ w' = w := by
  have H := hid (fun w => pdq_one (.slice A 1 c) f w)
  have H2 := hid (fun w => len_one w)
  go_enter Tryd.func56, Tryd.ntmps56
  go_wp2_with (first
    | (go_at_call 90; refine (H.out _).mono ?_; rintro e1 w1 ⟨rfl, h1⟩; rw [h1]; clear h1)
    | (go_at_call 91; refine (H2.out _).mono ?_; rintro e1 w1 ⟨rfl, h1⟩; rw [h1]; clear h1))
  go_end0
  exact ⟨rfl, rfl⟩
/-- A search from a cell that has no neighbours. -/
theorem try_none {F : MS} {p : List ByteArray} {A : Option Addr} {c b1 : Nat} {v2 v3 v4 : Value} {w : World} (hr : RdS F RT.str p (.slice A p.length c)) (hp : RegOk p) (hf : FourOk F) (hg : F.at b1 0 (.int .i64 (wd p)) ∧ F.at b1 1 (.int .i64 p.length) ∧ F.at b1 2 (.slice A p.length c)) (hH : Has w F) {q : Int × Int} (h1 : -1000 ≤ q.1 ∧ q.1 ≤ 1000) (h2 : -1000 ≤ q.2 ∧ q.2 ≤ 1000) (hn : nbrsL p q = []) :
    Calls Tryd.prog 89 #[clV q, .pointer (some ⟨b1, 0, none⟩), v2, v3, v4] w fun e w' => e = .returned (.bool false) ∧ Kp w w' := by
  obtain ⟨qx, qy⟩ := q
  simp only at h1 h2
  have HA := hid (show Has (w.alloc (.cells #[.int .i64 qx, .int .i64 qy] 66)) (blk w.heap.size #[.int .i64 qx, .int .i64 qy] 66 + MS.all w) from (Has.all w).alloc _)
  have HE := hid (Ext.alloc w (.cells #[.int .i64 qx, .int .i64 qy] 66))
  have Hnb := hid (fun (W : World) (hW : Has W (MS.all w)) => show Calls Tryd.prog 39 #[.agg #[.int .i64 (wd p), .int .i64 p.length, .slice A p.length c], .agg #[.int .i64 qx, .int .i64 qy]] W fun e w' => ∃ v m, e = .returned v ∧ Cls (nbrsL p (qx, qy)) v m ∧ (∀ M, Has W M → Has w' (m + M)) ∧ Ext W w' from nbrs_any (rd_all_str hr hH) hp (hf.all hH) hW (qx, qy) h1 h2)
  rw [hn] at Hnb
  have hin := hH.of_all HA.out
  have g0 := hg.1.c0 hin
  have g1 := hg.2.1.c0 hin
  have g2 := hg.2.2.c0 hin
  show Calls Tryd.prog 89 #[.agg #[.int .i64 qx, .int .i64 qy], .pointer (some ⟨b1, 0, none⟩), v2, v3, v4] w _
  clear hr hp hf hg hH hn hin
  go_enter Tryd.func89, Tryd.ntmps89
  go_wp2_with (go_at_call 39; refine (Hnb.out _ HA.out.right).mono ?_; rintro e1 w1 ⟨v, m, rfl, hc, k1, l1⟩; obtain ⟨AN, cN, rfl, _⟩ := SlR.form hc; have H1 := hid (k1 _ HA.out); have E1 := hid (HE.out.trans l1); clear hc k1 l1)
  go_loopw [15] (fun v wr => v = .int .i64 0 ∧ Has wr (MS.all w) ∧ Ext w wr) (fun _ _ => 0)
  case atStart => exact ⟨rfl, H1.out.right.right, E1.out⟩
  case round =>
    obtain ⟨rfl, hW, hE⟩ := hrel
    have HW := hid hW
    have HE2 := hid hE
    clear hW hE g0 g1 g2
    go_wp2
    go_ret
    exact ⟨rfl, fun M hM => hM.of_all (X := 0) (by rw [MS.zero_add]; exact HW.out), HE2.out⟩
end Go.Proofs.YtcdhimnmbpllgaaDoor

namespace Go.Proofs.YtcdhimnmbpllgaaDoor
open Go.RowKit Go.MapKept Go.ChangeMaps
set_option linter.unusedVariables false
set_option linter.unusedSimpArgs false
set_option maxHeartbeats 4000000
set_option maxRecDepth 100000

theorem matched_none {F : MS} {p : List ByteArray} {A : Option Addr} {c : Nat} {w : World} (hr : RdS F RT.str p (.slice A p.length c)) (hp : RegOk p) (hf : FourOk F) (hH : Has w F) (hno : ∀ q ∈ cellsL p, nbrsL p q = []) :
    Calls Tryd.prog 52 #[rgV p A c] w fun e w' => ∃ g, e = .returned (.map (some g)) ∧ (∀ M, Has w M → Has w' (pts g (.map #[] 0) + M)) ∧ Ext w w' := by
  have hra := rd_all_str hr hH
  have hfa := hf.all hH
  have Hcl := hid (fun (W : World) (hW : Has W (MS.all w)) => show Calls Tryd.prog 37 #[.agg #[.int .i64 (wd p), .int .i64 p.length, .slice A p.length c]] W fun e w' => ∃ v m, e = .returned v ∧ Cls (cellsL p) v m ∧ (∀ M, Has W M → Has w' (m + M)) ∧ Ext W w' from cells_any hra hp hW)
  have Hblk := hid (fun (qx qy : Int) (h1 : -1000 ≤ qx ∧ qx ≤ 1000) (h2 : -1000 ≤ qy ∧ qy ≤ 1000) (W : World) => show Calls Tryd.prog 38 #[.agg #[.int .i64 qx, .int .i64 qy]] W fun e w' => e = .returned (.bool (blackB (qx, qy))) ∧ Kp W w' from black_any (qx, qy) h1 h2 W)
  obtain ⟨b1, hb1⟩ : ∃ b1, b1 = w.heap.size := ⟨_, rfl⟩
  obtain ⟨B0, hB0⟩ : ∃ B0, B0 = blk b1 #[.int .i64 (wd p), .int .i64 p.length, .slice A p.length c] 51 + MS.all w := ⟨_, rfl⟩
  have Hall := hid (show ∀ W X, Has W (X + B0) → Has W (MS.all w) from fun W X h => by rw [hB0] at h; exact h.right.right)
  have Keep := hid (show ∀ W X, Has W (X + B0) → (W.cell? ⟨b1, 0, none⟩ = some (.int .i64 (wd p)) ∧ W.cell? ⟨b1, 1, none⟩ = some (.int .i64 p.length) ∧ W.cell? ⟨b1, 2, none⟩ = some (.slice A p.length c)) from fun W X h => by
    rw [hB0] at h
    exact ⟨h.right.at_ rfl, h.right.at_ rfl, h.right.at_ rfl⟩)
  have Htry := hid (fun (W : World) (X : MS) (hW : Has W (X + B0)) (qx qy : Int) (hq : (qx, qy) ∈ cellsL p) (h1 : -1000 ≤ qx ∧ qx ≤ 1000) (h2 : -1000 ≤ qy ∧ qy ≤ 1000) (v2 v3 v4 : Value) => show Calls Tryd.prog 89 #[.agg #[.int .i64 qx, .int .i64 qy], .pointer (some ⟨b1, 0, none⟩), v2, v3, v4] W fun e w' => e = .returned (.bool false) ∧ Kp W w' from by
    rw [hB0] at hW
    refine try_none (q := (qx, qy)) (F := blk b1 #[.int .i64 (wd p), .int .i64 p.length, .slice A p.length c] 51 + MS.all w) (hra.more _) hp (hfa.more _) ⟨MS.at.less (blk_at rfl) _, MS.at.less (blk_at rfl) _, MS.at.less (blk_at rfl) _⟩ hW.right h1 h2 (hno _ hq))
  have hin := hid (fun q (h : q ∈ cellsL p) => show (0 ≤ q.1 ∧ q.1 ≤ 8) ∧ 0 ≤ q.2 ∧ q.2 ≤ 8 from by
    obtain ⟨h1, h2, h3, h4⟩ := hsI_in (mem_cells.1 h)
    have := hp.w8
    have := hp.h8
    omega)
  obtain ⟨L, hL⟩ : ∃ L, L = cellsL p := ⟨_, rfl⟩
  have hL64 : L.length ≤ 64 := by
    have h1 := cellsK_len p p.length
    have h2 : p.length * wd p ≤ 8 * 8 := Nat.mul_le_mul hp.h8 hp.w8
    rw [hL]
    exact Nat.le_trans h1 h2
  rw [← hL] at Hcl hin Htry
  obtain ⟨nL, hnL⟩ : ∃ nL, nL = L.length := ⟨_, rfl⟩
  rw [← hnL] at hL64
  have HnL := hid hnL
  have hnLI : (nL : Int) ≤ 64 := by omega
  -- the beginning
  obtain ⟨w0, hw0⟩ : ∃ w0, w0 = w.alloc (.cells #[.int .i64 (wd p), .int .i64 p.length, .slice A p.length c] 51) := ⟨_, rfl⟩
  have H0 := hid (show Has w0 B0 by rw [hw0, hB0, hb1]; exact (Has.all w).alloc _)
  have E0 := hid (show Ext w w0 by rw [hw0]; exact Ext.alloc _ _)
  obtain ⟨g, hg⟩ : ∃ g, g = w0.heap.size := ⟨_, rfl⟩
  obtain ⟨b3, hb3⟩ : ∃ b3, b3 = w0.heap.size + 1 := ⟨_, rfl⟩
  have H1 := hid (show Has ((w0.alloc (.map #[] 0)).alloc (.cells #[.map none] 88)) (blk b3 #[.map none] 88 + (pts g (.map #[] 0) + B0)) by
    have h := (H0.out.alloc (.map #[] 0)).alloc (.cells #[.map none] 88)
    rw [show (w0.alloc (.map #[] 0)).heap.size = w0.heap.size + 1 by simp] at h
    rw [hb3, hg]; exact h)
  have E1 := hid ((E0.out.trans (Ext.alloc _ (.map #[] 0))).trans (Ext.alloc _ (.cells #[.map none] 88)))
  have Hb1 := hid hb1
  have Hw0 := hid hw0
  have Hg := hid hg
  have Hb3 := hid hb3
  have Hfin := hid (show ∀ W X M, Has w M → Has W (X + (pts g (.map #[] 0) + B0)) → Has W (pts g (.map #[] 0) + M) from fun W X M hM hW => by
    rw [hB0] at hW
    exact (Has.with_all hM (hW.eq (b := pts g (.map #[] 0) + (X + blk b1 #[.int .i64 (wd p), .int .i64 p.length, .slice A p.length c] 51) + MS.all w) (by ac_rfl))).eq (b := pts g (.map #[] 0) + M + (X + blk b1 #[.int .i64 (wd p), .int .i64 p.length, .slice A p.length c] 51)) (by ac_rfl) |>.left)
  show Calls Tryd.prog 52 #[.agg #[.int .i64 (wd p), .int .i64 p.length, .slice A p.length c]] w _
  generalize (wd p : Int) = WW at *
  generalize (p.length : Int) = HHI at *
  clear hr hp hf hH hno hra hfa hL hnL hL64 hb1 hw0 hg hb3 hB0
  go_enter Tryd.func52, Tryd.ntmps52
  go_wp2_with (first
    | (rw [← Hw0.out]; rw [← Hb1.out]; refine wpList_run rfl _ _ (ex_makeMap rfl) ?_; rw [← Hg.out])
    | (rw [← Hb3.out]; refine wpList_store_blk rfl (.tmp 3) (.tmp 8) 88 rfl size88 b3 0 (.map (some g)) rfl rfl rfl #[.map none] 88 _ H1.out (by decide) ?_; intro w2 k1 k2; have H2 := hid (show Has w2 (blk b3 #[.map (some g)] 88 + (pts g (.map #[] 0) + B0)) from k1); have E2 := hid (E1.out.trans k2); obtain ⟨r0, r1, r2⟩ := Keep.out w2 (blk b3 #[.map (some g)] 88 + pts g (.map #[] 0)) (H2.out.eq (by ac_rfl)); clear k1 k2)
    | (go_at_call 37; refine (Hcl.out w2 (Hall.out w2 (blk b3 #[.map (some g)] 88 + pts g (.map #[] 0)) (H2.out.eq (by ac_rfl)))).mono ?_; rintro e7 w7 ⟨vC, mC, rfl, hC, k7, l7⟩; obtain ⟨AC, cC, rfl, _⟩ := SlR.form hC; rw [← HnL.out] at hC ⊢; have HC7 := hid hC; have HW7 := hid (k7 _ H2.out); have HE7 := hid (E2.out.trans l7); clear hC k7 l7 r0 r1 r2))
  go_loopw [12] (fun v wr => ∃ k : Nat, k ≤ nL ∧ v = .int .i64 k ∧ Has wr (mC + (blk b3 #[.map (some g)] 88 + (pts g (.map #[] 0) + B0))) ∧ Ext w wr) (fun v _ => nL - (intOf v).toNat)
  case atStart => exact ⟨0, Nat.zero_le _, rfl, HW7.out, HE7.out⟩
  case round =>
    obtain ⟨k, hk, rfl, hW, hE⟩ := hrel
    have HW := hid hW
    have HE := hid hE
    clear hW hE
    by_cases hlt : k < nL
    · have hltI : (k : Int) < nL := by omega
      obtain ⟨q, hq⟩ : ∃ q, L[k]? = some q := ⟨_, List.getElem?_eq_getElem (by rw [← HnL.out]; exact hlt)⟩
      have hqm := List.mem_of_getElem? hq
      obtain ⟨hb1, hb2⟩ := hin.out q hqm
      obtain ⟨qx, qy⟩ := q
      simp only at hb1 hb2
      obtain ⟨bC, oC, hA, z0, z1⟩ := HC7.out.rd.getCl hq
      subst hA
      have y0 := z0.c0 HW.out.left
      have y1 := z1.c0 HW.out.left
      simp only at y0 y1
      have hcall := hid (Hblk.out qx qy (by omega) (by omega))
      have Hlt := hid hlt
      have hkC : nL ≤ cC := by
        obtain ⟨_, _, e, _, h, _⟩ := SlR.form HC7.out
        injection e with e1 e2 e3
        have := HnL.out
        omega
      have hT := hid (fun W X hW => Htry.out W X hW qx qy hqm (by omega) (by omega))
      obtain ⟨b5, hb5⟩ : ∃ b5, b5 = wr.heap.size := ⟨_, rfl⟩
      have HA5 := hid (show Has (wr.alloc (.cells #[.int .i64 0, .int .i64 0] 66)) (blk b5 #[.int .i64 0, .int .i64 0] 66 + (mC + (blk b3 #[.map (some g)] 88 + (pts g (.map #[] 0) + B0)))) by rw [hb5]; exact HW.out.alloc _)
      have Hb5 := hid hb5
      clear hlt hk hq z0 z1 hqm hb5
      cases hbq : blackB (qx, qy) with
      | false =>
        rw [hbq] at hcall
        clear hbq
        go_wp2_with (first
          | (go_at_call 38; refine (hcall.out w5).mono ?_; rintro e8 w8 ⟨rfl, k8⟩; have HW8 := hid (k8.1 _ HW5.out); have HE8 := hid (HE5.out.trans k8.2); clear k8 q0 q1)
          | (rw [← Hb5.out]; refine wpList_store_whole rfl (.tmp 5) (.tmp 15) 66 rfl 2 size66 b5 (.agg #[.int .i64 qx, .int .i64 qy]) rfl rfl rfl (by simp [Value.cells, Value.oneCell']) #[.int .i64 0, .int .i64 0] 66 _ HA5.out rfl ?_; intro w5 j1 j2; have HW5 := hid (show Has w5 (blk b5 #[.int .i64 qx, .int .i64 qy] 66 + (mC + (blk b3 #[.map (some g)] 88 + (pts g (.map #[] 0) + B0)))) from j1); have HE5 := hid ((HE.out.trans (Ext.alloc _ _)).trans j2); have q0 := HW5.out.at_ (i := 0) rfl; have q1 := HW5.out.at_ (i := 1) rfl; clear j1 j2))
        go_roundw
        case rel => exact ⟨k + 1, Hlt.out, by go_num, HW8.out.right, HE8.out⟩
        case measure => have := Hlt.out; simp [intOf]; omega
      | true =>
        rw [hbq] at hcall
        clear hbq
        go_wp2_with (first
          | (go_at_call 38; refine (hcall.out w5).mono ?_; rintro e8 w8 ⟨rfl, k8⟩; have HW8 := hid (k8.1 _ HW5.out); have HE8 := hid (HE5.out.trans k8.2); obtain ⟨g6, hg6⟩ : ∃ g6, g6 = w8.heap.size := ⟨_, rfl⟩; have HM8 := hid (show Has ((w8.alloc (.map #[] 0)).alloc (.cells #[.map none] 83)) (blk (g6 + 1) #[.map none] 83 + (pts g6 (.map #[] 0) + (blk b5 #[.int .i64 qx, .int .i64 qy] 66 + (mC + (blk b3 #[.map (some g)] 88 + (pts g (.map #[] 0) + B0)))))) by (have h := (HW8.out.alloc (.map #[] 0)).alloc (.cells #[.map none] 83); rw [show (w8.alloc (.map #[] 0)).heap.size = w8.heap.size + 1 by simp, ← hg6] at h; exact h)); have EM8 := hid ((HE8.out.trans (Ext.alloc _ (.map #[] 0))).trans (Ext.alloc _ (.cells #[.map none] 83))); have Hg6 := hid hg6; clear k8 q0 q1 hg6)
          | (rw [← Hb5.out]; refine wpList_store_whole rfl (.tmp 5) (.tmp 15) 66 rfl 2 size66 b5 (.agg #[.int .i64 qx, .int .i64 qy]) rfl rfl rfl (by simp [Value.cells, Value.oneCell']) #[.int .i64 0, .int .i64 0] 66 _ HA5.out rfl ?_; intro w5 j1 j2; have HW5 := hid (show Has w5 (blk b5 #[.int .i64 qx, .int .i64 qy] 66 + (mC + (blk b3 #[.map (some g)] 88 + (pts g (.map #[] 0) + B0)))) from j1); have HE5 := hid ((HE.out.trans (Ext.alloc _ _)).trans j2); have q0 := HW5.out.at_ (i := 0) rfl; have q1 := HW5.out.at_ (i := 1) rfl; clear j1 j2)
          | (refine wpList_run rfl _ _ (ex_makeMap rfl) ?_; rw [← Hg6.out])
          | (rw [← Hg6.out]; refine wpList_store_blk rfl (.tmp 6) (.tmp 19) 83 rfl size83 (g6 + 1) 0 (.map (some g6)) rfl rfl rfl #[.map none] 83 _ HM8.out (by decide) ?_; intro w9 k1 k2; have H9 := hid (show Has w9 (blk (g6 + 1) #[.map (some g6)] 83 + (pts g6 (.map #[] 0) + (blk b5 #[.int .i64 qx, .int .i64 qy] 66 + (mC + (blk b3 #[.map (some g)] 88 + (pts g (.map #[] 0) + B0)))))) from k1); have E9 := hid (EM8.out.trans k2); obtain ⟨b7, hb7⟩ : ∃ b7, b7 = w9.heap.size := ⟨_, rfl⟩; have HA7 := hid (show Has (w9.alloc (.cells #[.nilFunc] 67)) (blk b7 #[.nilFunc] 67 + (blk (g6 + 1) #[.map (some g6)] 83 + (pts g6 (.map #[] 0) + (blk b5 #[.int .i64 qx, .int .i64 qy] 66 + (mC + (blk b3 #[.map (some g)] 88 + (pts g (.map #[] 0) + B0))))))) by rw [hb7]; exact H9.out.alloc _); have Hb7 := hid hb7; clear k1 k2 hb7)
          | (rw [← Hb7.out]; refine wpList_store_blk rfl (.tmp 7) (.tmp 20) 67 rfl size67 b7 0 (.func (.func 89) #[] #[.pointer (some ⟨b1, 0, none⟩), .pointer (some ⟨g6 + 1, 0, none⟩), .pointer (some ⟨b3, 0, none⟩), .pointer (some ⟨b7, 0, none⟩)]) rfl rfl rfl #[.nilFunc] 67 _ HA7.out (by decide) ?_; intro w10 k1 k2; have H10 := hid (show Has w10 (blk b7 #[(.func (.func 89) #[] #[.pointer (some ⟨b1, 0, none⟩), .pointer (some ⟨g6 + 1, 0, none⟩), .pointer (some ⟨b3, 0, none⟩), .pointer (some ⟨b7, 0, none⟩)])] 67 + (blk (g6 + 1) #[.map (some g6)] 83 + (pts g6 (.map #[] 0) + (blk b5 #[.int .i64 qx, .int .i64 qy] 66 + (mC + (blk b3 #[.map (some g)] 88 + (pts g (.map #[] 0) + B0))))))) from k1); have E10 := hid ((E9.out.trans (Ext.alloc _ _)).trans k2); have u7 := H10.out.at_ (i := 0) rfl; have v0 := H10.out.right.right.right.at_ (i := 0) rfl; have v1 := H10.out.right.right.right.at_ (i := 1) rfl; clear k1 k2)
          | (go_at_call 89; refine (hT.out w10 (blk b7 #[(.func (.func 89) #[] #[.pointer (some ⟨b1, 0, none⟩), .pointer (some ⟨g6 + 1, 0, none⟩), .pointer (some ⟨b3, 0, none⟩), .pointer (some ⟨b7, 0, none⟩)])] 67 + (blk (g6 + 1) #[.map (some g6)] 83 + (pts g6 (.map #[] 0) + (blk b5 #[.int .i64 qx, .int .i64 qy] 66 + (mC + (blk b3 #[.map (some g)] 88 + pts g (.map #[] 0))))))) (H10.out.eq (by ac_rfl)) _ _ _).mono ?_; rintro e11 w11 ⟨rfl, k11⟩; have H11 := hid (k11.1 _ H10.out); have E11 := hid (E10.out.trans k11.2); clear k11 u7 v0 v1))
        go_roundw
        case rel => exact ⟨k + 1, Hlt.out, by go_num, H11.out.right.right.right.right, E11.out⟩
        case measure => have := Hlt.out; simp [intOf]; omega
    · have hke : k = nL := by omega
      subst hke
      clear hlt hk
      have t3 := HW.out.right.at_ (i := 0) rfl
      go_wp2
      go_ret
      exact ⟨g, rfl, fun M hM => Hfin.out _ (mC + blk b3 #[.map (some g)] 88) M hM (HW.out.eq (by ac_rfl)), HE.out⟩
end Go.Proofs.YtcdhimnmbpllgaaDoor

namespace Go.Proofs.YtcdhimnmbpllgaaDoor
open Go.RowKit Go.MapKept Go.ChangeMaps
set_option linter.unusedVariables false
set_option linter.unusedSimpArgs false
set_option maxHeartbeats 4000000
set_option maxRecDepth 100000

theorem freeB_any {F : MS} {b6 g : Nat} {w : World} (h6 : F.at b6 0 (.map (some g))) (hH : Has w (pts g (.map #[] 0) + F)) {q : Int × Int} (hq : small q) :
    Calls Tryd.prog 54 #[clV q, .pointer (some ⟨b6, 0, none⟩)] w fun e w' => e = .returned (.bool true) ∧ Kp w w' := by
  obtain ⟨qx, qy⟩ := q
  have HA := hid (show Has (w.alloc (.cells #[.int .i64 qx, .int .i64 qy] 66)) (blk w.heap.size #[.int .i64 qx, .int .i64 qy] 66 + MS.all w) from (Has.all w).alloc _)
  have HE := hid (Ext.alloc w (.cells #[.int .i64 qx, .int .i64 qy] 66))
  have hin := hH.of_all HA.out
  have f0 := h6.c0 hin.right
  have hlk := EntsAre.none.look2 pair66 und88 (zero66 (w.alloc (.cells #[.int .i64 qx, .int .i64 qy] 66))) hin.get hq
  have Hl := hid (show (Instr.lookup 88 (.map (some g)) (.agg #[.int .i64 qx, .int .i64 qy]) true).run Tryd.prog (w.alloc (.cells #[.int .i64 qx, .int .i64 qy] 66)) = .ok (.tuple #[.agg #[.int .i64 0, .int .i64 0], .bool false]) (w.alloc (.cells #[.int .i64 qx, .int .i64 qy] 66)) from hlk)
  have HB := hid (show Has ((w.alloc (.cells #[.int .i64 qx, .int .i64 qy] 66)).alloc (.cells #[.int .i64 0, .int .i64 0] 66)) (blk (w.heap.size + 1) #[.int .i64 0, .int .i64 0] 66 + (blk w.heap.size #[.int .i64 qx, .int .i64 qy] 66 + MS.all w)) by
    have h := HA.out.alloc (.cells #[.int .i64 0, .int .i64 0] 66)
    rw [show (w.alloc (.cells #[.int .i64 qx, .int .i64 qy] 66)).heap.size = w.heap.size + 1 by simp] at h
    exact h)
  show Calls Tryd.prog 54 #[.agg #[.int .i64 qx, .int .i64 qy], .pointer (some ⟨b6, 0, none⟩)] w _
  clear h6 hH hq hin hlk
  go_enter Tryd.func54, Tryd.ntmps54
  go_wp2_with (first
    | (refine wpList_run rfl _ _ (ex_look rfl Hl.out) ?_)
    | (refine wpList_store_whole rfl (.tmp 4) (.tmp 10) 66 rfl 2 size66 (w.heap.size + 1) (.agg #[.int .i64 0, .int .i64 0]) rfl rfl rfl (by simp [Value.cells, Value.oneCell']) #[.int .i64 0, .int .i64 0] 66 _ HB.out rfl ?_; intro w5 j1 j2; have H5 := hid j1; have E5 := hid ((HE.out.trans (Ext.alloc _ _)).trans j2); clear j1 j2))
  go_ret
  exact ⟨rfl, fun M hM => hM.of_all (H5.out.right), E5.out⟩
theorem first_any {F : MS} {b6 g : Nat} {l : List (Int × Int)} {A : Option Addr} {c : Nat} {w : World} (hr : RdS F RT.cl l (.slice A l.length c)) (h0 : 0 < l.length) (hl : l.length ≤ 1000) (h6 : F.at b6 0 (.map (some g))) (hH : Has w (pts g (.map #[] 0) + F)) (hs : ∀ q ∈ l, small q) :
    Calls Tryd.prog 53 #[.slice A l.length c, .func (.func 54) #[] #[.pointer (some ⟨b6, 0, none⟩)]] w fun e w' => e = .returned (.int .i64 0) ∧ Kp w w' := by
  obtain ⟨q, hq⟩ : ∃ q, l[0]? = some q := ⟨_, List.getElem?_eq_getElem h0⟩
  have Hc := hid (freeB_any h6 hH (hs q (List.mem_of_getElem? hq)))
  obtain ⟨qx, qy⟩ := q
  obtain ⟨bq, oq, hA, e0, e1⟩ := hr.getCl hq
  subst hA
  have f0 := e0.c0 hH.right
  have f1 := e1.c0 hH.right
  simp only [Nat.zero_mul, Nat.add_zero] at f0 f1
  have hnc := hr.cells.2.1
  have h0I : (0 : Int) < l.length := by omega
  have hlI : (l.length : Int) ≤ 1000 := by omega
  have Hc2 := hid (show Calls Tryd.prog 54 #[.agg #[.int .i64 qx, .int .i64 qy], .pointer (some ⟨b6, 0, none⟩)] w fun e w' => e = .returned (.bool true) ∧ Kp w w' from Hc.out)
  clear hr h6 hH hs hq e0 e1 hl Hc
  go_enter Tryd.func53, Tryd.ntmps53
  go_wp2
  go_loopw [8] (fun v wr => v = .int .i64 0 ∧ wr = w) (fun _ _ => 0)
  case atStart => exact ⟨rfl, rfl⟩
  case round =>
    obtain ⟨rfl, rfl⟩ := hrel
    go_wp2_with (go_at_call 54; refine Hc2.out.mono ?_; rintro e5 w5 ⟨rfl, k5⟩; have K5 := hid k5; clear k5)
    go_ret
    exact ⟨rfl, K5.out⟩
end Go.Proofs.YtcdhimnmbpllgaaDoor

namespace Go.Proofs.YtcdhimnmbpllgaaDoor
open Go.RowKit Go.MapKept Go.ChangeMaps
set_option linter.unusedVariables false
set_option linter.unusedSimpArgs false
set_option maxHeartbeats 4000000
set_option maxRecDepth 100000

theorem refute_none {F : MS} {p : List ByteArray} {A : Option Addr} {c : Nat} {w : World} (hr : RdS F RT.str p (.slice A p.length c)) (hl : p.length ≤ 1000) (hs : ∀ s ∈ p, s.size ≤ 1000000) (hf : FourOk F) (hH : Has w F) (hq : isReg p = true) (h0 : 0 < (cellsL p).length) (hno : ∀ q ∈ cellsL p, nbrsL p q = []) :
    Calls Tryd.prog 19 #[.slice A p.length c] w fun e w' => ∃ A' c', e = .returned (.tuple #[.slice A' 1 c', .int .i64 0]) ∧ Kp w w' := by
  have Hof := hid (of_any hr hl hs hH)
  have hv : regV p A c = rgV p A c := by unfold regV; rw [hq]; rfl
  rw [hq, hv] at Hof
  have hp := (isReg.ok hq).1
  have hra := rd_all_str hr hH
  have hfa := hf.all hH
  have Hcl := hid (fun (W : World) (hW : Has W (MS.all w)) => show Calls Tryd.prog 37 #[.agg #[.int .i64 (wd p), .int .i64 p.length, .slice A p.length c]] W fun e w' => ∃ v m, e = .returned v ∧ Cls (cellsL p) v m ∧ (∀ M, Has W M → Has w' (m + M)) ∧ Ext W w' from cells_any hra hp hW)
  have Hmt := hid (fun (W : World) (hW : Has W (MS.all w)) => show Calls Tryd.prog 52 #[.agg #[.int .i64 (wd p), .int .i64 p.length, .slice A p.length c]] W fun e w' => ∃ g, e = .returned (.map (some g)) ∧ (∀ M, Has W M → Has w' (pts g (.map #[] 0) + M)) ∧ Ext W w' from matched_none hra hp hfa hW hno)
  have hin := hid (fun q (h : q ∈ cellsL p) => show (0 ≤ q.1 ∧ q.1 ≤ 8) ∧ 0 ≤ q.2 ∧ q.2 ≤ 8 from by
    obtain ⟨h1, h2, h3, h4⟩ := hsI_in (mem_cells.1 h)
    have := hp.w8
    have := hp.h8
    omega)
  have Hnb := hid (fun (W : World) (hW : Has W (MS.all w)) (qx qy : Int) (hqm : (qx, qy) ∈ cellsL p) (h1 : -1000 ≤ qx ∧ qx ≤ 1000) (h2 : -1000 ≤ qy ∧ qy ≤ 1000) => show Calls Tryd.prog 39 #[.agg #[.int .i64 (wd p), .int .i64 p.length, .slice A p.length c], .agg #[.int .i64 qx, .int .i64 qy]] W fun e w' => ∃ v m, e = .returned v ∧ Cls [] v m ∧ (∀ M, Has W M → Has w' (m + M)) ∧ Ext W w' from by
    have h := nbrs_any hra hp hfa hW (qx, qy) h1 h2
    rw [hno _ hqm] at h
    exact h)
  obtain ⟨L, hL⟩ : ∃ L, L = cellsL p := ⟨_, rfl⟩
  have hL64 : L.length ≤ 64 := by
    have h1 := cellsK_len p p.length
    have h2 : p.length * wd p ≤ 8 * 8 := Nat.mul_le_mul hp.h8 hp.w8
    rw [hL]
    exact Nat.le_trans h1 h2
  rw [← hL] at Hcl hin Hnb h0
  obtain ⟨⟨qx, qy⟩, hq0⟩ : ∃ q, L[0]? = some q := ⟨_, List.getElem?_eq_getElem h0⟩
  obtain ⟨hb1, hb2⟩ := hin.out _ (List.mem_of_getElem? hq0)
  simp only at hb1 hb2
  have Hnq := hid (fun (W : World) (hW : Has W (MS.all w)) => Hnb.out W hW qx qy (List.mem_of_getElem? hq0) (by omega) (by omega))
  have Hq0 := hid hq0
  obtain ⟨nL, hnL⟩ : ∃ nL, nL = L.length := ⟨_, rfl⟩
  rw [← hnL] at hL64 h0
  have HnL := hid hnL
  have hnLI : (nL : Int) ≤ 64 := by omega
  have h0I : (0 : Int) < nL := by omega
  unfold rgV at Hof
  generalize (wd p : Int) = WW at *
  generalize (p.length : Int) = HHI at *
  clear hq hv hr hl hs hf hH hp hra hfa hL hnL hno hq0 Hnb
  go_enter Tryd.func19, Tryd.ntmps19
  go_wp2_with (first
    | (go_at_call 32; refine Hof.out.mono ?_; rintro e1 w1 ⟨rfl, k1⟩; have K1 := hid (k1.1 _ (Has.all w)); have E1 := hid k1.2; have KA := hid ((K1.out).alloc (.cells #[.int .i64 0, .int .i64 0, .slice none 0 0] 51)); have EA := hid (E1.out.trans (Ext.alloc _ (.cells #[.int .i64 0, .int .i64 0, .slice none 0 0] 51))); clear k1)
    | (refine wpList_store_whole rfl (.tmp 4) (.tmp 17) 51 rfl 3 size51 w1.heap.size (.agg #[.int .i64 WW, .int .i64 HHI, .slice A p.length c]) rfl rfl rfl (by simp [Value.cells, Value.oneCell']) #[.int .i64 0, .int .i64 0, .slice none 0 0] 51 _ KA.out rfl ?_; intro w6 j1 j2; have HW6 := hid (show Has w6 (blk w1.heap.size #[.int .i64 WW, .int .i64 HHI, .slice A p.length c] 51 + MS.all w) from j1); have HE6 := hid (EA.out.trans j2); have r0 := HW6.out.at_ (i := 0) rfl; have r1 := HW6.out.at_ (i := 1) rfl; have r2 := HW6.out.at_ (i := 2) rfl; clear j1 j2)
    | (go_at_call 52; refine (Hmt.out w6 HW6.out.right).mono ?_; rintro e7 w7 ⟨g, rfl, k7, l7⟩; have HW7 := hid (k7 _ HW6.out); have HE7 := hid (HE6.out.trans l7); obtain ⟨b6, hb6⟩ : ∃ b6, b6 = w7.heap.size := ⟨_, rfl⟩; have HA7 := hid (show Has (w7.alloc (.cells #[.map none] 88)) (blk b6 #[.map none] 88 + (pts g (.map #[] 0) + (blk w1.heap.size #[.int .i64 WW, .int .i64 HHI, .slice A p.length c] 51 + MS.all w))) by rw [hb6]; exact HW7.out.alloc _); have Hb6 := hid hb6; clear k7 l7 hb6 r0 r1 r2)
    | (rw [← Hb6.out]; refine wpList_store_blk rfl (.tmp 6) (.tmp 22) 88 rfl size88 b6 0 (.map (some g)) rfl rfl rfl #[.map none] 88 _ HA7.out (by decide) ?_; intro w8 k1 k2; have H8 := hid (show Has w8 (blk b6 #[.map (some g)] 88 + (pts g (.map #[] 0) + (blk w1.heap.size #[.int .i64 WW, .int .i64 HHI, .slice A p.length c] 51 + MS.all w))) from k1); have E8 := hid ((HE7.out.trans (Ext.alloc _ _)).trans k2); have r0 := H8.out.right.right.at_ (i := 0) rfl; have r1 := H8.out.right.right.at_ (i := 1) rfl; have r2 := H8.out.right.right.at_ (i := 2) rfl; clear k1 k2)
    | (go_at_call 37; refine (Hcl.out w8 H8.out.right.right.right).mono ?_; rintro e9 w9 ⟨vC, mC, rfl, hC, k9, l9⟩; obtain ⟨AC, cC, rfl, _⟩ := SlR.form hC; rw [← HnL.out] at hC ⊢; have HC9 := hid hC; have H9 := hid (k9 _ H8.out); have E9 := hid (E8.out.trans l9); have hfir := hid (show Calls Tryd.prog 53 #[.slice AC nL cC, .func (.func 54) #[] #[.pointer (some ⟨b6, 0, none⟩)]] w9 fun e w' => e = .returned (.int .i64 0) ∧ Kp w9 w' from by (have hrd := hC.rd; have h9 := k9 _ H8.out; rw [HnL.out] at hrd ⊢; exact first_any (F := blk b6 #[.map (some g)] 88 + (mC + (blk w1.heap.size #[.int .i64 WW, .int .i64 HHI, .slice A p.length c] 51 + MS.all w))) ((hrd.less _).more _) (by rw [← HnL.out]; exact h0) (by rw [← HnL.out]; omega) (MS.at.less (blk_at rfl) _) (h9.eq (by ac_rfl)) (fun q hq => by (obtain ⟨h1, h2⟩ := hin.out q hq; exact ⟨by omega, by omega⟩)))); clear hC k9 l9 r0 r1 r2)
    | (go_at_call 53; refine hfir.out.mono ?_; rintro e10 w10 ⟨rfl, k10⟩; have H10 := hid (k10.1 _ H9.out); have E10 := hid (E9.out.trans k10.2); obtain ⟨bC, oC, hA, z0, z1⟩ := HC9.out.rd.getCl Hq0.out; subst hA; have y0 := z0.c0 H10.out.left; have y1 := z1.c0 H10.out.left; simp only [Nat.zero_mul, Nat.add_zero] at y0 y1; have hkC : nL ≤ cC := (by obtain ⟨_, _, e, _, h, _⟩ := SlR.form HC9.out; injection e with e1 e2 e3; have := HnL.out; omega); clear k10 z0 z1))
  obtain ⟨b9, hb9⟩ : ∃ b9, b9 = w10.heap.size := ⟨_, rfl⟩
  have H11 := hid (show Has (w10.alloc (.cells #[.int .i64 qx, .int .i64 qy] 66)) (blk b9 #[.int .i64 qx, .int .i64 qy] 66 + (blk w1.heap.size #[.int .i64 WW, .int .i64 HHI, .slice A p.length c] 51 + MS.all w)) by
    rw [hb9]
    exact (H10.out.alloc (.cells #[.int .i64 qx, .int .i64 qy] 66)).eq (b := (blk w10.heap.size #[.int .i64 qx, .int .i64 qy] 66 + (blk w1.heap.size #[.int .i64 WW, .int .i64 HHI, .slice A p.length c] 51 + MS.all w)) + (mC + (blk b6 #[.map (some g)] 88 + pts g (.map #[] 0)))) (by unfold blk; ac_rfl) |>.left)
  have E11 := hid (E10.out.trans (Ext.alloc w10 (.cells #[.int .i64 qx, .int .i64 qy] 66)))
  rw [← hb9]
  clear hb9 y0 y1
  have KeepS := hid (show ∀ W, Has W (blk b9 #[.int .i64 qx, .int .i64 qy] 66 + (blk w1.heap.size #[.int .i64 WW, .int .i64 HHI, .slice A p.length c] 51 + MS.all w)) → (W.cell? ⟨w1.heap.size, 0, none⟩ = some (.int .i64 WW) ∧ W.cell? ⟨w1.heap.size, 1, none⟩ = some (.int .i64 HHI) ∧ W.cell? ⟨w1.heap.size, 2, none⟩ = some (.slice A p.length c) ∧ W.cell? ⟨b9, 0, none⟩ = some (.int .i64 qx) ∧ W.cell? ⟨b9, 1, none⟩ = some (.int .i64 qy)) from fun W h => ⟨h.right.at_ rfl, h.right.at_ rfl, h.right.at_ rfl, h.at_ rfl, h.at_ rfl⟩)
  go_loopw [9, 10] (fun v9 v10 wr => ∃ i : Nat, i ≤ 1 ∧ v9 = .slice (some ⟨b9, 0, none⟩) 1 1 ∧ v10 = .int .i64 i ∧ Has wr (blk b9 #[.int .i64 qx, .int .i64 qy] 66 + (blk w1.heap.size #[.int .i64 WW, .int .i64 HHI, .slice A p.length c] 51 + MS.all w)) ∧ Ext w wr) (fun _ v _ => 1 - (intOf v).toNat)
  case atStart => exact ⟨0, Nat.zero_le _, rfl, rfl, H11.out, E11.out⟩
  case round =>
    obtain ⟨i, hi, rfl, rfl, hW, hE⟩ := hrel
    have HW := hid hW
    have HE := hid hE
    clear hW hE
    by_cases hi0 : i = 0
    · subst hi0
      clear hi
      go_wp2
      have hS := KeepS.out wr.drew HW.out.drew
      refine wp_region_txt (fun W => W.cell? ⟨w1.heap.size, 0, none⟩ = some (.int .i64 WW) ∧ W.cell? ⟨w1.heap.size, 1, none⟩ = some (.int .i64 HHI) ∧ W.cell? ⟨w1.heap.size, 2, none⟩ = some (.slice A p.length c) ∧ W.cell? ⟨b9, 0, none⟩ = some (.int .i64 qx) ∧ W.cell? ⟨b9, 1, none⟩ = some (.int .i64 qy)) none
        [(0, true), (1, true), (2, true), (3, true), (4, true), (7, true), (5, false), (6, true)] (by kernel_rfl) rfl (by kernel_rfl) (by kernel_rfl) (by repeat (first | with_reducible refine PanicOk.thn ?_ | with_reducible refine PanicOk.blk ?_ | exact PanicOk.body _ _ _)) ?_
      repeat
        (refine txt_quiet ?_ hS rfl rfl (fun W hW => ?_) ?_
         rotate_left 1
         · obtain ⟨hW1, hW2, hW3, hW4, hW5⟩ := hW
           go_simp
           exact rfl
         simp only [Act.put, List.setIfInBounds_toArray, List.set_cons_zero, List.set_cons_succ])
      refine txt_op rfl rfl ?_
      refine op_call 39 #[.agg #[.int .i64 WW, .int .i64 HHI, .slice A p.length c], .agg #[.int .i64 qx, .int .i64 qy]] wr.drew (by go_simp) _ (Hnq.out wr.drew HW.out.right.right.drew) ?_
      rintro e12 w12 ⟨vN, mN, rfl, hN, k12, l12⟩
      obtain ⟨AN, cN, rfl, _⟩ := SlR.form hN
      have H12 := hid (k12 _ HW.out.drew).right
      have E12 := hid ((HE.out.trans (Ext.drew _)).trans l12)
      clear hN k12 l12 hS
      have hS := KeepS.out w12 H12.out
      refine ⟨_, rfl, fun _ => hS, ?_⟩
      simp only [Act.put, List.setIfInBounds_toArray, List.set_cons_zero, List.set_cons_succ]
      repeat
        (refine txt_quiet ?_ hS rfl rfl (fun W hW => ?_) ?_
         rotate_left 1
         · obtain ⟨hW1, hW2, hW3, hW4, hW5⟩ := hW
           go_simp
           exact rfl
         simp only [Act.put, List.setIfInBounds_toArray, List.set_cons_zero, List.set_cons_succ])
      refine txt_done ?_
      clear hS
      go_wp2
      go_loopw [9, 48] (fun v9 v48 wq => v9 = .slice (some ⟨b9, 0, none⟩) 1 1 ∧ v48 = .int .i64 0 ∧ Has wq (blk b9 #[.int .i64 qx, .int .i64 qy] 66 + (blk w1.heap.size #[.int .i64 WW, .int .i64 HHI, .slice A p.length c] 51 + MS.all w)) ∧ Ext w wq) (fun _ _ _ => 0)
      case atStart => exact ⟨rfl, rfl, H12.out, E12.out⟩
      case round =>
        obtain ⟨rfl, rfl, hW2, hE2⟩ := hrel
        have HW2 := hid hW2
        have HE2 := hid hE2
        clear hW2 hE2
        go_wp2
        go_roundw
        case rel => exact ⟨1, Nat.le_refl _, rfl, by go_num, HW2.out, HE2.out⟩
        case measure => simp [intOf]
    · have hi1 : i = 1 := by omega
      subst hi1
      clear hi hi0
      go_wp2_with (go_at_call 56; refine (sort_one _ wr).mono ?_; rintro e9 w9' ⟨rfl, hw9⟩; rw [hw9]; clear hw9)
      go_ret2
      exact ⟨_, _, rfl, fun M hM => hM.of_all HW.out.right, HE.out⟩
end Go.Proofs.YtcdhimnmbpllgaaDoor

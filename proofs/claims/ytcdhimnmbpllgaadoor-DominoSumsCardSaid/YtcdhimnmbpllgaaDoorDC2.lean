/-
  The walk of neighbours.
-/
import Derived.Test.YtcdhimnmbpllgaaDoorDC1
namespace Go.Proofs.YtcdhimnmbpllgaaDoor
open Go.RowKit
set_option linter.unusedVariables false
set_option linter.unusedSimpArgs false
set_option maxHeartbeats 1000000
set_option maxRecDepth 100000

/-- The variable four, as it is laid. -/
def fourV : Array Value := #[.int .i64 0, .int .i64 (-1), .int .i64 (-1), .int .i64 0, .int .i64 1, .int .i64 0, .int .i64 0, .int .i64 1]
def FourOk (F : MS) : Prop := ∀ (i : Nat) v, fourV[i]? = some v → F.at 0 i v
theorem FourOk.more {F : MS} (h : FourOk F) (X : MS) : FourOk (X + F) := fun i v hi => (h i v hi).more X
theorem FourOk.all {F : MS} {w : World} (h : FourOk F) (hH : Has w F) : FourOk (MS.all w) := fun i v hi => at_all (h i v hi) hH
def dxN (i : Nat) : Int := if i = 1 then -1 else if i = 2 then 1 else 0
def dyN (i : Nat) : Int := if i = 0 then -1 else if i = 3 then 1 else 0
def nbrsK (p : List ByteArray) (q : Int × Int) (k : Nat) : List (Int × Int) := ((List.range k).filter fun i => hsI p (q.1 + dxN i) (q.2 + dyN i)).map fun (i : Nat) => (q.1 + dxN i, q.2 + dyN i)
def nbrsL (p : List ByteArray) (q : Int × Int) : List (Int × Int) := nbrsK p q 4
theorem nbrsK_succ (p : List ByteArray) (q : Int × Int) (k : Nat) : nbrsK p q (k + 1) = nbrsK p q k ++ (if hsI p (q.1 + dxN k) (q.2 + dyN k) then [(q.1 + dxN k, q.2 + dyN k)] else []) := by
  unfold nbrsK
  rw [List.range_succ, List.filter_append, List.map_append]
  congr 1
  cases h : hsI p (q.1 + dxN k) (q.2 + dyN k) <;> simp [h]
theorem nbrsK_len (p : List ByteArray) (q : Int × Int) (k : Nat) : (nbrsK p q k).length ≤ k := by
  unfold nbrsK
  rw [List.length_map]
  have := List.length_filter_le (fun i => hsI p (q.1 + dxN i) (q.2 + dyN i)) (List.range k)
  rwa [List.length_range] at this
theorem ix_four (w : World) : ∀ (k : Nat), k < 4 → (Instr.index 99 (.agg #[.int .i64 0, .int .i64 (-1), .int .i64 (-1), .int .i64 0, .int .i64 1, .int .i64 0, .int .i64 0, .int .i64 1]) (.int .i64 k)).run Tryd.prog w = .ok (.agg #[.int .i64 (dxN k), .int .i64 (dyN k)]) w
  | 0, _ => by kernel_rfl
  | 1, _ => by kernel_rfl
  | 2, _ => by kernel_rfl
  | 3, _ => by kernel_rfl
  | k + 4, h => by omega
theorem ex_four {a : Act} {o : Oper} {x y : Operand} {w : World} (ho : o.op = .index 99 x y) (hx : a.eval x = .agg #[.int .i64 0, .int .i64 (-1), .int .i64 (-1), .int .i64 0, .int .i64 1, .int .i64 0, .int .i64 0, .int .i64 1]) {k : Nat} (hk : k < 4) (hy : a.eval y = .int .i64 k) {dx dy : Int} (hdx : dx = dxN k) (hdy : dy = dyN k) :
    (execOp a.eval o).run Tryd.prog w = .ok (.value (.agg #[.int .i64 dx, .int .i64 dy])) w := by
  subst hdx
  subst hdy
  simp only [execOp, ho, hx, hy, Sem.run_bind, ix_four w k hk, Result.andThen, Sem.run_pure]
theorem dxN_le (k : Nat) : -1 ≤ dxN k ∧ dxN k ≤ 1 := by
  unfold dxN
  split
  · omega
  · split <;> omega
theorem dyN_le (k : Nat) : -1 ≤ dyN k ∧ dyN k ≤ 1 := by
  unfold dyN
  split
  · omega
  · split <;> omega
theorem nbrs_any {F : MS} {p : List ByteArray} {A : Option Addr} {c : Nat} {w : World} (hr : RdS F RT.str p (.slice A p.length c)) (hp : RegOk p) (hf : FourOk F) (hH : Has w F) (q : Int × Int) (h1 : -1000 ≤ q.1 ∧ q.1 ≤ 1000) (h2 : -1000 ≤ q.2 ∧ q.2 ≤ 1000) :
    Calls Tryd.prog 39 #[rgV p A c, clV q] w fun e w' => ∃ v m, e = .returned v ∧ Cls (nbrsL p q) v m ∧ (∀ M, Has w M → Has w' (m + M)) ∧ Ext w w' := by
  have hw8 := hp.w8
  have hh8 := hp.h8
  have Hhas := hid (fun (x y : Int) (W : World) (hW : Has W (MS.all w)) => show Calls Tryd.prog 47 #[.agg #[.int .i64 (wd p), .int .i64 p.length, .slice A p.length c], .int .i64 x, .int .i64 y] W fun e w' => e = .returned (.bool (hsI p x y)) ∧ Kp W w' from has_any (rd_all_str hr hH) hp hW x y)
  obtain ⟨qx, qy⟩ := q
  simp only at h1 h2
  have HA := hid (show Has ((w.alloc (.cells #[.int .i64 (wd p), .int .i64 p.length, .slice A p.length c] 51)).alloc (.cells #[.int .i64 qx, .int .i64 qy] 66)) (0 + (blk (w.heap.size + 1) #[.int .i64 qx, .int .i64 qy] 66 + (blk w.heap.size #[.int .i64 (wd p), .int .i64 p.length, .slice A p.length c] 51 + MS.all w))) by
    have := ((Has.all w).alloc (.cells #[.int .i64 (wd p), .int .i64 p.length, .slice A p.length c] 51)).alloc (.cells #[.int .i64 qx, .int .i64 qy] 66)
    rw [show (w.alloc (.cells #[.int .i64 (wd p), .int .i64 p.length, .slice A p.length c] 51)).heap.size = w.heap.size + 1 by simp] at this
    rw [MS.zero_add]
    exact this)
  have HE0 := hid ((Ext.alloc w (.cells #[.int .i64 (wd p), .int .i64 p.length, .slice A p.length c] 51)).trans (Ext.alloc _ (.cells #[.int .i64 qx, .int .i64 qy] 66)))
  have Keep := hid (show ∀ W X, Has W (X + (blk (w.heap.size + 1) #[.int .i64 qx, .int .i64 qy] 66 + (blk w.heap.size #[.int .i64 (wd p), .int .i64 p.length, .slice A p.length c] 51 + MS.all w))) → (W.cell? ⟨w.heap.size, 0, none⟩ = some (.int .i64 (wd p)) ∧ W.cell? ⟨w.heap.size, 1, none⟩ = some (.int .i64 p.length) ∧ W.cell? ⟨w.heap.size, 2, none⟩ = some (.slice A p.length c) ∧ W.cell? ⟨w.heap.size + 1, 0, none⟩ = some (.int .i64 qx) ∧ W.cell? ⟨w.heap.size + 1, 1, none⟩ = some (.int .i64 qy)) from fun W X h => by
    have k1 := h.right
    have k2 := k1.right
    exact ⟨k2.at_ rfl, k2.at_ rfl, k2.at_ rfl, k1.at_ rfl, k1.at_ rfl⟩)
  have hF := (hf.all hH)
  have hin := HA.out.right.right.right
  have g0 := (hF 0 (.int .i64 0) rfl).c0 hin
  have g1 := (hF 1 (.int .i64 (-1)) rfl).c0 hin
  have g2 := (hF 2 (.int .i64 (-1)) rfl).c0 hin
  have g3 := (hF 3 (.int .i64 0) rfl).c0 hin
  have g4 := (hF 4 (.int .i64 1) rfl).c0 hin
  have g5 := (hF 5 (.int .i64 0) rfl).c0 hin
  have g6 := (hF 6 (.int .i64 0) rfl).c0 hin
  have g7 := (hF 7 (.int .i64 1) rfl).c0 hin
  have Hstep := hid (fun (k : Nat) (_ : k < 4) => nbrsK_succ p (qx, qy) k)
  have Hlen := hid (fun (k : Nat) => nbrsK_len p (qx, qy) k)
  have Hend := hid (show nbrsK p (qx, qy) 4 = nbrsL p (qx, qy) from rfl)
  show Calls Tryd.prog 39 #[.agg #[.int .i64 (wd p), .int .i64 p.length, .slice A p.length c], .agg #[.int .i64 qx, .int .i64 qy]] w _
  have hW8 : (wd p : Int) ≤ 8 := by omega
  have hH8 : (p.length : Int) ≤ 8 := by omega
  clear hr hp hf hH hw8 hh8 hF hin
  go_enter Tryd.func39, Tryd.ntmps39
  go_wp2
  clear g0 g1 g2 g3 g4 g5 g6 g7
  go_loopw [5, 9] (fun v5 v9 wr => ∃ (k : Nat) (m : MS), k ≤ 4 ∧ v9 = .int .i64 k ∧ Cls (nbrsK p (qx, qy) k) v5 m ∧ Has wr (m + (blk (w.heap.size + 1) #[.int .i64 qx, .int .i64 qy] 66 + (blk w.heap.size #[.int .i64 (wd p), .int .i64 p.length, .slice A p.length c] 51 + MS.all w))) ∧ Ext w wr) (fun _ v _ => 4 - (intOf v).toNat)
  case atStart => exact ⟨0, 0, Nat.zero_le _, rfl, Cls.nil, HA.out, HE0.out⟩
  case round =>
    obtain ⟨k, m, hk, rfl, hc, hW, hE⟩ := hrel
    obtain ⟨A5, c5, rfl, _⟩ := SlR.form hc
    have HC := hid hc
    have HW := hid hW
    have HE := hid hE
    obtain ⟨n, hn⟩ : ∃ n, n = (nbrsK p (qx, qy) k).length := ⟨_, rfl⟩
    have hn4 : n ≤ 4 := by rw [hn]; exact Nat.le_trans (Hlen.out k) hk
    rw [← hn]
    rw [← hn] at HC
    have Hn := hid hn
    clear hc hW hE hn
    by_cases h4 : k < 4
    · have H4 := hid h4
      have Hk := hid (Hstep.out k h4)
      have hd1 := dxN_le k
      have hd2 := dyN_le k
      obtain ⟨dx, hdx⟩ : ∃ dx, dx = dxN k := ⟨_, rfl⟩
      obtain ⟨dy, hdy⟩ : ∃ dy, dy = dyN k := ⟨_, rfl⟩
      rw [← hdx] at hd1 Hk
      rw [← hdy] at hd2 Hk
      have Hdx := hid hdx
      have Hdy := hid hdy
      have hcall := hid (Hhas.out (qx + dx) (qy + dy))
      have hkI : (k : Int) < 4 := by omega
      clear hk h4 hdx hdy
      cases hq : hsI p (qx + dx) (qy + dy) with
      | true =>
        rw [hq] at hcall Hk
        clear hq
        go_wp2_with (first
          | (refine wpList_runI rfl 99 (.tmp 8) (.tmp 9) rfl (.agg #[.int .i64 dx, .int .i64 dy]) _ (ex_four rfl rfl H4.out rfl Hdx.out Hdy.out) ?_)
          | (go_at_call 47; refine (hcall.out w5 HW5.out.right.right.right.right).mono ?_; rintro e6 w6 ⟨rfl, k6⟩; have HW6 := hid (k6.1 _ HW5.out); have HE6 := hid (HE5.out.trans k6.2); obtain ⟨t0, t1, t2, t3, t4⟩ := Keep.out w6 (blk wr.heap.size #[.int .i64 dx, .int .i64 dy] 66 + m) (HW6.out.eq (by ac_rfl)); have u0 := HW6.out.at_ (i := 0) rfl; have u1 := HW6.out.at_ (i := 1) rfl; clear k6 d0 d1 d2 d3 d4 r0 r1)
          | (refine wpList_store_whole rfl (.tmp 7) (.tmp 11) 66 rfl 2 size66 wr.heap.size (.agg #[.int .i64 dx, .int .i64 dy]) rfl rfl rfl (by simp [Value.cells, Value.oneCell']) #[.int .i64 0, .int .i64 0] 66 _ (HW.out.alloc (.cells #[.int .i64 0, .int .i64 0] 66)) rfl ?_; intro w5 j1 j2; have HW5 := hid (show Has w5 (blk wr.heap.size #[.int .i64 dx, .int .i64 dy] 66 + (m + (blk (w.heap.size + 1) #[.int .i64 qx, .int .i64 qy] 66 + (blk w.heap.size #[.int .i64 (wd p), .int .i64 p.length, .slice A p.length c] 51 + MS.all w)))) from j1); have HE5 := hid ((HE.out.trans (Ext.alloc _ _)).trans j2); have r0 := HW5.out.at_ (i := 0) rfl; have r1 := HW5.out.at_ (i := 1) rfl; obtain ⟨d0, d1, d2, d3, d4⟩ := Keep.out w5 (blk wr.heap.size #[.int .i64 dx, .int .i64 dy] 66 + m) (HW5.out.eq (by ac_rfl)); clear j1 j2)
          | (at_builtin; refine wpList_push rfl (.tmp 24) (.tmp 36) row29 rfl (.slice A5 n c5) rfl _ rfl (by simp) ClR ClR.one ClR.len _ ((qx + dx, qy + dy) : Int × Int) m 0 (blk wr.heap.size #[.int .i64 dx, .int .i64 dy] 66 + (blk (w.heap.size + 1) #[.int .i64 qx, .int .i64 qy] 66 + (blk w.heap.size #[.int .i64 (wd p), .int .i64 p.length, .slice A p.length c] 51 + MS.all w))) HC.out ⟨rfl, rfl⟩ (HW6.out.eq (by rw [MS.zero_add]; ac_rfl)) n Hn.out.symm (by omega) (by omega) ?_; intro A8 c8 w8 m8 j4 j5 j6; have J4 := hid j4; have J5 := hid j5; have J6 := hid (HE6.out.trans j6); clear j4 j5 j6))
        go_roundw
        case rel => exact ⟨k + 1, m8, H4.out, by go_num, by rw [Hk.out]; exact J4.out, J5.out.eq (b := m8 + (blk (w.heap.size + 1) #[.int .i64 qx, .int .i64 qy] 66 + (blk w.heap.size #[.int .i64 (wd p), .int .i64 p.length, .slice A p.length c] 51 + MS.all w)) + blk wr.heap.size #[.int .i64 dx, .int .i64 dy] 66) (by ac_rfl) |>.left, J6.out⟩
        case measure => have := H4.out; simp [intOf]; omega
      | false =>
        rw [hq] at hcall Hk
        clear hq
        go_wp2_with (first
          | (refine wpList_runI rfl 99 (.tmp 8) (.tmp 9) rfl (.agg #[.int .i64 dx, .int .i64 dy]) _ (ex_four rfl rfl H4.out rfl Hdx.out Hdy.out) ?_)
          | (go_at_call 47; refine (hcall.out w5 HW5.out.right.right.right.right).mono ?_; rintro e6 w6 ⟨rfl, k6⟩; have HW6 := hid (k6.1 _ HW5.out); have HE6 := hid (HE5.out.trans k6.2); obtain ⟨t0, t1, t2, t3, t4⟩ := Keep.out w6 (blk wr.heap.size #[.int .i64 dx, .int .i64 dy] 66 + m) (HW6.out.eq (by ac_rfl)); have u0 := HW6.out.at_ (i := 0) rfl; have u1 := HW6.out.at_ (i := 1) rfl; clear k6 d0 d1 d2 d3 d4 r0 r1)
          | (refine wpList_store_whole rfl (.tmp 7) (.tmp 11) 66 rfl 2 size66 wr.heap.size (.agg #[.int .i64 dx, .int .i64 dy]) rfl rfl rfl (by simp [Value.cells, Value.oneCell']) #[.int .i64 0, .int .i64 0] 66 _ (HW.out.alloc (.cells #[.int .i64 0, .int .i64 0] 66)) rfl ?_; intro w5 j1 j2; have HW5 := hid (show Has w5 (blk wr.heap.size #[.int .i64 dx, .int .i64 dy] 66 + (m + (blk (w.heap.size + 1) #[.int .i64 qx, .int .i64 qy] 66 + (blk w.heap.size #[.int .i64 (wd p), .int .i64 p.length, .slice A p.length c] 51 + MS.all w)))) from j1); have HE5 := hid ((HE.out.trans (Ext.alloc _ _)).trans j2); have r0 := HW5.out.at_ (i := 0) rfl; have r1 := HW5.out.at_ (i := 1) rfl; obtain ⟨d0, d1, d2, d3, d4⟩ := Keep.out w5 (blk wr.heap.size #[.int .i64 dx, .int .i64 dy] 66 + m) (HW5.out.eq (by ac_rfl)); clear j1 j2))
        go_roundw
        case rel => exact ⟨k + 1, m, H4.out, by go_num, by rw [Hk.out]; exact (by simpa using HC.out), HW6.out.right, HE6.out⟩
        case measure => have := H4.out; simp [intOf]; omega
    · have hke : k = 4 := by omega
      subst hke
      rw [Hend.out] at HC
      clear hk h4
      go_wp2
      go_ret
      exact ⟨_, m, rfl, HC.out, fun M hM => (Has.with_all hM (HW.out.eq (by ac_rfl) : Has wr (m + (blk (w.heap.size + 1) #[.int .i64 qx, .int .i64 qy] 66 + blk w.heap.size #[.int .i64 (wd p), .int .i64 p.length, .slice A p.length c] 51) + MS.all w)) |> fun h => (h.eq (by ac_rfl) : Has wr (m + M + (blk (w.heap.size + 1) #[.int .i64 qx, .int .i64 qy] 66 + blk w.heap.size #[.int .i64 (wd p), .int .i64 p.length, .slice A p.length c] 51))).left), HE.out⟩
end Go.Proofs.YtcdhimnmbpllgaaDoor

/-
  The walk of Kasteleyn (printed by gen_kas.py).
-/
import Derived.Test.YtcdhimnmbpllgaaDoorDK5
import Derived.Test.YtcdhimnmbpllgaaDoorDW9
namespace Go.Proofs.YtcdhimnmbpllgaaDoor
open Go.RowKit
set_option linter.unusedVariables false
set_option linter.unusedSimpArgs false
set_option maxHeartbeats 4000000
set_option maxRecDepth 100000

theorem row68 : RowTy Tryd.prog 68 69 (.slice none 0 0) 1 24 := ⟨Tryd.underlying68, by kernel_rfl, rfl⟩
theorem info3 : (Tryd.prog.info? 3).map (fun i => (i.zero, i.size, i.bytes)) = some (some (.int .i64 0), 1, 8) := by kernel_rfl
theorem nat_made {n : Nat} {v : Value} {m : MS} (h : Sl 3 1 v n (madeCells (Value.int .i64 0).cells (n * 1)).toList m) : NatS (List.replicate n 0) v m := by
  have e : (madeCells (Value.int .i64 0).cells (n * 1)).toList = List.replicate n (.int .i64 0) := by
    rw [Nat.mul_one]; exact toList_madeCells_one (.int .i64 0) n
  rw [e] at h
  unfold NatS
  rw [List.map_replicate, List.length_replicate]
  exact h
def kasV (p : List ByteArray) : Int := if isReg p then (if (blacksL p).length = (whitesL p).length then detM (kasM p) else 0) else 0
theorem take_more2 {α : Type} {l : List α} {k : Nat} {a : α} (h : l[k]? = some a) : l.take (k + 1) = l.take k ++ [a] := by
  obtain ⟨hk, he⟩ := List.getElem?_eq_some_iff.1 h
  rw [List.take_succ_eq_append_getElem hk, he]
theorem filt_more {l : List (Int × Int)} {k : Nat} {a : Int × Int} (h : l[k]? = some a) (f : Int × Int → Bool) : (l.take (k + 1)).filter f = (l.take k).filter f ++ (if f a then [a] else []) := by
  rw [take_more2 h, List.filter_append]
  cases hf : f a <;> simp [hf]
theorem kas_no {F : MS} {p : List ByteArray} {A : Option Addr} {c : Nat} {w : World} (hr : RdS F RT.str p (.slice A p.length c)) (hl : p.length ≤ 1000) (hs : ∀ s ∈ p, s.size ≤ 1000000) (hH : Has w F) (hq : isReg p = false) :
    Calls Tryd.prog 15 #[.slice A p.length c] w fun e w' => e = .returned (.tuple #[.int .i64 (kasV p), .int .i64 (cntE p)]) ∧ Kp w w' := by
  have Hof := hid (of_any hr hl hs hH)
  clear hl hs hr hH
  have hv : regV p A c = noReg := by unfold regV; rw [hq]; rfl
  rw [hq, hv] at Hof
  have HC := hid (show kasV p = 0 ∧ cntE p = 2 by unfold kasV cntE; rw [hq]; exact ⟨rfl, rfl⟩)
  clear hq hv
  go_enter Tryd.func15, Tryd.ntmps15
  go_wp2_with (first
    | (go_at_call 32; refine Hof.out.mono ?_; rintro e1 w1 ⟨rfl, k1⟩; have K1 := hid (k1.1 _ (Has.all w)); have E1 := hid k1.2; have KA := hid ((K1.out).alloc (.cells #[.int .i64 0, .int .i64 0, .slice none 0 0] 51)); have EA := hid (E1.out.trans (Ext.alloc _ (.cells #[.int .i64 0, .int .i64 0, .slice none 0 0] 51))); clear k1; unfold noReg)
    | (refine wpList_store_whole rfl (.tmp 4) (.tmp 20) 51 rfl 3 size51 w1.heap.size noReg rfl rfl rfl (by simp [noReg, Value.cells, Value.oneCell']) #[.int .i64 0, .int .i64 0, .slice none 0 0] 51 _ KA.out rfl ?_; intro w6 j1 j2; have HW6 := hid (show Has w6 (blk w1.heap.size #[.int .i64 0, .int .i64 0, .slice none 0 0] 51 + MS.all w) from j1); have HE6 := hid (EA.out.trans j2); clear j1 j2))
  go_ret2
  exact ⟨by rw [HC.out.1, HC.out.2]; rfl, fun M hM => hM.of_all HW6.out, HE6.out⟩
theorem kas_yes {F : MS} {p : List ByteArray} {A : Option Addr} {c : Nat} {w : World} (hr : RdS F RT.str p (.slice A p.length c)) (hl : p.length ≤ 1000) (hs : ∀ s ∈ p, s.size ≤ 1000000) (hf : FourOk F) (hH : Has w F) (hq : isReg p = true) :
    Calls Tryd.prog 15 #[.slice A p.length c] w fun e w' => e = .returned (.tuple #[.int .i64 (kasV p), .int .i64 (cntE p)]) ∧ Kp w w' := by
  have Hof := hid (of_any hr hl hs hH)
  have hv : regV p A c = rgV p A c := by unfold regV; rw [hq]; rfl
  rw [hq, hv] at Hof
  have hp := (isReg.ok hq).1
  have HC := hid (show kasV p = (if (blacksL p).length = (whitesL p).length then detM (kasM p) else 0) ∧ cntE p = 0 by unfold kasV cntE; rw [hq]; exact ⟨rfl, rfl⟩)
  have hra := rd_all_str hr hH
  have hfa := hf.all hH
  have Hcl := hid (fun (W : World) (hW : Has W (MS.all w)) => show Calls Tryd.prog 37 #[.agg #[.int .i64 (wd p), .int .i64 p.length, .slice A p.length c]] W fun e w' => ∃ v m, e = .returned v ∧ Cls (cellsL p) v m ∧ (∀ M, Has W M → Has w' (m + M)) ∧ Ext W w' from cells_any hra hp hW)
  have Hnb := hid (fun (W : World) (hW : Has W (MS.all w)) (qx qy : Int) (h1 : -1000 ≤ qx ∧ qx ≤ 1000) (h2 : -1000 ≤ qy ∧ qy ≤ 1000) => show Calls Tryd.prog 39 #[.agg #[.int .i64 (wd p), .int .i64 p.length, .slice A p.length c], .agg #[.int .i64 qx, .int .i64 qy]] W fun e w' => ∃ v m, e = .returned v ∧ Cls (nbrsL p (qx, qy)) v m ∧ (∀ M, Has W M → Has w' (m + M)) ∧ Ext W w' from nbrs_any hra hp hfa hW (qx, qy) h1 h2)
  have Hblk := hid (fun (qx qy : Int) (h1 : -1000 ≤ qx ∧ qx ≤ 1000) (h2 : -1000 ≤ qy ∧ qy ≤ 1000) (W : World) => show Calls Tryd.prog 38 #[.agg #[.int .i64 qx, .int .i64 qy]] W fun e w' => e = .returned (.bool (blackB (qx, qy))) ∧ Kp W w' from black_any (qx, qy) h1 h2 W)
  have hin := hid (fun q (h : q ∈ cellsL p) => show (0 ≤ q.1 ∧ q.1 ≤ 8) ∧ 0 ≤ q.2 ∧ q.2 ≤ 8 from by
    obtain ⟨h1, h2, h3, h4⟩ := hsI_in (mem_cells.1 h)
    have := hp.w8
    have := hp.h8
    omega)
  obtain ⟨L, hL⟩ : ∃ L, L = cellsL p := ⟨_, rfl⟩
  have HLb := hid (show L.filter blackB = blacksL p by rw [hL]; rfl)
  have HLw := hid (show (L.filter fun q => !blackB q) = whitesL p by rw [hL]; rfl)
  have hL64 : L.length ≤ 64 := by
    have h1 := cellsK_len p p.length
    have h2 : p.length * wd p ≤ 8 * 8 := Nat.mul_le_mul hp.h8 hp.w8
    rw [hL]
    exact Nat.le_trans h1 h2
  rw [← hL] at Hcl hin
  obtain ⟨nL, hnL⟩ : ∃ nL, nL = L.length := ⟨_, rfl⟩
  rw [← hnL] at hL64
  have HnL := hid hnL
  have hnLI : (nL : Int) ≤ 64 := by omega
  have HL64 := hid hL64
  unfold rgV at Hof
  generalize (wd p : Int) = WW at *
  generalize (p.length : Int) = HHI at *
  clear hq hv hr hl hs hf hH hp hra hfa hL hnL hL64
  go_enter Tryd.func15, Tryd.ntmps15
  go_wp2_with (first
    | (go_at_call 32; refine Hof.out.mono ?_; rintro e1 w1 ⟨rfl, k1⟩; have K1 := hid (k1.1 _ (Has.all w)); have E1 := hid k1.2; have KA := hid ((K1.out).alloc (.cells #[.int .i64 0, .int .i64 0, .slice none 0 0] 51)); have EA := hid (E1.out.trans (Ext.alloc _ (.cells #[.int .i64 0, .int .i64 0, .slice none 0 0] 51))); clear k1)
    | (refine wpList_store_whole rfl (.tmp 4) (.tmp 20) 51 rfl 3 size51 w1.heap.size (.agg #[.int .i64 WW, .int .i64 HHI, .slice A p.length c]) rfl rfl rfl (by simp [Value.cells, Value.oneCell']) #[.int .i64 0, .int .i64 0, .slice none 0 0] 51 _ KA.out rfl ?_; intro w6 j1 j2; have HW6 := hid (show Has w6 (blk w1.heap.size #[.int .i64 WW, .int .i64 HHI, .slice A p.length c] 51 + MS.all w) from j1); have HE6 := hid (EA.out.trans j2); have r0 := HW6.out.at_ (i := 0) rfl; have r1 := HW6.out.at_ (i := 1) rfl; have r2 := HW6.out.at_ (i := 2) rfl; clear j1 j2)
    | (go_at_call 37; refine (Hcl.out w6 HW6.out.right).mono ?_; rintro e7 w7 ⟨vC, mC, rfl, hC, k7, l7⟩; obtain ⟨AC, cC, rfl, _⟩ := SlR.form hC; rw [← HnL.out] at hC ⊢; have HC7 := hid hC; have HW7 := hid (k7 _ HW6.out); have HE7 := hid (HE6.out.trans l7); clear hC k7 l7))
  clear r0 r1 r2
  go_loopw [6, 7, 27] (fun v6 v7 v27 wr => ∃ (k : Nat) (mb mw : MS), k ≤ nL ∧ v27 = .int .i64 k ∧ Cls ((L.take k).filter blackB) v6 mb ∧ Cls ((L.take k).filter fun q => !blackB q) v7 mw ∧ Has wr (mb + (mw + (mC + (blk w1.heap.size #[.int .i64 WW, .int .i64 HHI, .slice A p.length c] 51 + MS.all w)))) ∧ Ext w wr) (fun _ _ v _ => nL - (intOf v).toNat)
  case atStart => exact ⟨0, 0, 0, Nat.zero_le _, rfl, Cls.nil, Cls.nil, by rw [MS.zero_add, MS.zero_add]; exact HW7.out, HE7.out⟩
  case round =>
    obtain ⟨k, mb, mw, hk, rfl, hcb, hcw, hW, hE⟩ := hrel
    obtain ⟨A6, c6, rfl, _⟩ := SlR.form hcb
    obtain ⟨A7, c7, rfl, _⟩ := SlR.form hcw
    obtain ⟨nb, hnb⟩ : ∃ nb, nb = ((L.take k).filter blackB).length := ⟨_, rfl⟩
    obtain ⟨nw, hnw⟩ : ∃ nw, nw = ((L.take k).filter fun q => !blackB q).length := ⟨_, rfl⟩
    have hnb64 : nb ≤ 64 := by
      have h1 := List.length_filter_le blackB (L.take k)
      have h2 := List.length_take_le k L
      have := HL64.out
      omega
    have hnw64 : nw ≤ 64 := by
      have h1 := List.length_filter_le (fun q => !blackB q) (L.take k)
      have h2 := List.length_take_le k L
      have := HL64.out
      omega
    rw [← hnb, ← hnw]
    rw [← hnb] at hcb
    rw [← hnw] at hcw
    have Hnb2 := hid hnb
    have Hnw2 := hid hnw
    have Hcb := hid hcb
    have Hcw := hid hcw
    have HW := hid hW
    have HE := hid hE
    clear hcb hcw hW hE hnb hnw
    by_cases hlt : k < nL
    · have hltI : (k : Int) < nL := by omega
      obtain ⟨q, hq⟩ : ∃ q, L[k]? = some q := ⟨_, List.getElem?_eq_getElem (by rw [← HnL.out]; exact hlt)⟩
      obtain ⟨hb1, hb2⟩ := hin.out q (List.mem_of_getElem? hq)
      obtain ⟨qx, qy⟩ := q
      simp only at hb1 hb2
      obtain ⟨bC, oC, hA, z0, z1⟩ := HC7.out.rd.getCl hq
      subst hA
      have y0 := z0.c0 HW.out.right.right.left
      have y1 := z1.c0 HW.out.right.right.left
      simp only at y0 y1
      have hmb := hid (filt_more hq blackB)
      have hmw := hid (filt_more hq fun q => !blackB q)
      have hcall := hid (Hblk.out qx qy (by omega) (by omega))
      have Hlt := hid hlt
      have hkC : nL ≤ cC := by
        obtain ⟨_, _, e, _, h, _⟩ := SlR.form HC7.out
        injection e with e1 e2 e3
        have := HnL.out
        omega
      clear hlt hk hq z0 z1
      cases hbq : blackB (qx, qy) with
      | true =>
        rw [hbq] at hcall
        simp only [hbq, if_true] at hmb
        simp only [hbq, Bool.not_true, Bool.false_eq_true, if_false, List.append_nil] at hmw
        clear hbq
        go_wp2_with (first
          | (go_at_call 38; refine (hcall.out w5).mono ?_; rintro e8 w8 ⟨rfl, k8⟩; have HW8 := hid (k8.1 _ HW5.out); have HE8 := hid (HE5.out.trans k8.2); have t0 := HW8.out.at_ (i := 0) rfl; have t1 := HW8.out.at_ (i := 1) rfl; clear k8 q0 q1)
          | (refine wpList_store_whole rfl (.tmp 9) (.tmp 30) 66 rfl 2 size66 wr.heap.size (.agg #[.int .i64 qx, .int .i64 qy]) rfl rfl rfl (by simp [Value.cells, Value.oneCell']) #[.int .i64 0, .int .i64 0] 66 _ (HW.out.alloc (.cells #[.int .i64 0, .int .i64 0] 66)) rfl ?_; intro w5 j1 j2; have HW5 := hid (show Has w5 (blk wr.heap.size #[.int .i64 qx, .int .i64 qy] 66 + (mb + (mw + (mC + (blk w1.heap.size #[.int .i64 WW, .int .i64 HHI, .slice A p.length c] 51 + MS.all w))))) from j1); have HE5 := hid ((HE.out.trans (Ext.alloc _ _)).trans j2); have q0 := HW5.out.at_ (i := 0) rfl; have q1 := HW5.out.at_ (i := 1) rfl; clear j1 j2)
          | (at_builtin; refine wpList_push rfl (.tmp 33) (.tmp 35) row29 rfl (.slice A6 nb c6) rfl _ rfl (by simp) ClR ClR.one ClR.len _ ((qx, qy) : Int × Int) mb 0 (blk wr.heap.size #[.int .i64 qx, .int .i64 qy] 66 + (mw + (mC + (blk w1.heap.size #[.int .i64 WW, .int .i64 HHI, .slice A p.length c] 51 + MS.all w)))) Hcb.out ⟨rfl, rfl⟩ (HW8.out.eq (by rw [MS.zero_add]; ac_rfl)) nb Hnb2.out.symm (by omega) (by omega) ?_; intro A9 c9 w9 m9 j4 j5 j6; have J4 := hid j4; have J5 := hid j5; have J6 := hid (HE8.out.trans j6); clear j4 j5 j6))
        go_roundw
        case rel => exact ⟨k + 1, m9, mw, Hlt.out, by go_num, by rw [hmb.out]; exact J4.out, by rw [hmw.out]; exact Hcw.out, J5.out.eq (b := m9 + (mw + (mC + (blk w1.heap.size #[.int .i64 WW, .int .i64 HHI, .slice A p.length c] 51 + MS.all w))) + blk wr.heap.size #[.int .i64 qx, .int .i64 qy] 66) (by ac_rfl) |>.left, J6.out⟩
        case measure => have := Hlt.out; simp [intOf]; omega
      | false =>
        rw [hbq] at hcall
        simp only [hbq, Bool.false_eq_true, if_false, List.append_nil] at hmb
        simp only [hbq, Bool.not_false, if_true] at hmw
        clear hbq
        go_wp2_with (first
          | (go_at_call 38; refine (hcall.out w5).mono ?_; rintro e8 w8 ⟨rfl, k8⟩; have HW8 := hid (k8.1 _ HW5.out); have HE8 := hid (HE5.out.trans k8.2); have t0 := HW8.out.at_ (i := 0) rfl; have t1 := HW8.out.at_ (i := 1) rfl; clear k8 q0 q1)
          | (refine wpList_store_whole rfl (.tmp 9) (.tmp 30) 66 rfl 2 size66 wr.heap.size (.agg #[.int .i64 qx, .int .i64 qy]) rfl rfl rfl (by simp [Value.cells, Value.oneCell']) #[.int .i64 0, .int .i64 0] 66 _ (HW.out.alloc (.cells #[.int .i64 0, .int .i64 0] 66)) rfl ?_; intro w5 j1 j2; have HW5 := hid (show Has w5 (blk wr.heap.size #[.int .i64 qx, .int .i64 qy] 66 + (mb + (mw + (mC + (blk w1.heap.size #[.int .i64 WW, .int .i64 HHI, .slice A p.length c] 51 + MS.all w))))) from j1); have HE5 := hid ((HE.out.trans (Ext.alloc _ _)).trans j2); have q0 := HW5.out.at_ (i := 0) rfl; have q1 := HW5.out.at_ (i := 1) rfl; clear j1 j2)
          | (at_builtin; refine wpList_push rfl (.tmp 37) (.tmp 39) row29 rfl (.slice A7 nw c7) rfl _ rfl (by simp) ClR ClR.one ClR.len _ ((qx, qy) : Int × Int) mw 0 (blk wr.heap.size #[.int .i64 qx, .int .i64 qy] 66 + (mb + (mC + (blk w1.heap.size #[.int .i64 WW, .int .i64 HHI, .slice A p.length c] 51 + MS.all w)))) Hcw.out ⟨rfl, rfl⟩ (HW8.out.eq (by rw [MS.zero_add]; ac_rfl)) nw Hnw2.out.symm (by omega) (by omega) ?_; intro A9 c9 w9 m9 j4 j5 j6; have J4 := hid j4; have J5 := hid j5; have J6 := hid (HE8.out.trans j6); clear j4 j5 j6))
        go_roundw
        case rel => exact ⟨k + 1, mb, m9, Hlt.out, by go_num, by rw [hmb.out]; exact Hcb.out, by rw [hmw.out]; exact J4.out, J5.out.eq (b := mb + (m9 + (mC + (blk w1.heap.size #[.int .i64 WW, .int .i64 HHI, .slice A p.length c] 51 + MS.all w))) + blk wr.heap.size #[.int .i64 qx, .int .i64 qy] 66) (by ac_rfl) |>.left, J6.out⟩
        case measure => have := Hlt.out; simp [intOf]; omega
    · have hke : k = nL := by omega
      subst hke
      have htk : L.take k = L := by rw [HnL.out, List.take_length]
      rw [htk, HLb.out] at Hcb
      rw [htk, HLw.out] at Hcw
      rw [htk, HLb.out] at Hnb2
      rw [htk, HLw.out] at Hnw2
      clear hlt hk htk
      by_cases hne : nb = nw
      · subst hne
        have Hfin := hid (show kasV p = detM (kasM p) by rw [HC.out.1, if_pos (by rw [← Hnb2.out, ← Hnw2.out])])
        have HW1 := hid (show Has wr (mb + (mw + (blk w1.heap.size #[.int .i64 WW, .int .i64 HHI, .slice A p.length c] 51 + MS.all w))) from HW.out.eq (b := mb + (mw + (blk w1.heap.size #[.int .i64 WW, .int .i64 HHI, .slice A p.length c] 51 + MS.all w)) + mC) (by ac_rfl) |>.left)
        have KeepR := hid (show ∀ W X, Has W (X + (blk w1.heap.size #[.int .i64 WW, .int .i64 HHI, .slice A p.length c] 51 + MS.all w)) → (W.cell? ⟨w1.heap.size, 0, none⟩ = some (.int .i64 WW) ∧ W.cell? ⟨w1.heap.size, 1, none⟩ = some (.int .i64 HHI) ∧ W.cell? ⟨w1.heap.size, 2, none⟩ = some (.slice A p.length c)) from fun W X h => ⟨h.right.at_ rfl, h.right.at_ rfl, h.right.at_ rfl⟩)
        have Hix := hid (fun (W : World) (hW : Has W mw) (ax ay : Int) => show Calls Tryd.prog 40 #[.slice A7 nb c7, .agg #[.int .i64 ax, .int .i64 ay]] W fun e w' => e = .returned (.int .i64 (idxC (whitesL p) (ax, ay))) ∧ Kp W w' from by
          have h := Hcw.out.rd
          rw [Hnw2.out] at h ⊢
          exact cindex_any h (by rw [← Hnw2.out]; omega) hW (ax, ay))
        have hbin := hid (fun q (h : q ∈ blacksL p) => show q ∈ L by rw [← HLb.out] at h; exact (List.mem_filter.1 h).1)
        have hcb6 : nb ≤ c6 := by
          obtain ⟨_, _, e, _, h, _⟩ := SlR.form Hcb.out
          injection e with e1 e2 e3
          omega
        go_wp2
        go_loopw [10, 49] (fun v10 v49 wr => ∃ (k : Nat) (mM : MS), k ≤ nb ∧ v49 = .int .i64 k ∧ (k = 0 → v10 = .slice none 0 0) ∧ SlR 69 1 (El NatS) (((blacksL p).take k).map (kRow p)) v10 mM ∧ Has wr (mM + (mb + (mw + (blk w1.heap.size #[.int .i64 WW, .int .i64 HHI, .slice A p.length c] 51 + MS.all w)))) ∧ Ext w wr) (fun _ v _ => nb - (intOf v).toNat)
        case atStart => exact ⟨0, 0, Nat.zero_le _, rfl, fun _ => rfl, ⟨[], 0, 0, Sl.nil 69 1, RowsR.nil, (MS.zero_add _).symm⟩, by rw [MS.zero_add]; exact HW1.out, HE.out⟩
        case round =>
          obtain ⟨k, mM, hk, rfl, hz, hM, hWm, hEm⟩ := hrel
          obtain ⟨A10, c10, rfl, _⟩ := SlR.form hM
          have hkl : (((blacksL p).take k).map (kRow p)).length = k := by rw [List.length_map, List.length_take]; have := Hnb2.out; omega
          have Hkl := hid hkl
          rw [hkl] at hM hz ⊢
          have HM := hid hM
          have HWm := hid hWm
          have HE := hid hEm
          have Hz := hid hz
          clear hM hWm hEm hz hkl
          by_cases hlt : k < nb
          · have hltI : (k : Int) < nb := by omega
            obtain ⟨q, hq⟩ : ∃ q, (blacksL p)[k]? = some q := ⟨_, List.getElem?_eq_getElem (by rw [← Hnb2.out]; exact hlt)⟩
            have hqm := List.mem_of_getElem? hq
            obtain ⟨hb1, hb2⟩ := hin.out q (hbin.out q hqm)
            obtain ⟨qx, qy⟩ := q
            simp only at hb1 hb2
            have Hqm := hid hqm
            obtain ⟨bB, oB, hA, z0, z1⟩ := Hcb.out.rd.getCl hq
            subst hA
            have y0 := z0.c0 HWm.out.right.left
            have y1 := z1.c0 HWm.out.right.left
            simp only at y0 y1
            have Htk := hid (show ((blacksL p).take (k + 1)).map (kRow p) = ((blacksL p).take k).map (kRow p) ++ [kRow p (qx, qy)] by rw [take_more2 hq, List.map_append]; rfl)
            have Hlt := hid hlt
            obtain ⟨b12, hb12⟩ : ∃ b12, b12 = wr.heap.size := ⟨_, rfl⟩
            have HA5 := hid (show Has (wr.alloc (.cells #[.int .i64 0, .int .i64 0] 66)) (blk b12 #[.int .i64 0, .int .i64 0] 66 + (mM + (mb + (mw + (blk w1.heap.size #[.int .i64 WW, .int .i64 HHI, .slice A p.length c] 51 + MS.all w))))) by rw [hb12]; exact HWm.out.alloc _)
            have Hb12 := hid hb12
            have Hnbr := hid (fun (W : World) (hW : Has W (MS.all w)) => Hnb.out W hW qx qy (by omega) (by omega))
            have hn1 : 0 < nb := by omega
            clear hlt hk hq z0 z1 hqm hb12
            go_wp2_with (first
              | (rw [← Hb12.out]; refine wpList_store_whole rfl (.tmp 12) (.tmp 52) 66 rfl 2 size66 b12 (.agg #[.int .i64 qx, .int .i64 qy]) rfl rfl rfl (by simp [Value.cells, Value.oneCell']) #[.int .i64 0, .int .i64 0] 66 _ (HA5.out) rfl ?_; intro w5 j1 j2; have HW5 := hid (show Has w5 (blk b12 #[.int .i64 qx, .int .i64 qy] 66 + (mM + (mb + (mw + (blk w1.heap.size #[.int .i64 WW, .int .i64 HHI, .slice A p.length c] 51 + MS.all w))))) from j1); have HE5 := hid ((HE.out.trans (Ext.alloc _ _)).trans j2); have q0 := HW5.out.at_ (i := 0) rfl; have q1 := HW5.out.at_ (i := 1) rfl; clear j1 j2)
              | (refine wpList_make_sl rfl (.tmp 54) (.tmp 54) 69 rfl 3 (.int .i64 0) 1 8 Tryd.underlying69 info3 .i64 .i64 nb rfl rfl (by omega) (by simp only [maxLen]; omega) _ HW5.out ?_; intro v6 w8 m6 j1 j2 j3 j4; have HR0 := hid (nat_made j1); obtain ⟨bR, oR, cR, curR, rfl, rfl, hcR, _, _⟩ := Sl.at_ j1 hn1; have HW8 := hid j2; have HE8 := hid (HE5.out.trans j3); obtain ⟨r0, r1, r2⟩ := KeepR.out w8 (blk bR curR 3 + (blk b12 #[.int .i64 qx, .int .i64 qy] 66 + (mM + (mb + mw)))) (HW8.out.eq (by ac_rfl)); have t0 := HW8.out.right.at_ (i := 0) rfl; have t1 := HW8.out.right.at_ (i := 1) rfl; clear j1 j2 j3 j4 q0 q1)
              | (go_at_call 39; refine (Hnbr.out w8 HW8.out.right.right.right.right.right.right).mono ?_; rintro e9 w9 ⟨vN, mN, rfl, hN, k9, l9⟩; obtain ⟨AN, cN, rfl, _⟩ := SlR.form hN; have HN9 := hid hN; have HW9 := hid (k9 _ HW8.out); have HE9 := hid (HE8.out.trans l9); clear hN k9 l9))
            obtain ⟨nN, hnN⟩ : ∃ nN, nN = (nbrsL p (qx, qy)).length := ⟨_, rfl⟩
            have hnN4 : nN ≤ 4 := by rw [hnN]; exact nbrsK_len p (qx, qy) 4
            rw [← hnN]
            rw [← hnN] at HN9
            have HnN := hid hnN
            have hnc : nN ≤ cN := by
              obtain ⟨_, _, e, _, h, _⟩ := SlR.form HN9.out
              injection e with e1 e2 e3
              omega
            clear hnN r0 r1 r2 t0 t1
            go_loopw [60] (fun v60 wr => ∃ (j : Nat) (cur3 : Array Value), j ≤ nN ∧ v60 = .int .i64 j ∧ NatS (kRowK p (qx, qy) j) (.slice (some ⟨bR, oR, none⟩) nb cR) (blk bR cur3 3) ∧ Has wr (blk bR cur3 3 + (mN + (blk b12 #[.int .i64 qx, .int .i64 qy] 66 + (mM + (mb + (mw + (blk w1.heap.size #[.int .i64 WW, .int .i64 HHI, .slice A p.length c] 51 + MS.all w))))))) ∧ Ext w wr) (fun v _ => nN - (intOf v).toNat)
            case atStart => exact ⟨0, curR, Nat.zero_le _, rfl, by
              unfold kRowK
              rw [List.take_zero, ← Hnw2.out]
              exact HR0.out, HW9.out.eq (by ac_rfl), HE9.out⟩
            case round =>
              obtain ⟨j, cur3, hj, rfl, hs3, hWj, hEj⟩ := hrel
              have Hs3 := hid hs3
              have HWj := hid hWj
              have HE := hid hEj
              clear hs3 hWj hEj
              by_cases hjl : j < nN
              · have hjI : (j : Int) < nN := by omega
                obtain ⟨a, ha⟩ : ∃ a, (nbrsL p (qx, qy))[j]? = some a := ⟨_, List.getElem?_eq_getElem (by rw [← HnN.out]; exact hjl)⟩
                obtain ⟨ix, hixl, hix, _⟩ := idxC_mem (white_nbr Hqm.out (List.mem_of_getElem? ha))
                have hsucc := kRowK_succ ha
                obtain ⟨ax, ay⟩ := a
                obtain ⟨bN, oN, hA, z0, z1⟩ := HN9.out.rd.getCl ha
                subst hA
                have y0 := z0.c0 HWj.out.right.left
                have y1 := z1.c0 HWj.out.right.left
                simp only at y0 y1
                rw [hix, Int.toNat_natCast] at hsucc
                rw [← Hnw2.out] at hixl
                obtain ⟨x0, hx0⟩ : ∃ x0, (kRowK p (qx, qy) j)[ix]? = some x0 := ⟨_, List.getElem?_eq_getElem (by rw [kRowK_len, ← Hnw2.out]; exact hixl)⟩
                have hidx := hid (fun (W : World) (hW : Has W mw) => show Calls Tryd.prog 40 #[.slice A7 nb c7, .agg #[.int .i64 ax, .int .i64 ay]] W fun e w' => e = .returned (.int .i64 (ix : Int)) ∧ Kp W w' from by rw [← hix]; exact Hix.out W hW ax ay)
                have Hcell := hid (Hs3.out.cell hx0)
                have Hput := hid (fun y => Hs3.out.put hx0 y)
                have Hsucc := hid hsucc
                have Hjl := hid hjl
                have hixI : (ix : Int) < nb := by omega
                have u0 := HWj.out.right.right.at_ (i := 0) rfl
                have u1 := HWj.out.right.right.at_ (i := 1) rfl
                have HA6 := hid (HWj.out.alloc (.cells #[.int .i64 0, .int .i64 0] 66))
                clear ha z0 z1 hjl hj hx0 hsucc hix hixl
                by_cases hxx : ax = qx
                · subst hxx
                  by_cases hod : ax % 2 = 0
                  · have hm2 : ax.tmod 2 = 0 := by rw [Int.tmod_eq_emod_of_nonneg hb1.1]; exact hod
                    have Hsg := hid (show sgnN (ax, qy) (ax, ay) = 1 by unfold sgnN; rw [if_neg (by simp only; omega)])
                    clear hod
                    go_wp2_with (first
                      | (refine wpList_store_whole rfl (.tmp 15) (.tmp 63) 66 rfl 2 size66 wr.heap.size (.agg #[.int .i64 ax, .int .i64 ay]) rfl rfl rfl (by simp [Value.cells, Value.oneCell']) #[.int .i64 0, .int .i64 0] 66 _ HA6.out rfl ?_; intro w6 j1 j2; have H6 := hid (show Has w6 (blk wr.heap.size #[.int .i64 ax, .int .i64 ay] 66 + _) from j1); have E6 := hid ((HE.out.trans (Ext.alloc _ _)).trans j2); have q0 := H6.out.at_ (i := 0) rfl; have q1 := H6.out.at_ (i := 1) rfl; have p0 := H6.out.right.right.right.at_ (i := 0) rfl; have p1 := H6.out.right.right.right.at_ (i := 1) rfl; clear j1 j2)
                      | (go_at_call 40; refine (hidx.out w6 H6.out.right.right.right.right.right.right.left).mono ?_; rintro e7 w7 ⟨rfl, k7⟩; have H7 := hid (k7.1 _ H6.out); have E7 := hid (E6.out.trans k7.2); clear k7)
                      | (refine wpList_store_blk rfl (.tmp 80) (.tmp 79) 3 rfl size3 bR (oR + ix) (.int .i64 1) rfl rfl rfl cur3 3 (mN + (blk b12 #[.int .i64 ax, .int .i64 qy] 66 + (mM + (mb + (mw + (blk w1.heap.size #[.int .i64 WW, .int .i64 HHI, .slice A p.length c] 51 + MS.all w))))) + blk wr.heap.size #[.int .i64 ax, .int .i64 ay] 66) (H7.out.eq (by ac_rfl)) (arr_lt Hcell.out) ?_; intro w8 k1 k2; have H8 := hid k1; have E8 := hid (E7.out.trans k2); clear k1 k2))
                    go_roundw
                    case rel => exact ⟨j + 1, _, Hjl.out, by go_num, by
                      rw [Hsucc.out, Hsg.out]
                      have h := Hput.out 1
                      rw [show ((1 : Nat) : Int) = 1 from rfl] at h
                      exact h, H8.out.eq (b := blk bR (cur3.setIfInBounds (oR + ix) (.int .i64 1)) 3 + (mN + (blk b12 #[.int .i64 ax, .int .i64 qy] 66 + (mM + (mb + (mw + (blk w1.heap.size #[.int .i64 WW, .int .i64 HHI, .slice A p.length c] 51 + MS.all w)))))) + blk wr.heap.size #[.int .i64 ax, .int .i64 ay] 66) (by ac_rfl) |>.left, E8.out⟩
                    case measure => have := Hjl.out; simp [intOf]; omega
                  · have hm2 : ax.tmod 2 = 1 := by rw [Int.tmod_eq_emod_of_nonneg hb1.1]; omega
                    have Hsg := hid (show sgnN (ax, qy) (ax, ay) = 2147483646 by unfold sgnN; rw [if_pos ⟨rfl, by simp only; omega⟩]; rfl)
                    clear hod
                    go_wp2_with (first
                      | (refine wpList_store_whole rfl (.tmp 15) (.tmp 63) 66 rfl 2 size66 wr.heap.size (.agg #[.int .i64 ax, .int .i64 ay]) rfl rfl rfl (by simp [Value.cells, Value.oneCell']) #[.int .i64 0, .int .i64 0] 66 _ HA6.out rfl ?_; intro w6 j1 j2; have H6 := hid (show Has w6 (blk wr.heap.size #[.int .i64 ax, .int .i64 ay] 66 + _) from j1); have E6 := hid ((HE.out.trans (Ext.alloc _ _)).trans j2); have q0 := H6.out.at_ (i := 0) rfl; have q1 := H6.out.at_ (i := 1) rfl; have p0 := H6.out.right.right.right.at_ (i := 0) rfl; have p1 := H6.out.right.right.right.at_ (i := 1) rfl; clear j1 j2)
                      | (go_at_call 40; refine (hidx.out w6 H6.out.right.right.right.right.right.right.left).mono ?_; rintro e7 w7 ⟨rfl, k7⟩; have H7 := hid (k7.1 _ H6.out); have E7 := hid (E6.out.trans k7.2); clear k7)
                      | (refine wpList_store_blk rfl (.tmp 80) (.tmp 79) 3 rfl size3 bR (oR + ix) (.int .i64 2147483646) rfl rfl rfl cur3 3 (mN + (blk b12 #[.int .i64 ax, .int .i64 qy] 66 + (mM + (mb + (mw + (blk w1.heap.size #[.int .i64 WW, .int .i64 HHI, .slice A p.length c] 51 + MS.all w))))) + blk wr.heap.size #[.int .i64 ax, .int .i64 ay] 66) (H7.out.eq (by ac_rfl)) (arr_lt Hcell.out) ?_; intro w8 k1 k2; have H8 := hid k1; have E8 := hid (E7.out.trans k2); clear k1 k2))
                    go_roundw
                    case rel => exact ⟨j + 1, _, Hjl.out, by go_num, by
                      rw [Hsucc.out, Hsg.out]
                      have h := Hput.out 2147483646
                      rw [show ((2147483646 : Nat) : Int) = 2147483646 from rfl] at h
                      exact h, H8.out.eq (b := blk bR (cur3.setIfInBounds (oR + ix) (.int .i64 2147483646)) 3 + (mN + (blk b12 #[.int .i64 ax, .int .i64 qy] 66 + (mM + (mb + (mw + (blk w1.heap.size #[.int .i64 WW, .int .i64 HHI, .slice A p.length c] 51 + MS.all w)))))) + blk wr.heap.size #[.int .i64 ax, .int .i64 ay] 66) (by ac_rfl) |>.left, E8.out⟩
                    case measure => have := Hjl.out; simp [intOf]; omega
                · have Hsg := hid (show sgnN (qx, qy) (ax, ay) = 1 by unfold sgnN; rw [if_neg (by simp only; exact fun h => hxx h.1)])
                  go_wp2_with (first
                    | (refine wpList_store_whole rfl (.tmp 15) (.tmp 63) 66 rfl 2 size66 wr.heap.size (.agg #[.int .i64 ax, .int .i64 ay]) rfl rfl rfl (by simp [Value.cells, Value.oneCell']) #[.int .i64 0, .int .i64 0] 66 _ HA6.out rfl ?_; intro w6 j1 j2; have H6 := hid (show Has w6 (blk wr.heap.size #[.int .i64 ax, .int .i64 ay] 66 + _) from j1); have E6 := hid ((HE.out.trans (Ext.alloc _ _)).trans j2); have q0 := H6.out.at_ (i := 0) rfl; have q1 := H6.out.at_ (i := 1) rfl; have p0 := H6.out.right.right.right.at_ (i := 0) rfl; have p1 := H6.out.right.right.right.at_ (i := 1) rfl; clear j1 j2)
                    | (go_at_call 40; refine (hidx.out w6 H6.out.right.right.right.right.right.right.left).mono ?_; rintro e7 w7 ⟨rfl, k7⟩; have H7 := hid (k7.1 _ H6.out); have E7 := hid (E6.out.trans k7.2); clear k7)
                    | (refine wpList_store_blk rfl (.tmp 80) (.tmp 79) 3 rfl size3 bR (oR + ix) (.int .i64 1) rfl rfl rfl cur3 3 (mN + (blk b12 #[.int .i64 qx, .int .i64 qy] 66 + (mM + (mb + (mw + (blk w1.heap.size #[.int .i64 WW, .int .i64 HHI, .slice A p.length c] 51 + MS.all w))))) + blk wr.heap.size #[.int .i64 ax, .int .i64 ay] 66) (H7.out.eq (by ac_rfl)) (arr_lt Hcell.out) ?_; intro w8 k1 k2; have H8 := hid k1; have E8 := hid (E7.out.trans k2); clear k1 k2))
                  go_roundw
                  case rel => exact ⟨j + 1, _, Hjl.out, by go_num, by
                    rw [Hsucc.out, Hsg.out]
                    have h := Hput.out 1
                    rw [show ((1 : Nat) : Int) = 1 from rfl] at h
                    exact h, H8.out.eq (b := blk bR (cur3.setIfInBounds (oR + ix) (.int .i64 1)) 3 + (mN + (blk b12 #[.int .i64 qx, .int .i64 qy] 66 + (mM + (mb + (mw + (blk w1.heap.size #[.int .i64 WW, .int .i64 HHI, .slice A p.length c] 51 + MS.all w)))))) + blk wr.heap.size #[.int .i64 ax, .int .i64 ay] 66) (by ac_rfl) |>.left, E8.out⟩
                  case measure => have := Hjl.out; simp [intOf]; omega
              · have hje : j = nN := by omega
                subst hje
                clear hjl hj
                have hrow : kRowK p (qx, qy) j = kRow p (qx, qy) := by rw [HnN.out]; exact kRowK_end p (qx, qy)
                rw [hrow] at Hs3
                clear hrow
                go_wp2_with (at_builtin; refine wpList_push rfl (.tmp 82) (.tmp 84) row68 rfl (.slice A10 k c10) rfl _ rfl (by simp) (El NatS) El.one El.len _ (kRow p (qx, qy)) mM (blk bR cur3 3) (mN + (blk b12 #[.int .i64 qx, .int .i64 qy] 66 + (mb + (mw + (blk w1.heap.size #[.int .i64 WW, .int .i64 HHI, .slice A p.length c] 51 + MS.all w))))) HM.out ⟨_, rfl, Hs3.out, rfl⟩ (HWj.out.eq (by ac_rfl)) k Hkl.out (by omega) (by omega) ?_; intro A9 c9 w11 m9 j4 j5 j6; have J4 := hid j4; have J5 := hid j5; have J6 := hid (HE.out.trans j6); clear j4 j5 j6)
                go_roundw
                case rel => exact ⟨k + 1, m9, Hlt.out, by go_num, fun h => by omega, by rw [Htk.out]; exact J4.out, J5.out.eq (b := m9 + (mb + (mw + (blk w1.heap.size #[.int .i64 WW, .int .i64 HHI, .slice A p.length c] 51 + MS.all w))) + (mN + blk b12 #[.int .i64 qx, .int .i64 qy] 66)) (by ac_rfl) |>.left, J6.out⟩
                case measure => have := Hlt.out; simp [intOf]; omega
          · have hke : k = nb := by omega
            subst hke
            have htk : ((blacksL p).take k).map (kRow p) = kasM p := by
              unfold kasM
              rw [Hnb2.out, List.take_length]
            rw [htk] at HM
            have Hdet := hid (show Calls Tryd.prog 41 #[.slice A10 k c10] wr fun e w' => e = .returned (.int .i64 (detM (kasM p))) ∧ Has w' (MS.all w) ∧ Ext wr w' from by
              by_cases h0 : k = 0
              · rw [Hz.out h0]
                have hl0 : kasM p = [] := List.eq_nil_of_length_eq_zero (by unfold kasM; rw [List.length_map, ← Hnb2.out]; exact h0)
                rw [hl0]
                refine (det_nil wr).mono ?_
                rintro e w' ⟨rfl, rfl⟩
                exact ⟨rfl, HWm.out.right.right.right.right, Ext.refl _⟩
              · have hMN := kasM_ok Hnb2.out.symm Hnw2.out.symm
                obtain ⟨b, off, c', cur, ms, hv, hc', rfl, hmat⟩ := mat_of HM.out (by rw [hMN.len]; omega)
                rw [hMN.len] at hc' hmat
                rw [hv, hMN.len]
                refine (det_any (by omega) (by omega) hc' hmat hMN (HWm.out.eq (b := blk b cur 69 + (sumMS ms + (mb + (mw + (blk w1.heap.size #[.int .i64 WW, .int .i64 HHI, .slice A p.length c] 51 + MS.all w))))) (by ac_rfl))).mono ?_
                rintro e w' ⟨rfl, h1, h2⟩
                exact ⟨rfl, h1.right.right.right, h2⟩)
            clear hlt hk htk
            go_wp2_with (go_at_call 41; refine Hdet.out.mono ?_; rintro e9 w9 ⟨rfl, h1, h2⟩; have H9 := hid h1; have E9 := hid (HE.out.trans h2); clear h1 h2)
            go_ret2
            exact ⟨by rw [Hfin.out, HC.out.2]; rfl, fun M hM => hM.of_all (X := 0) (by rw [MS.zero_add]; exact H9.out), E9.out⟩
      · have hneI : ¬ ((nb : Int) = nw) := by omega
        have hneB : ((nb : Int) != nw) = true := by rw [bne_iff_ne]; exact hneI
        have HC0 := hid (show kasV p = 0 by rw [HC.out.1, ← Hnb2.out, ← Hnw2.out, if_neg hne])
        clear hne
        go_wp2
        go_ret2
        exact ⟨by rw [HC0.out, HC.out.2]; rfl, fun M hM => hM.of_all (HW.out.right.right.right), HE.out⟩
end Go.Proofs.YtcdhimnmbpllgaaDoor

/-
  The walk of determinant (printed by gen_det.py).
-/
import Derived.Test.YtcdhimnmbpllgaaDoorDK3
import Derived.Test.YtcdhimnmbpllgaaDoorDMap
import Derived.Test.YtcdhimnmbpllgaaDoorDraw
namespace Go.Proofs.YtcdhimnmbpllgaaDoor
open Go.RowKit
set_option linter.unusedVariables false
set_option linter.unusedSimpArgs false
set_option maxHeartbeats 4000000
set_option maxRecDepth 100000

theorem size69 : (Tryd.prog.info? 69).map (·.size) = some 1 := by kernel_rfl
theorem size3 : (Tryd.prog.info? 3).map (·.size) = some 1 := by kernel_rfl
theorem slice68 {b off n c i : Nat} {lo : Int} (w : World) (hlo : lo = i) (h : i ≤ n) (h2 : n ≤ c) :
    (Instr.sliceAt 68 (.slice (some ⟨b, off, none⟩) n c) (some (.int .i64 lo)) none none).run Tryd.prog w = .ok (.slice (some ⟨b, if c = i then off else off + i, none⟩) (n - i) (c - i)) w := by
  subst hlo
  obtain ⟨q, hi, hz'⟩ := Option.map_eq_some_iff.1 size69
  have hs : (sizeOf 69).run Tryd.prog w = .ok 1 w := by simp [sizeOf, typeInfo, hi, hz']
  have h3 : ¬ (n < i) := by omega
  by_cases hc : c = i
  · subst hc
    have : n = c := by omega
    subst this
    simp [Instr.sliceAt, run_underlying Tryd.underlying68, Instr.slice, Instr.sliceBounds, Instr.sliceBound, hs, asIntOf]
  · simp [Instr.sliceAt, run_underlying Tryd.underlying68, Instr.slice, Instr.sliceBounds, Instr.sliceBound, hs, asIntOf, hc, Addr.add, h, h3, show (i : Int) ≤ n by omega, show ¬ (c - i = 0) by omega]
theorem ex_slice68 {a : Act} {o : Oper} {x lo : Operand} {v : Value} {W : World} (ho : o.op = .slice 68 x (some lo) none none) (h : (Instr.sliceAt 68 (a.eval x) (some (a.eval lo)) none none).run Tryd.prog W = .ok v W) : (execOp a.eval o).run Tryd.prog W = .ok (.value v) W := by
  simp only [execOp, ho, Option.map, Sem.run_bind, h, Result.andThen, Sem.run_pure]
theorem mul_le_facts {a b : Nat} (ha : a ≤ prm) (hb : b ≤ prm) : IntKind.i64.wrap ((a : Int) * (b : Int)) = ((a * b : Nat) : Int) ∧ ((a * b : Nat) : Int).tmod 2147483647 = ((a * b % prm : Nat) : Int) := by
  have h1 : a * b ≤ 2147483647 * 2147483647 := Nat.mul_le_mul (by unfold prm at ha; omega) (by unfold prm at hb; omega)
  refine ⟨?_, ?_⟩
  · rw [← Int.natCast_mul, IntKind.wrap_i64]
    generalize a * b = x at *
    have h2 : x ≤ 4611686014132420609 := h1
    omega
  · rw [Int.tmod_eq_emod_of_nonneg (Int.natCast_nonneg _)]
    rfl
theorem add_facts {a b x : Nat} (ha : a ≤ prm) (hb : b ≤ prm) (hx : x < prm) : IntKind.i64.wrap ((x : Int) + ((a * b : Nat) : Int)) = ((x + a * b : Nat) : Int) ∧ ((x + a * b : Nat) : Int).tmod 2147483647 = (((x + a * b) % prm : Nat) : Int) := by
  have h1 : a * b ≤ 2147483647 * 2147483647 := Nat.mul_le_mul (by unfold prm at ha; omega) (by unfold prm at hb; omega)
  refine ⟨?_, ?_⟩
  · rw [IntKind.wrap_i64]
    generalize a * b = y at *
    have h2 : y ≤ 4611686014132420609 := h1
    unfold prm at hx
    omega
  · rw [Int.tmod_eq_emod_of_nonneg (Int.natCast_nonneg _)]
    rfl
theorem sub_facts {a : Nat} (ha : a ≤ prm) : IntKind.i64.wrap (2147483647 - (a : Int)) = ((prm - a : Nat) : Int) := by
  rw [IntKind.wrap_i64]
  unfold prm at *
  omega
theorem pivot_facts {i p : Nat} {L : List (List Nat)} (h : pivot i L = some p) : p < L.length := by
  unfold pivot at h
  rw [List.findIdx?_eq_some_iff_getElem] at h
  exact h.1
/-- The rows can be read. -/
theorem MatIs.rows {n off b : Nat} {M : List (List Nat)} {cur : Array Value} {ms : List MS} (h : MatIs n off M cur ms) (i : Nat) (X Y : MS) : RowsAt (X + (blk b cur 69 + (sumMS ms + Y))) b (off + i) (M.drop i) := fun j r hj hne => by
  rw [List.getElem?_drop] at hj
  obtain ⟨v, m, h1, h2, h3⟩ := h.row _ _ hj
  obtain ⟨x, l, rfl⟩ := List.exists_cons_of_ne_nil hne
  obtain ⟨bq, oq, c, cq, rfl, rfl, hc, _, _⟩ := h3.at_ (i := 0) rfl
  refine ⟨bq, oq, c, (MS.at.less (blk_at (by rw [Nat.add_assoc]; exact h1)) _).more _, hc, fun t x' hx => ?_⟩
  obtain ⟨bq', oq', c', cq', e1, e2, _, e3, _⟩ := h3.at_ hx
  injection e1 with e1
  injection e1 with e1
  injection e1 with e1 e1'
  subst e1
  subst e1'
  have h0 : (blk bq cq' 3).g bq (.cells cq' 3 (0, 0)) := ⟨rfl, rfl⟩
  rw [← e2] at h0
  have this : cq' = cq := by
    have := h0.2
    injection this
  subst this
  exact ((sumMS_at h2 (blk_at e3)).less Y |>.more _).more _
theorem det_any {n b off c : Nat} {M : List (List Nat)} {cur : Array Value} {ms : List MS} {F : MS} {w : World} (h0 : 1 ≤ n) (hn : n ≤ 64) (hc : n ≤ c) (hM : MatIs n off M cur ms) (hN : MatN n M) (hH : Has w (blk b cur 69 + (sumMS ms + F))) :
    Calls Tryd.prog 41 #[.slice (some ⟨b, off, none⟩) n c] w fun e w' => e = .returned (.int .i64 (detM M)) ∧ Has w' F ∧ Ext w w' := by
  obtain ⟨R, hR⟩ : ∃ R, R = detM M := ⟨_, rfl⟩
  rw [← hR]
  have HR := hid (show detF n (n - 0) 0 M 1 = R by rw [hR]; unfold detM; rw [hM.lm]; rfl)
  have HM := hid hM
  have HN := hid hN
  have HH := hid hH
  have hnI : (n : Int) ≤ 64 := by omega
  have hn0 : (0 : Int) < n := by omega
  clear hM hN hH hR
  go_enter Tryd.func41, Tryd.ntmps41
  go_wp2
  go_loopw [3, 13] (fun v3 v13 wr => ∃ (i out : Nat) (M' : List (List Nat)) (cur' : Array Value) (ms' : List MS), i ≤ n ∧ v13 = .int .i64 i ∧ v3 = .int .i64 out ∧ MatIs n off M' cur' ms' ∧ MatN n M' ∧ out < prm ∧ detF n (n - i) i M' out = R ∧ Has wr (blk b cur' 69 + (sumMS ms' + F)) ∧ Ext w wr) (fun _ v _ => n - (intOf v).toNat)
  case atStart => exact ⟨0, 1, M, cur, ms, Nat.zero_le _, rfl, rfl, HM.out, HN.out, by decide, HR.out, HH.out, Ext.refl _⟩
  case round =>
    obtain ⟨i, out, M', cur', ms', hi, rfl, rfl, hM', hN', ho, hd, hW, hE⟩ := hrel
    have HM' := hid hM'
    have HN' := hid hN'
    have Ho := hid ho
    have Hd := hid hd
    have HW := hid hW
    have HE := hid hE
    clear hM' hN' hd hW hE
    by_cases hlt : i < n
    · have hltI : (i : Int) < n := by omega
      have Hlt := hid hlt
      obtain ⟨bi, hbi⟩ : ∃ bi, bi = wr.heap.size := ⟨_, rfl⟩
      have HB := hid (show Has (wr.alloc (.cells #[.int .i64 0] 3)) (blk bi #[.int .i64 0] 3 + (blk b cur' 69 + (sumMS ms' + F))) by rw [hbi]; exact HW.out.alloc _)
      have HBE := hid (HE.out.trans (Ext.alloc wr (.cells #[.int .i64 0] 3)))
      have Hbi := hid hbi
      have hlen : (M'.drop i).length = n - i := by rw [List.length_drop, HM'.out.lm]
      have Hsl := hid (fun (W : World) => show (Instr.sliceAt 68 (.slice (some ⟨b, off, none⟩) n c) (some (.int .i64 (i : Int))) none none).run Tryd.prog W = .ok (.slice (some ⟨b, off + i, none⟩) (n - i) (c - i)) W by
        have := slice68 (b := b) (off := off) (n := n) (c := c) (i := i) W rfl (by omega) hc
        rwa [if_neg (by omega)] at this)
      have Hpv := hid (fun (W : World) (hW : Has W (blk bi #[.int .i64 i] 3 + (blk b cur' 69 + (sumMS ms' + F)))) => show Calls Tryd.prog 77 #[.slice (some ⟨b, off + i, none⟩) (n - i) (c - i), .func (.func 78) #[] #[.pointer (some ⟨bi, 0, none⟩)]] W fun e w' => e = .returned (.int .i64 (pivI i (M'.drop i))) ∧ w' = W by
        rw [← hlen]
        exact pivx_any (HM'.out.rows i (blk bi #[.int .i64 i] 3) F) (MS.at.less (blk_at rfl) _) (fun r hr => by
          have := HN'.out.row r (List.mem_of_mem_drop hr)
          omega) (by rw [hlen]; omega) (by rw [hlen]; omega) hW)
      clear hi hbi hlen
      cases hp : pivot i (M'.drop i) with
      | none =>
        have hpv : pivI i (M'.drop i) = -1 := by unfold pivI; rw [hp]
        rw [hpv] at Hpv
        have HR0 := hid (show R = 0 by
          rw [← Hd.out, show n - i = (n - i - 1) + 1 by omega]
          unfold detF
          rw [hp])
        clear hp hpv hlt ho
        go_wp2_with (first
          | (rw [← Hbi.out]; refine wpList_store_blk rfl (.tmp 4) (.tmp 15) 3 rfl size3 bi 0 (.int .i64 i) rfl rfl rfl #[.int .i64 0] 3 _ HB.out (by decide) ?_; intro w1 k1 k2; have H1 := hid (show Has w1 (blk bi #[.int .i64 i] 3 + (blk b cur' 69 + (sumMS ms' + F))) from k1); have E1 := hid (HBE.out.trans k2); have fi := H1.out.at_ (i := 0) rfl; clear k1 k2)
          | (refine wpList_run rfl (.slice (some ⟨b, off + i, none⟩) (n - i) (c - i)) _ (ex_slice68 rfl (Hsl.out _)) ?_)
          | (go_at_call 77; refine (Hpv.out w1 H1.out).mono ?_; rintro e2 w2 ⟨rfl, hw2⟩; rw [hw2]; clear hw2))
        go_ret
        exact ⟨by rw [HR0.out]; rfl, H1.out.right.right.right, E1.out⟩
      | some p =>
        have hpv : pivI i (M'.drop i) = p := by unfold pivI; rw [hp]
        rw [hpv] at Hpv
        have hpl := pivot_facts hp
        have hplt : i + p < n := by rw [List.length_drop, HM'.out.lm] at hpl; omega
        have HR1 := hid (show detF n (n - (i + 1)) (i + 1) (elimK n i (invN (entM (swM M' i p) i i)) (swM M' i p) (n - (i + 1))) (swO out p * entM (swM M' i p) i i % prm) = R by
          rw [← Hd.out, show n - i = (n - (i + 1)) + 1 by omega]
          conv => rhs; unfold detF
          rw [hp])
        have hpI : (i : Int) + p < n := by omega
        have Hplt := hid hplt
        clear hp hpv hpl hplt hlt
        by_cases hp0 : p = 0
        · subst hp0
          have hsw : swM M' i 0 = M' := rfl
          have hso : swO out 0 = out := rfl
          rw [hsw, hso] at HR1
          have ho1 : out ≤ prm := Nat.le_of_lt ho
          have HM1 := HM'
          have HN1 := HN'
          clear hsw hso ho
          go_wp2_with (first
            | (rw [← Hbi.out]; refine wpList_store_blk rfl (.tmp 4) (.tmp 15) 3 rfl size3 bi 0 (.int .i64 i) rfl rfl rfl #[.int .i64 0] 3 _ HB.out (by decide) ?_; intro w1 k1 k2; have H1 := hid (show Has w1 (blk bi #[.int .i64 i] 3 + (blk b cur' 69 + (sumMS ms' + F))) from k1); have E1 := hid (HBE.out.trans k2); have fi := H1.out.at_ (i := 0) rfl; clear k1 k2)
            | (refine wpList_run rfl (.slice (some ⟨b, off + i, none⟩) (n - i) (c - i)) _ (ex_slice68 rfl (Hsl.out _)) ?_)
            | (go_at_call 77; refine (Hpv.out w1 H1.out).mono ?_; rintro e2 w2 ⟨rfl, hw2⟩; rw [hw2]; clear hw2))
          obtain ⟨ri, hri⟩ : ∃ ri, M'[i]? = some ri := ⟨_, List.getElem?_eq_getElem (by rw [HM1.out.lm]; exact Hlt.out)⟩
          have hril := HN1.out.row ri (List.mem_of_getElem? hri)
          have hrilt := HN1.out.lt ri (List.mem_of_getElem? hri)
          obtain ⟨v1, m1, hv1, hm1, hs1⟩ := HM1.out.row i ri hri
          obtain ⟨x, hx⟩ : ∃ x, ri[i]? = some x := ⟨_, List.getElem?_eq_getElem (by rw [hril]; exact Hlt.out)⟩
          have hxp : x < prm := hrilt x (List.mem_of_getElem? hx)
          have hgd : (M').getD i [] = ri := by rw [List.getD_eq_getElem?_getD, hri]; rfl
          have hent : entM M' i i = x := by unfold entM; rw [hgd, List.getD_eq_getElem?_getD, hx]; rfl
          rw [hent] at HR1
          obtain ⟨bq, oq, cq, curq, hve, hme, hcq, hcell, _⟩ := hs1.at_ hx
          rw [hril] at hve hcq
          subst hve
          subst hme
          have KeepX := hid (fun (W : World) (ms2 : List MS) (h2 : ms2[i]? = some (blk bq curq 3)) (hW : Has W (blk bi #[.int .i64 i] 3 + (blk b cur' 69 + (sumMS ms2 + F)))) => show W.cell? ⟨bi, 0, none⟩ = some (.int .i64 i) ∧ W.cell? ⟨b, off + i, none⟩ = some (.slice (some ⟨bq, oq, none⟩) n cq) ∧ W.cell? ⟨bq, oq + i, none⟩ = some (.int .i64 (x : Int)) from ⟨hW.at_ (i := 0) rfl, hW.right.at_ hv1, ((sumMS_at h2 (blk_at hcell)).less F).c0 hW.right.right⟩)
          obtain ⟨e1, e2⟩ := mul_le_facts ho1 (Nat.le_of_lt hxp)
          have hbl : invN x < prm := invF_lt _ _ _ _ (by decide)
          have Hcall := hid (fun W => inv_any hxp W)
          obtain ⟨OX, hOX⟩ : ∃ OX : Int, OX = ((out * x : Nat) : Int) := ⟨_, rfl⟩
          obtain ⟨OM, hOM⟩ : ∃ OM : Int, OM = ((out * x % prm : Nat) : Int) := ⟨_, rfl⟩
          rw [← hOX] at e1 e2
          rw [← hOM] at e2
          have HOM := hid hOM
          generalize invN x = byn at *
          have Hri := hid hri
          have Hgd := hid hgd
          have Hs1 := hid hs1
          have Hm1 := hid hm1
          have Hrilt := hid hrilt
          have Hril := hid hril
          clear hri hgd hs1 hm1 hrilt hril hOX hOM hent hv1 hcell
          have hS := KeepX.out w1.drew ms' Hm1.out H1.out.drew
          refine wp_region_txt (fun W => W.cell? ⟨bi, 0, none⟩ = some (.int .i64 i) ∧ W.cell? ⟨b, off + i, none⟩ = some (.slice (some ⟨bq, oq, none⟩) n cq) ∧ W.cell? ⟨bq, oq + i, none⟩ = some (.int .i64 (x : Int))) none
            [(0, true), (1, true), (2, true), (3, true), (4, true), (5, true), (6, true), (7, true), (8, true), (9, true), (10, true)] (by kernel_rfl) rfl (by kernel_rfl) (by kernel_rfl) (by repeat (first | with_reducible refine PanicOk.thn ?_ | with_reducible refine PanicOk.blk ?_ | exact PanicOk.body _ _ _)) ?_
          repeat
            (refine txt_quiet ?_ hS rfl rfl (fun W hW => ?_) ?_
             rotate_left 1
             · obtain ⟨hW1, hW2, hW3⟩ := hW
               go_simp
               exact rfl
             simp only [Act.put, List.setIfInBounds_toArray, List.set_cons_zero, List.set_cons_succ])
          refine txt_done ?_
          clear hS
          go_wp2
          have hS := KeepX.out w1.drew.drew ms' Hm1.out H1.out.drew.drew
          refine wp_region_txt (fun W => W.cell? ⟨bi, 0, none⟩ = some (.int .i64 i) ∧ W.cell? ⟨b, off + i, none⟩ = some (.slice (some ⟨bq, oq, none⟩) n cq) ∧ W.cell? ⟨bq, oq + i, none⟩ = some (.int .i64 (x : Int))) none
            [(0, true), (1, true), (2, true), (3, true), (4, true), (5, true), (6, true), (7, false), (8, true)] (by kernel_rfl) rfl (by kernel_rfl) (by kernel_rfl) (by repeat (first | with_reducible refine PanicOk.thn ?_ | with_reducible refine PanicOk.blk ?_ | exact PanicOk.body _ _ _)) ?_
          repeat
            (refine txt_quiet ?_ hS rfl rfl (fun W hW => ?_) ?_
             rotate_left 1
             · obtain ⟨hW1, hW2, hW3⟩ := hW
               go_simp
               exact rfl
             simp only [Act.put, List.setIfInBounds_toArray, List.set_cons_zero, List.set_cons_succ])
          refine txt_op rfl rfl ?_
          refine op_call 79 #[.int .i64 (x : Int)] w1.drew.drew (by go_simp) _ (Hcall.out w1.drew.drew) ?_
          rintro e4 w4 ⟨rfl, hw4⟩
          rw [hw4]
          clear hw4
          refine ⟨_, rfl, fun _ => hS, ?_⟩
          simp only [Act.put, List.setIfInBounds_toArray, List.set_cons_zero, List.set_cons_succ]
          repeat
            (refine txt_quiet ?_ hS rfl rfl (fun W hW => ?_) ?_
             rotate_left 1
             · obtain ⟨hW1, hW2, hW3⟩ := hW
               go_simp
               exact rfl
             simp only [Act.put, List.setIfInBounds_toArray, List.set_cons_zero, List.set_cons_succ])
          refine txt_done ?_
          clear hS
          have HX := hid (H1.out.drew.drew)
          have EX := hid ((E1.out.trans (Ext.drew _)).trans (Ext.drew _))
          generalize World.drew (World.drew w1) = wx at *
          have Hsl2 := hid (fun (W : World) => slice68 (b := b) (off := off) (n := n) (c := c) (i := i + 1) (lo := (i : Int) + 1) W (by omega) (by have := Hlt.out; omega) hc)
          obtain ⟨offR, hoffR⟩ : ∃ o, o = (if c = i + 1 then off else off + (i + 1)) := ⟨_, rfl⟩
          obtain ⟨N2, hN2⟩ : ∃ N2, N2 = n - (i + 1) := ⟨_, rfl⟩
          obtain ⟨C2, hC2⟩ : ∃ C2, C2 = c - (i + 1) := ⟨_, rfl⟩
          have hNC : N2 ≤ C2 := by omega
          have Hoff := hid (fun (k : Nat) (hk : k < N2) => show offR = off + (i + 1) by rw [hoffR, if_neg (by omega)])
          rw [← hoffR, ← hN2, ← hC2] at Hsl2
          have HN2 := hid hN2
          have hN2I : (N2 : Int) ≤ 64 := by omega
          rw [← hN2] at HR1
          clear hoffR hN2 hC2 e1 e2
          obtain ⟨z0, _, _⟩ := KeepX.out wx ms' Hm1.out HX.out
          go_wp2_with (refine wpList_run rfl (.slice (some ⟨b, offR, none⟩) N2 C2) _ (ex_slice68 rfl (Hsl2.out _)) ?_)
          clear z0
          go_loopw [68] (fun v wq => ∃ (k : Nat) (ms2 : List MS), k ≤ N2 ∧ v = .int .i64 k ∧ MatIs n off (elimK n i byn M' k) cur' ms2 ∧ ms2[i]? = some (blk bq curq 3) ∧ Has wq (blk bi #[.int .i64 i] 3 + (blk b cur' 69 + (sumMS ms2 + F))) ∧ Ext w wq) (fun v _ => N2 - (intOf v).toNat)
          case atStart => exact ⟨0, ms', Nat.zero_le _, rfl, by rw [elimK_start]; exact HM1.out, Hm1.out, HX.out, EX.out⟩
          case round =>
            obtain ⟨k, ms2, hk, rfl, hM2, hm2, hWq, hEq⟩ := hrel
            have HM2 := hid hM2
            have Hm2 := hid hm2
            have HWq := hid hWq
            have HEq := hid hEq
            clear hM2 hm2 hWq hEq
            by_cases hkl : k < N2
            · have hklI : (k : Int) < N2 := by omega
              have hjn : i + 1 + k < n := by have := HN2.out; omega
              have hko := Hoff.out k hkl
              subst hko
              obtain ⟨rj, hrj⟩ : ∃ rj, M'[i + 1 + k]? = some rj := ⟨_, List.getElem?_eq_getElem (by rw [HM1.out.lm]; exact hjn)⟩
              have hrj2 : (elimK n i byn M' k)[i + 1 + k]? = some rj := by rw [elimK_next, hrj]
              have hrjl := HN1.out.row rj (List.mem_of_getElem? hrj)
              have hrjlt := HN1.out.lt rj (List.mem_of_getElem? hrj)
              obtain ⟨vj2, mj2, hvj2, hmj2, hsj2⟩ := HM2.out.row _ _ hrj2
              obtain ⟨y0, hy0⟩ : ∃ y0, rj[i]? = some y0 := ⟨_, List.getElem?_eq_getElem (by rw [hrjl]; exact Hlt.out)⟩
              have hy0p : y0 < prm := hrjlt y0 (List.mem_of_getElem? hy0)
              obtain ⟨br, orr, cr, curr, hvje, hmje, hcr, hcelly, _⟩ := hsj2.at_ hy0
              rw [hrjl] at hvje hcr
              subst hvje
              subst hmje
              have g0 : wr.cell? ⟨b, off + (i + 1) + k, none⟩ = some (.slice (some ⟨br, orr, none⟩) n cr) := HWq.out.right.at_ (by rw [Nat.add_assoc]; exact hvj2)
              have g1 : wr.cell? ⟨br, orr + i, none⟩ = some (.int .i64 (y0 : Int)) := ((sumMS_at hmj2 (blk_at hcelly)).less F).c0 HWq.out.right.right
              obtain ⟨g2, g3, g4⟩ := KeepX.out wr ms2 Hm2.out HWq.out
              obtain ⟨e1, e2⟩ := mul_facts hy0p hbl
              have hrow : elimRow n i byn ((M').getD i []) rj = if y0 * byn % prm = 0 then rj else elimC i (y0 * byn % prm) ri rj n := by
                unfold elimRow
                rw [Hgd.out, List.getD_eq_getElem?_getD, hy0]
                rfl
              have hfp : y0 * byn % prm < prm := Nat.mod_lt _ (by decide)
              obtain ⟨YB, hYB⟩ : ∃ YB : Int, YB = ((y0 * byn : Nat) : Int) := ⟨_, rfl⟩
              rw [← hYB] at e1 e2
              generalize y0 * byn % prm = f at *
              have Hrow := hid hrow
              have Hstep := hid (elimK_step (n := n) (i := i) (by' := byn) hrj)
              have Hrj2 := hid hrj2
              have Hkl := hid hkl
              have Hsj := hid hsj2
              have Hmj := hid hmj2
              have Hvj2 := hid hvj2
              have Hrj := hid hrj
              have Hrjl := hid hrjl
              have Hrjlt := hid hrjlt
              have Hjn := hid hjn
              clear hrow hrj2 hkl hsj2 hmj2 hvj2 hrj hrjl hrjlt hjn hYB hy0 hk hcelly hy0p
              by_cases hf0 : f = 0
              · subst hf0
                go_wp2
                clear g0 g1 g2 g3 g4
                go_loopw [10] (fun v wz => v = .int .i64 i ∧ Has wz (blk bi #[.int .i64 i] 3 + (blk b cur' 69 + (sumMS ms2 + F))) ∧ Ext w wz) (fun _ _ => 0)
                case atStart => exact ⟨rfl, HWq.out, HEq.out⟩
                case round =>
                obtain ⟨rfl, hW9, hE9⟩ := hrel
                have HW9 := hid hW9
                have HE9 := hid hE9
                clear hW9 hE9
                go_wp2
                go_roundw
                case rel => exact ⟨k + 1, ms2, Hkl.out, by go_num, by
                  rw [Hstep.out, Hrow.out]
                  first | rw [if_pos rfl] | rw [if_pos trivial]
                  obtain ⟨hl, he⟩ := List.getElem?_eq_some_iff.1 Hrj2.out
                  rw [← he, List.set_getElem_self hl]
                  exact HM2.out, Hm2.out, HW9.out, HE9.out⟩
                case measure => have := Hkl.out; simp [intOf]; omega
              · have Hf0 := hid hf0
                have hfb : ((f : Int) != 0) = true := by rw [bne_iff_ne]; omega
                have hfI : ¬ ((f : Int) = 0) := by omega
                obtain ⟨Rm, hRm⟩ := sumMS_take (l := ms2) (i := i + 1 + k) (by rw [HM2.out.ls]; exact Hjn.out)
                have hsum2 : sumMS ms2 = blk br curr 3 + Rm := by
                  have h1 := hRm (blk br curr 3)
                  obtain ⟨hl, he⟩ := List.getElem?_eq_some_iff.1 Hmj.out
                  rw [← he, List.set_getElem_self hl] at h1
                  rw [h1, he]
                have HRat := hid (fun (cc y : Nat) (hy : ri[cc]? = some y) => show Rm.at bq (oq + cc) (.int .i64 (y : Int)) from by
                  have h1 := hRm 0
                  rw [MS.zero_add] at h1
                  rw [← h1]
                  exact sumMS_at (i := i) (by rw [List.getElem?_set_ne (by omega)]; exact Hm2.out) (blk_at (Hs1.out.cell hy)))
                have HRm := hid hRm
                have HWi := hid (show Has wr (blk br curr 3 + (Rm + (blk bi #[.int .i64 i] 3 + (blk b cur' 69 + F)))) from HWq.out.eq (by rw [hsum2]; ac_rfl))
                have Hv1 := hid (show cur'[off + i]? = some (.slice (some ⟨bq, oq, none⟩) n cq) by
                  obtain ⟨v, m, q1, q2, q3⟩ := HM2.out.row i ri (by rw [elimK_row]; exact Hri.out)
                  have := HWq.out.right.cell (off + i)
                  rw [g3] at this
                  exact this.symm)
                clear hf0 hsum2 hRm
                go_wp2
                clear g0 g1 g2 g3 g4
                go_loopw [10] (fun v wz => ∃ (cc : Nat) (cur3 : Array Value), i ≤ cc ∧ cc ≤ n ∧ v = .int .i64 cc ∧ NatS (elimC i f ri rj cc) (.slice (some ⟨br, orr, none⟩) n cr) (blk br cur3 3) ∧ Has wz (blk br cur3 3 + (Rm + (blk bi #[.int .i64 i] 3 + (blk b cur' 69 + F)))) ∧ Ext w wz) (fun v _ => n - (intOf v).toNat)
                case atStart => exact ⟨i, curr, Nat.le_refl _, Nat.le_of_lt Hlt.out, rfl, by rw [elimC_start]; exact Hsj.out, HWi.out, HEq.out⟩
                case round =>
                  obtain ⟨cc, cur3, hic, hcn, rfl, hs3, hWz, hEz⟩ := hrel
                  have Hs3 := hid hs3
                  have HWz := hid hWz
                  have HEz := hid hEz
                  clear hs3 hWz hEz
                  by_cases hcl : cc < n
                  · have hclI : (cc : Int) < n := by omega
                    obtain ⟨x3, hx3⟩ : ∃ x3, rj[cc]? = some x3 := ⟨_, List.getElem?_eq_getElem (by rw [Hrjl.out]; exact hcl)⟩
                    obtain ⟨y3, hy3⟩ : ∃ y3, ri[cc]? = some y3 := ⟨_, List.getElem?_eq_getElem (by rw [Hril.out]; exact hcl)⟩
                    have hx3p := Hrjlt.out x3 (List.mem_of_getElem? hx3)
                    have hy3p := Hrilt.out y3 (List.mem_of_getElem? hy3)
                    have Hc3 := hid (Hs3.out.cell (elimC_at hx3))
                    have hS : wr.drew.cell? ⟨br, orr + cc, none⟩ = some (.int .i64 (x3 : Int)) ∧ wr.drew.cell? ⟨bi, 0, none⟩ = some (.int .i64 i) ∧ wr.drew.cell? ⟨b, off + i, none⟩ = some (.slice (some ⟨bq, oq, none⟩) n cq) ∧ wr.drew.cell? ⟨bq, oq + cc, none⟩ = some (.int .i64 (y3 : Int)) :=
                      ⟨HWz.out.at_ Hc3.out, HWz.out.right.right.at_ (i := 0) rfl, HWz.out.right.right.right.at_ Hv1.out, (HRat.out cc y3 hy3).c0 HWz.out.right.left⟩
                    have s1 := sub_facts (Nat.le_of_lt hfp)
                    obtain ⟨s2, _⟩ := mul_le_facts (Nat.sub_le prm f) (Nat.le_of_lt hy3p)
                    obtain ⟨s3, s4⟩ := add_facts (Nat.sub_le prm f) (Nat.le_of_lt hy3p) hx3p
                    obtain ⟨FP, hFP⟩ : ∃ FP : Int, FP = ((prm - f : Nat) : Int) := ⟨_, rfl⟩
                    obtain ⟨PY, hPY⟩ : ∃ PY : Int, PY = (((prm - f) * y3 : Nat) : Int) := ⟨_, rfl⟩
                    obtain ⟨XP, hXP⟩ : ∃ XP : Int, XP = ((x3 + (prm - f) * y3 : Nat) : Int) := ⟨_, rfl⟩
                    obtain ⟨VV, hVV⟩ : ∃ VV : Int, VV = (((x3 + (prm - f) * y3) % prm : Nat) : Int) := ⟨_, rfl⟩
                    rw [← hFP] at s1 s2
                    rw [← hPY] at s2 s3
                    rw [← hXP] at s3 s4
                    rw [← hVV] at s4
                    have Hy3 := hid hy3
                    have Hx3 := hid hx3
                    have HVV := hid hVV
                    have Hcl := hid hcl
                    have Hic := hid hic
                    clear hy3 hx3 hVV hcl hic hFP hPY hXP hx3p hy3p hcn
                    go_wp2
                    refine wp_region_txt (fun W => W.cell? ⟨br, orr + cc, none⟩ = some (.int .i64 (x3 : Int)) ∧ W.cell? ⟨bi, 0, none⟩ = some (.int .i64 i) ∧ W.cell? ⟨b, off + i, none⟩ = some (.slice (some ⟨bq, oq, none⟩) n cq) ∧ W.cell? ⟨bq, oq + cc, none⟩ = some (.int .i64 (y3 : Int))) (some 19)
                      [(0, true), (1, true), (2, true), (3, true), (4, true), (5, true), (6, true), (7, true), (8, true), (9, true), (10, true), (11, true), (12, true), (13, true), (14, true), (15, true), (16, true), (17, true), (18, true), (19, false)] (by kernel_rfl) rfl (by kernel_rfl) (by kernel_rfl) (by repeat (first | with_reducible refine PanicOk.thn ?_ | with_reducible refine PanicOk.blk ?_ | exact PanicOk.body _ _ _)) ?_
                    repeat
                      (refine txt_quiet ?_ hS rfl rfl (fun W hW => ?_) ?_
                       rotate_left 1
                       · obtain ⟨hW1, hW2, hW3, hW4⟩ := hW
                         go_simp
                         exact rfl
                       simp only [Act.put, List.setIfInBounds_toArray, List.set_cons_zero, List.set_cons_succ])
                    refine txt_op rfl rfl ?_
                    refine op_store_blk (.tmp 108) (.tmp 107) 3 rfl size3 br (orr + cc) (.int .i64 VV) rfl rfl rfl cur3 3 _ HWz.out.drew (arr_lt Hc3.out) ?_
                    intro w5 k1 k2
                    have H5 := hid k1
                    have E5 := hid ((HEz.out.trans (Ext.drew _)).trans k2)
                    clear k1 k2 hS
                    refine ⟨fun h => absurd rfl h, ?_⟩
                    simp only [Act.put, List.setIfInBounds_toArray, List.set_cons_zero, List.set_cons_succ]
                    refine txt_done ?_
                    go_wp2
                    go_roundw
                    case rel => exact ⟨cc + 1, _, by have := Hic.out; omega, Hcl.out, by go_num, by
                      rw [elimC_step Hic.out Hx3.out, List.getD_eq_getElem?_getD, Hy3.out]
                      have := Hs3.out.put (elimC_at Hx3.out) ((x3 + (prm - f) * y3) % prm)
                      rw [← HVV.out] at this
                      exact this, H5.out, E5.out⟩
                    case measure => have := Hcl.out; simp [intOf]; omega
                  · have hce : cc = n := by omega
                    subst hce
                    have Hturn := hid (HM2.out.turn Hjn.out Hvj2.out Hs3.out)
                    clear hcl hic hcn
                    go_wp2
                    go_roundw
                    case rel => exact ⟨k + 1, _, Hkl.out, by go_num, by
                      rw [Hstep.out, Hrow.out, if_neg Hf0.out]
                      exact Hturn.out, by rw [List.getElem?_set_ne (by omega)]; exact Hm2.out, HWz.out.eq (by rw [HRm.out]; ac_rfl), HEz.out⟩
                    case measure => have := Hkl.out; simp [intOf]; omega
            · have hke : k = N2 := by omega
              subst hke
              clear hkl hk
              go_wp2
              go_roundw
              case rel => exact ⟨i + 1, out * x % prm, elimK n i byn M' k, cur', ms2, Hlt.out, by go_num, by rw [HOM.out], HM2.out, HN1.out.elim i byn k, Nat.mod_lt _ (by decide), by rw [← HN2.out]; exact HR1.out, HWq.out.right, HEq.out⟩
              case measure => have := Hlt.out; simp [intOf]; omega
        · have hpp : (0 : Int) < p := by omega
          obtain ⟨vi, mi, hvi, _, hsi⟩ := HM'.out.row i _ (List.getElem?_eq_getElem (by rw [HM'.out.lm]; exact Hlt.out))
          obtain ⟨vj, mj, hvj, _, hsj⟩ := HM'.out.row (i + p) _ (List.getElem?_eq_getElem (by rw [HM'.out.lm]; exact Hplt.out))
          have h1vi := hid (show vi.oneCell' = true by obtain ⟨A, c, rfl, _⟩ := Sl.form hsi; rfl)
          have h1vj := hid (show vj.oneCell' = true by obtain ⟨A, c, rfl, _⟩ := Sl.form hsj; rfl)
          clear hsi hsj
          have HM1 := hid (HM'.out.swap Hlt.out Hplt.out (by omega) hvi hvj)
          have HN1 := hid (HN'.out.swap Hlt.out Hplt.out)
          have hsum := hid (sumMS_swap (l := ms') (i := i) (j := i + p) (by rw [HM'.out.ls]; exact Hlt.out) (by rw [HM'.out.ls]; exact Hplt.out))
          have hsw : swM M' i p = swapL M' i (i + p) := by unfold swM; rw [if_neg hp0]
          have hso : swO out p = prm - out := by unfold swO; rw [if_neg hp0]
          rw [hsw, hso] at HR1
          have ho1 : prm - out ≤ prm := Nat.sub_le _ _
          have hsub := sub_facts (Nat.le_of_lt ho)
          have Hvi := hid hvi
          have Hvj := hid hvj
          have hai := hid (HM'.out.lt Hlt.out)
          have haj := hid (HM'.out.lt Hplt.out)
          have hwij : IntKind.i64.wrap ((i : Int) + (p : Int)) = (i : Int) + (p : Int) := by rw [IntKind.wrap_i64]; omega
          have hip0 : 0 ≤ (i : Int) + (p : Int) := by omega
          have htn : ((i : Int) + (p : Int)).toNat = i + p := by omega
          clear hvi hvj hsw hso hp0 ho
          go_wp2_with (first
            | (rw [← Hbi.out]; refine wpList_store_blk rfl (.tmp 4) (.tmp 15) 3 rfl size3 bi 0 (.int .i64 i) rfl rfl rfl #[.int .i64 0] 3 _ HB.out (by decide) ?_; intro w1 k1 k2; have H1 := hid (show Has w1 (blk bi #[.int .i64 i] 3 + (blk b cur' 69 + (sumMS ms' + F))) from k1); have E1 := hid (HBE.out.trans k2); have fi := H1.out.at_ (i := 0) rfl; clear k1 k2)
            | (refine wpList_run rfl (.slice (some ⟨b, off + i, none⟩) (n - i) (c - i)) _ (ex_slice68 rfl (Hsl.out _)) ?_)
            | (go_at_call 77; refine (Hpv.out w1 H1.out).mono ?_; rintro e2 w2 ⟨rfl, hw2⟩; rw [hw2]; clear hw2))
          have hS : w1.drew.cell? ⟨bi, 0, none⟩ = some (.int .i64 i) ∧ w1.drew.cell? ⟨b, off + (i + p), none⟩ = some vj := ⟨H1.out.at_ (i := 0) rfl, H1.out.right.at_ Hvj.out⟩
          have h15 : w1.drew.cell? ⟨b, off + i, none⟩ = some vi := H1.out.right.at_ Hvi.out
          refine wp_region_txt (fun W => W.cell? ⟨bi, 0, none⟩ = some (.int .i64 i) ∧ W.cell? ⟨b, off + (i + p), none⟩ = some vj) (some 19)
            [(0, true), (1, true), (2, true), (3, true), (4, true), (5, true), (6, true), (7, true), (8, true), (9, true), (10, true), (11, true), (12, true), (13, true), (14, true), (15, false), (16, true), (17, false), (18, true), (19, false)] (by kernel_rfl) rfl (by kernel_rfl) (by kernel_rfl) (by repeat (first | with_reducible refine PanicOk.thn ?_ | with_reducible refine PanicOk.blk ?_ | exact PanicOk.body _ _ _)) ?_
          repeat
            (refine txt_quiet ?_ hS rfl rfl (fun W hW => ?_) ?_
             rotate_left 1
             · obtain ⟨hW1, hW2⟩ := hW
               go_simp
               exact rfl
             simp only [Act.put, List.setIfInBounds_toArray, List.set_cons_zero, List.set_cons_succ])
          refine txt_op rfl rfl ?_
          refine op_run vi w1.drew (by go_simp) ?_
          refine ⟨fun _ => hS, ?_⟩
          simp only [Act.put, List.setIfInBounds_toArray, List.set_cons_zero, List.set_cons_succ]
          repeat
            (refine txt_quiet ?_ hS rfl rfl (fun W hW => ?_) ?_
             rotate_left 1
             · obtain ⟨hW1, hW2⟩ := hW
               go_simp
               exact rfl
             simp only [Act.put, List.setIfInBounds_toArray, List.set_cons_zero, List.set_cons_succ])
          refine txt_op rfl rfl ?_
          refine op_store_blk (.tmp 41) (.tmp 36) 69 rfl size69 b (off + i) vj rfl rfl h1vj.out cur' 69 (blk bi #[.int .i64 i] 3 + (sumMS ms' + F)) (H1.out.drew.eq (by ac_rfl)) hai.out ?_
          intro w2 k1 k2
          have H2 := hid k1
          have E2 := hid ((E1.out.trans (Ext.drew _)).trans k2)
          clear k1 k2 hS h15
          have hS : w2.cell? ⟨bi, 0, none⟩ = some (.int .i64 i) ∧ w2.cell? ⟨b, off + (i + p), none⟩ = some vj := ⟨H2.out.right.at_ (i := 0) rfl, H2.out.at_ (by rw [Array.getElem?_setIfInBounds_ne (by omega)]; exact Hvj.out)⟩
          refine ⟨fun _ => hS, ?_⟩
          simp only [Act.put, List.setIfInBounds_toArray, List.set_cons_zero, List.set_cons_succ]
          repeat
            (refine txt_quiet ?_ hS rfl rfl (fun W hW => ?_) ?_
             rotate_left 1
             · obtain ⟨hW1, hW2⟩ := hW
               go_simp
               exact rfl
             simp only [Act.put, List.setIfInBounds_toArray, List.set_cons_zero, List.set_cons_succ])
          refine txt_op rfl rfl ?_
          refine op_store_blk (.tmp 42) (.tmp 40) 69 rfl size69 b (off + (i + p)) vi rfl rfl h1vi.out _ 69 _ H2.out (by rw [Array.size_setIfInBounds]; exact haj.out) ?_
          intro w3 k1 k2
          have H3 := hid (show Has w3 (blk bi #[.int .i64 i] 3 + (blk b ((cur'.setIfInBounds (off + i) vj).setIfInBounds (off + (i + p)) vi) 69 + (sumMS (swapL ms' i (i + p)) + F))) from by rw [hsum.out]; exact k1.eq (by ac_rfl))
          have E3 := hid (E2.out.trans k2)
          clear k1 k2 hS
          refine ⟨fun h => absurd rfl h, ?_⟩
          simp only [Act.put, List.setIfInBounds_toArray, List.set_cons_zero, List.set_cons_succ]
          refine txt_done ?_
          generalize prm - out = out1 at *
          generalize swapL M' i (i + p) = M1 at *
          generalize swapL ms' i (i + p) = ms1 at *
          generalize (cur'.setIfInBounds (off + i) vj).setIfInBounds (off + (i + p)) vi = cur1 at *
          clear fi
          go_wp2
          obtain ⟨ri, hri⟩ : ∃ ri, M1[i]? = some ri := ⟨_, List.getElem?_eq_getElem (by rw [HM1.out.lm]; exact Hlt.out)⟩
          have hril := HN1.out.row ri (List.mem_of_getElem? hri)
          have hrilt := HN1.out.lt ri (List.mem_of_getElem? hri)
          obtain ⟨v1, m1, hv1, hm1, hs1⟩ := HM1.out.row i ri hri
          obtain ⟨x, hx⟩ : ∃ x, ri[i]? = some x := ⟨_, List.getElem?_eq_getElem (by rw [hril]; exact Hlt.out)⟩
          have hxp : x < prm := hrilt x (List.mem_of_getElem? hx)
          have hgd : (M1).getD i [] = ri := by rw [List.getD_eq_getElem?_getD, hri]; rfl
          have hent : entM M1 i i = x := by unfold entM; rw [hgd, List.getD_eq_getElem?_getD, hx]; rfl
          rw [hent] at HR1
          obtain ⟨bq, oq, cq, curq, hve, hme, hcq, hcell, _⟩ := hs1.at_ hx
          rw [hril] at hve hcq
          subst hve
          subst hme
          have KeepX := hid (fun (W : World) (ms2 : List MS) (h2 : ms2[i]? = some (blk bq curq 3)) (hW : Has W (blk bi #[.int .i64 i] 3 + (blk b cur1 69 + (sumMS ms2 + F)))) => show W.cell? ⟨bi, 0, none⟩ = some (.int .i64 i) ∧ W.cell? ⟨b, off + i, none⟩ = some (.slice (some ⟨bq, oq, none⟩) n cq) ∧ W.cell? ⟨bq, oq + i, none⟩ = some (.int .i64 (x : Int)) from ⟨hW.at_ (i := 0) rfl, hW.right.at_ hv1, ((sumMS_at h2 (blk_at hcell)).less F).c0 hW.right.right⟩)
          obtain ⟨e1, e2⟩ := mul_le_facts ho1 (Nat.le_of_lt hxp)
          have hbl : invN x < prm := invF_lt _ _ _ _ (by decide)
          have Hcall := hid (fun W => inv_any hxp W)
          obtain ⟨OX, hOX⟩ : ∃ OX : Int, OX = ((out1 * x : Nat) : Int) := ⟨_, rfl⟩
          obtain ⟨OM, hOM⟩ : ∃ OM : Int, OM = ((out1 * x % prm : Nat) : Int) := ⟨_, rfl⟩
          rw [← hOX] at e1 e2
          rw [← hOM] at e2
          have HOM := hid hOM
          generalize invN x = byn at *
          have Hri := hid hri
          have Hgd := hid hgd
          have Hs1 := hid hs1
          have Hm1 := hid hm1
          have Hrilt := hid hrilt
          have Hril := hid hril
          clear hri hgd hs1 hm1 hrilt hril hOX hOM hent hv1 hcell
          have hS := KeepX.out w3.drew ms1 Hm1.out H3.out.drew
          refine wp_region_txt (fun W => W.cell? ⟨bi, 0, none⟩ = some (.int .i64 i) ∧ W.cell? ⟨b, off + i, none⟩ = some (.slice (some ⟨bq, oq, none⟩) n cq) ∧ W.cell? ⟨bq, oq + i, none⟩ = some (.int .i64 (x : Int))) none
            [(0, true), (1, true), (2, true), (3, true), (4, true), (5, true), (6, true), (7, true), (8, true), (9, true), (10, true)] (by kernel_rfl) rfl (by kernel_rfl) (by kernel_rfl) (by repeat (first | with_reducible refine PanicOk.thn ?_ | with_reducible refine PanicOk.blk ?_ | exact PanicOk.body _ _ _)) ?_
          repeat
            (refine txt_quiet ?_ hS rfl rfl (fun W hW => ?_) ?_
             rotate_left 1
             · obtain ⟨hW1, hW2, hW3⟩ := hW
               go_simp
               exact rfl
             simp only [Act.put, List.setIfInBounds_toArray, List.set_cons_zero, List.set_cons_succ])
          refine txt_done ?_
          clear hS
          go_wp2
          have hS := KeepX.out w3.drew.drew ms1 Hm1.out H3.out.drew.drew
          refine wp_region_txt (fun W => W.cell? ⟨bi, 0, none⟩ = some (.int .i64 i) ∧ W.cell? ⟨b, off + i, none⟩ = some (.slice (some ⟨bq, oq, none⟩) n cq) ∧ W.cell? ⟨bq, oq + i, none⟩ = some (.int .i64 (x : Int))) none
            [(0, true), (1, true), (2, true), (3, true), (4, true), (5, true), (6, true), (7, false), (8, true)] (by kernel_rfl) rfl (by kernel_rfl) (by kernel_rfl) (by repeat (first | with_reducible refine PanicOk.thn ?_ | with_reducible refine PanicOk.blk ?_ | exact PanicOk.body _ _ _)) ?_
          repeat
            (refine txt_quiet ?_ hS rfl rfl (fun W hW => ?_) ?_
             rotate_left 1
             · obtain ⟨hW1, hW2, hW3⟩ := hW
               go_simp
               exact rfl
             simp only [Act.put, List.setIfInBounds_toArray, List.set_cons_zero, List.set_cons_succ])
          refine txt_op rfl rfl ?_
          refine op_call 79 #[.int .i64 (x : Int)] w3.drew.drew (by go_simp) _ (Hcall.out w3.drew.drew) ?_
          rintro e4 w4 ⟨rfl, hw4⟩
          rw [hw4]
          clear hw4
          refine ⟨_, rfl, fun _ => hS, ?_⟩
          simp only [Act.put, List.setIfInBounds_toArray, List.set_cons_zero, List.set_cons_succ]
          repeat
            (refine txt_quiet ?_ hS rfl rfl (fun W hW => ?_) ?_
             rotate_left 1
             · obtain ⟨hW1, hW2, hW3⟩ := hW
               go_simp
               exact rfl
             simp only [Act.put, List.setIfInBounds_toArray, List.set_cons_zero, List.set_cons_succ])
          refine txt_done ?_
          clear hS
          have HX := hid (H3.out.drew.drew)
          have EX := hid ((E3.out.trans (Ext.drew _)).trans (Ext.drew _))
          generalize World.drew (World.drew w3) = wx at *
          have Hsl2 := hid (fun (W : World) => slice68 (b := b) (off := off) (n := n) (c := c) (i := i + 1) (lo := (i : Int) + 1) W (by omega) (by have := Hlt.out; omega) hc)
          obtain ⟨offR, hoffR⟩ : ∃ o, o = (if c = i + 1 then off else off + (i + 1)) := ⟨_, rfl⟩
          obtain ⟨N2, hN2⟩ : ∃ N2, N2 = n - (i + 1) := ⟨_, rfl⟩
          obtain ⟨C2, hC2⟩ : ∃ C2, C2 = c - (i + 1) := ⟨_, rfl⟩
          have hNC : N2 ≤ C2 := by omega
          have Hoff := hid (fun (k : Nat) (hk : k < N2) => show offR = off + (i + 1) by rw [hoffR, if_neg (by omega)])
          rw [← hoffR, ← hN2, ← hC2] at Hsl2
          have HN2 := hid hN2
          have hN2I : (N2 : Int) ≤ 64 := by omega
          rw [← hN2] at HR1
          clear hoffR hN2 hC2 e1 e2
          obtain ⟨z0, _, _⟩ := KeepX.out wx ms1 Hm1.out HX.out
          go_wp2_with (refine wpList_run rfl (.slice (some ⟨b, offR, none⟩) N2 C2) _ (ex_slice68 rfl (Hsl2.out _)) ?_)
          clear z0
          go_loopw [68] (fun v wq => ∃ (k : Nat) (ms2 : List MS), k ≤ N2 ∧ v = .int .i64 k ∧ MatIs n off (elimK n i byn M1 k) cur1 ms2 ∧ ms2[i]? = some (blk bq curq 3) ∧ Has wq (blk bi #[.int .i64 i] 3 + (blk b cur1 69 + (sumMS ms2 + F))) ∧ Ext w wq) (fun v _ => N2 - (intOf v).toNat)
          case atStart => exact ⟨0, ms1, Nat.zero_le _, rfl, by rw [elimK_start]; exact HM1.out, Hm1.out, HX.out, EX.out⟩
          case round =>
            obtain ⟨k, ms2, hk, rfl, hM2, hm2, hWq, hEq⟩ := hrel
            have HM2 := hid hM2
            have Hm2 := hid hm2
            have HWq := hid hWq
            have HEq := hid hEq
            clear hM2 hm2 hWq hEq
            by_cases hkl : k < N2
            · have hklI : (k : Int) < N2 := by omega
              have hjn : i + 1 + k < n := by have := HN2.out; omega
              have hko := Hoff.out k hkl
              subst hko
              obtain ⟨rj, hrj⟩ : ∃ rj, M1[i + 1 + k]? = some rj := ⟨_, List.getElem?_eq_getElem (by rw [HM1.out.lm]; exact hjn)⟩
              have hrj2 : (elimK n i byn M1 k)[i + 1 + k]? = some rj := by rw [elimK_next, hrj]
              have hrjl := HN1.out.row rj (List.mem_of_getElem? hrj)
              have hrjlt := HN1.out.lt rj (List.mem_of_getElem? hrj)
              obtain ⟨vj2, mj2, hvj2, hmj2, hsj2⟩ := HM2.out.row _ _ hrj2
              obtain ⟨y0, hy0⟩ : ∃ y0, rj[i]? = some y0 := ⟨_, List.getElem?_eq_getElem (by rw [hrjl]; exact Hlt.out)⟩
              have hy0p : y0 < prm := hrjlt y0 (List.mem_of_getElem? hy0)
              obtain ⟨br, orr, cr, curr, hvje, hmje, hcr, hcelly, _⟩ := hsj2.at_ hy0
              rw [hrjl] at hvje hcr
              subst hvje
              subst hmje
              have g0 : wr.cell? ⟨b, off + (i + 1) + k, none⟩ = some (.slice (some ⟨br, orr, none⟩) n cr) := HWq.out.right.at_ (by rw [Nat.add_assoc]; exact hvj2)
              have g1 : wr.cell? ⟨br, orr + i, none⟩ = some (.int .i64 (y0 : Int)) := ((sumMS_at hmj2 (blk_at hcelly)).less F).c0 HWq.out.right.right
              obtain ⟨g2, g3, g4⟩ := KeepX.out wr ms2 Hm2.out HWq.out
              obtain ⟨e1, e2⟩ := mul_facts hy0p hbl
              have hrow : elimRow n i byn ((M1).getD i []) rj = if y0 * byn % prm = 0 then rj else elimC i (y0 * byn % prm) ri rj n := by
                unfold elimRow
                rw [Hgd.out, List.getD_eq_getElem?_getD, hy0]
                rfl
              have hfp : y0 * byn % prm < prm := Nat.mod_lt _ (by decide)
              obtain ⟨YB, hYB⟩ : ∃ YB : Int, YB = ((y0 * byn : Nat) : Int) := ⟨_, rfl⟩
              rw [← hYB] at e1 e2
              generalize y0 * byn % prm = f at *
              have Hrow := hid hrow
              have Hstep := hid (elimK_step (n := n) (i := i) (by' := byn) hrj)
              have Hrj2 := hid hrj2
              have Hkl := hid hkl
              have Hsj := hid hsj2
              have Hmj := hid hmj2
              have Hvj2 := hid hvj2
              have Hrj := hid hrj
              have Hrjl := hid hrjl
              have Hrjlt := hid hrjlt
              have Hjn := hid hjn
              clear hrow hrj2 hkl hsj2 hmj2 hvj2 hrj hrjl hrjlt hjn hYB hy0 hk hcelly hy0p
              by_cases hf0 : f = 0
              · subst hf0
                go_wp2
                clear g0 g1 g2 g3 g4
                go_loopw [10] (fun v wz => v = .int .i64 i ∧ Has wz (blk bi #[.int .i64 i] 3 + (blk b cur1 69 + (sumMS ms2 + F))) ∧ Ext w wz) (fun _ _ => 0)
                case atStart => exact ⟨rfl, HWq.out, HEq.out⟩
                case round =>
                obtain ⟨rfl, hW9, hE9⟩ := hrel
                have HW9 := hid hW9
                have HE9 := hid hE9
                clear hW9 hE9
                go_wp2
                go_roundw
                case rel => exact ⟨k + 1, ms2, Hkl.out, by go_num, by
                  rw [Hstep.out, Hrow.out]
                  first | rw [if_pos rfl] | rw [if_pos trivial]
                  obtain ⟨hl, he⟩ := List.getElem?_eq_some_iff.1 Hrj2.out
                  rw [← he, List.set_getElem_self hl]
                  exact HM2.out, Hm2.out, HW9.out, HE9.out⟩
                case measure => have := Hkl.out; simp [intOf]; omega
              · have Hf0 := hid hf0
                have hfb : ((f : Int) != 0) = true := by rw [bne_iff_ne]; omega
                have hfI : ¬ ((f : Int) = 0) := by omega
                obtain ⟨Rm, hRm⟩ := sumMS_take (l := ms2) (i := i + 1 + k) (by rw [HM2.out.ls]; exact Hjn.out)
                have hsum2 : sumMS ms2 = blk br curr 3 + Rm := by
                  have h1 := hRm (blk br curr 3)
                  obtain ⟨hl, he⟩ := List.getElem?_eq_some_iff.1 Hmj.out
                  rw [← he, List.set_getElem_self hl] at h1
                  rw [h1, he]
                have HRat := hid (fun (cc y : Nat) (hy : ri[cc]? = some y) => show Rm.at bq (oq + cc) (.int .i64 (y : Int)) from by
                  have h1 := hRm 0
                  rw [MS.zero_add] at h1
                  rw [← h1]
                  exact sumMS_at (i := i) (by rw [List.getElem?_set_ne (by omega)]; exact Hm2.out) (blk_at (Hs1.out.cell hy)))
                have HRm := hid hRm
                have HWi := hid (show Has wr (blk br curr 3 + (Rm + (blk bi #[.int .i64 i] 3 + (blk b cur1 69 + F)))) from HWq.out.eq (by rw [hsum2]; ac_rfl))
                have Hv1 := hid (show cur1[off + i]? = some (.slice (some ⟨bq, oq, none⟩) n cq) by
                  obtain ⟨v, m, q1, q2, q3⟩ := HM2.out.row i ri (by rw [elimK_row]; exact Hri.out)
                  have := HWq.out.right.cell (off + i)
                  rw [g3] at this
                  exact this.symm)
                clear hf0 hsum2 hRm
                go_wp2
                clear g0 g1 g2 g3 g4
                go_loopw [10] (fun v wz => ∃ (cc : Nat) (cur3 : Array Value), i ≤ cc ∧ cc ≤ n ∧ v = .int .i64 cc ∧ NatS (elimC i f ri rj cc) (.slice (some ⟨br, orr, none⟩) n cr) (blk br cur3 3) ∧ Has wz (blk br cur3 3 + (Rm + (blk bi #[.int .i64 i] 3 + (blk b cur1 69 + F)))) ∧ Ext w wz) (fun v _ => n - (intOf v).toNat)
                case atStart => exact ⟨i, curr, Nat.le_refl _, Nat.le_of_lt Hlt.out, rfl, by rw [elimC_start]; exact Hsj.out, HWi.out, HEq.out⟩
                case round =>
                  obtain ⟨cc, cur3, hic, hcn, rfl, hs3, hWz, hEz⟩ := hrel
                  have Hs3 := hid hs3
                  have HWz := hid hWz
                  have HEz := hid hEz
                  clear hs3 hWz hEz
                  by_cases hcl : cc < n
                  · have hclI : (cc : Int) < n := by omega
                    obtain ⟨x3, hx3⟩ : ∃ x3, rj[cc]? = some x3 := ⟨_, List.getElem?_eq_getElem (by rw [Hrjl.out]; exact hcl)⟩
                    obtain ⟨y3, hy3⟩ : ∃ y3, ri[cc]? = some y3 := ⟨_, List.getElem?_eq_getElem (by rw [Hril.out]; exact hcl)⟩
                    have hx3p := Hrjlt.out x3 (List.mem_of_getElem? hx3)
                    have hy3p := Hrilt.out y3 (List.mem_of_getElem? hy3)
                    have Hc3 := hid (Hs3.out.cell (elimC_at hx3))
                    have hS : wr.drew.cell? ⟨br, orr + cc, none⟩ = some (.int .i64 (x3 : Int)) ∧ wr.drew.cell? ⟨bi, 0, none⟩ = some (.int .i64 i) ∧ wr.drew.cell? ⟨b, off + i, none⟩ = some (.slice (some ⟨bq, oq, none⟩) n cq) ∧ wr.drew.cell? ⟨bq, oq + cc, none⟩ = some (.int .i64 (y3 : Int)) :=
                      ⟨HWz.out.at_ Hc3.out, HWz.out.right.right.at_ (i := 0) rfl, HWz.out.right.right.right.at_ Hv1.out, (HRat.out cc y3 hy3).c0 HWz.out.right.left⟩
                    have s1 := sub_facts (Nat.le_of_lt hfp)
                    obtain ⟨s2, _⟩ := mul_le_facts (Nat.sub_le prm f) (Nat.le_of_lt hy3p)
                    obtain ⟨s3, s4⟩ := add_facts (Nat.sub_le prm f) (Nat.le_of_lt hy3p) hx3p
                    obtain ⟨FP, hFP⟩ : ∃ FP : Int, FP = ((prm - f : Nat) : Int) := ⟨_, rfl⟩
                    obtain ⟨PY, hPY⟩ : ∃ PY : Int, PY = (((prm - f) * y3 : Nat) : Int) := ⟨_, rfl⟩
                    obtain ⟨XP, hXP⟩ : ∃ XP : Int, XP = ((x3 + (prm - f) * y3 : Nat) : Int) := ⟨_, rfl⟩
                    obtain ⟨VV, hVV⟩ : ∃ VV : Int, VV = (((x3 + (prm - f) * y3) % prm : Nat) : Int) := ⟨_, rfl⟩
                    rw [← hFP] at s1 s2
                    rw [← hPY] at s2 s3
                    rw [← hXP] at s3 s4
                    rw [← hVV] at s4
                    have Hy3 := hid hy3
                    have Hx3 := hid hx3
                    have HVV := hid hVV
                    have Hcl := hid hcl
                    have Hic := hid hic
                    clear hy3 hx3 hVV hcl hic hFP hPY hXP hx3p hy3p hcn
                    go_wp2
                    refine wp_region_txt (fun W => W.cell? ⟨br, orr + cc, none⟩ = some (.int .i64 (x3 : Int)) ∧ W.cell? ⟨bi, 0, none⟩ = some (.int .i64 i) ∧ W.cell? ⟨b, off + i, none⟩ = some (.slice (some ⟨bq, oq, none⟩) n cq) ∧ W.cell? ⟨bq, oq + cc, none⟩ = some (.int .i64 (y3 : Int))) (some 19)
                      [(0, true), (1, true), (2, true), (3, true), (4, true), (5, true), (6, true), (7, true), (8, true), (9, true), (10, true), (11, true), (12, true), (13, true), (14, true), (15, true), (16, true), (17, true), (18, true), (19, false)] (by kernel_rfl) rfl (by kernel_rfl) (by kernel_rfl) (by repeat (first | with_reducible refine PanicOk.thn ?_ | with_reducible refine PanicOk.blk ?_ | exact PanicOk.body _ _ _)) ?_
                    repeat
                      (refine txt_quiet ?_ hS rfl rfl (fun W hW => ?_) ?_
                       rotate_left 1
                       · obtain ⟨hW1, hW2, hW3, hW4⟩ := hW
                         go_simp
                         exact rfl
                       simp only [Act.put, List.setIfInBounds_toArray, List.set_cons_zero, List.set_cons_succ])
                    refine txt_op rfl rfl ?_
                    refine op_store_blk (.tmp 108) (.tmp 107) 3 rfl size3 br (orr + cc) (.int .i64 VV) rfl rfl rfl cur3 3 _ HWz.out.drew (arr_lt Hc3.out) ?_
                    intro w5 k1 k2
                    have H5 := hid k1
                    have E5 := hid ((HEz.out.trans (Ext.drew _)).trans k2)
                    clear k1 k2 hS
                    refine ⟨fun h => absurd rfl h, ?_⟩
                    simp only [Act.put, List.setIfInBounds_toArray, List.set_cons_zero, List.set_cons_succ]
                    refine txt_done ?_
                    go_wp2
                    go_roundw
                    case rel => exact ⟨cc + 1, _, by have := Hic.out; omega, Hcl.out, by go_num, by
                      rw [elimC_step Hic.out Hx3.out, List.getD_eq_getElem?_getD, Hy3.out]
                      have := Hs3.out.put (elimC_at Hx3.out) ((x3 + (prm - f) * y3) % prm)
                      rw [← HVV.out] at this
                      exact this, H5.out, E5.out⟩
                    case measure => have := Hcl.out; simp [intOf]; omega
                  · have hce : cc = n := by omega
                    subst hce
                    have Hturn := hid (HM2.out.turn Hjn.out Hvj2.out Hs3.out)
                    clear hcl hic hcn
                    go_wp2
                    go_roundw
                    case rel => exact ⟨k + 1, _, Hkl.out, by go_num, by
                      rw [Hstep.out, Hrow.out, if_neg Hf0.out]
                      exact Hturn.out, by rw [List.getElem?_set_ne (by omega)]; exact Hm2.out, HWz.out.eq (by rw [HRm.out]; ac_rfl), HEz.out⟩
                    case measure => have := Hkl.out; simp [intOf]; omega
            · have hke : k = N2 := by omega
              subst hke
              clear hkl hk
              go_wp2
              go_roundw
              case rel => exact ⟨i + 1, out1 * x % prm, elimK n i byn M1 k, cur1, ms2, Hlt.out, by go_num, by rw [HOM.out], HM2.out, HN1.out.elim i byn k, Nat.mod_lt _ (by decide), by rw [← HN2.out]; exact HR1.out, HWq.out.right, HEq.out⟩
              case measure => have := Hlt.out; simp [intOf]; omega
    · have hie : i = n := by omega
      subst hie
      have hfin : detOut out = R := by
        have := Hd.out
        rw [Nat.sub_self] at this
        exact this
      have Hfin := hid hfin
      clear hlt hi hfin
      by_cases hbig : out > 1073741823
      · have hbigI : (1073741823 : Int) < out := by omega
        have hw1 : IntKind.i64.wrap ((out : Int) - 2147483647) = (out : Int) - 2147483647 := by rw [IntKind.wrap_i64]; unfold prm at ho; omega
        have HD := hid (show detOut out = (out : Int) - 2147483647 by unfold detOut; rw [if_pos hbig])
        clear hbig ho
        go_wp2
        go_ret
        exact ⟨by rw [← Hfin.out, HD.out]; rfl, HW.out.right.right, HE.out⟩
      · have hbigI : ¬ (1073741823 : Int) < out := by omega
        have HD := hid (show detOut out = (out : Int) by unfold detOut; rw [if_neg hbig])
        clear hbig ho
        go_wp2
        go_ret
        exact ⟨by rw [← Hfin.out, HD.out]; rfl, HW.out.right.right, HE.out⟩
end Go.Proofs.YtcdhimnmbpllgaaDoor

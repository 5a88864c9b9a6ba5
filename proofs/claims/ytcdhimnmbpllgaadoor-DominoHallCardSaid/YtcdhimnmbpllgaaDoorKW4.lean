/-
  The walk of Refute (19; printed by gen_refu.py).
-/
import Derived.Test.YtcdhimnmbpllgaaDoorKW3
import Derived.Test.YtcdhimnmbpllgaaDoorKPlain2
import Derived.Test.YtcdhimnmbpllgaaDoorKSort
namespace Go.Proofs.YtcdhimnmbpllgaaDoor
open Go.RowKit Go.MapKept Go.ChangeMaps
set_option linter.unusedVariables false
set_option linter.unusedSimpArgs false
set_option maxHeartbeats 4000000
set_option maxRecDepth 100000

theorem refu_no {F : MS} {p : List ByteArray} {A : Option Addr} {c : Nat} {w : World} (hr : RdS F RT.str p (.slice A p.length c)) (hl : p.length ≤ 1000) (hs : ∀ s ∈ p, s.size ≤ 1000000) (hH : Has w F) (hq : isReg p = false) :
    Calls Tryd.prog 19 #[.slice A p.length c] w fun e w' => e = .returned (.tuple #[.slice none 0 0, .int .i64 2]) ∧ Kp w w' := by
  have Hof := hid (of_any hr hl hs hH)
  clear hl hs hr hH
  have hv : regV p A c = noReg := by unfold regV; rw [hq]; rfl
  rw [hq, hv] at Hof
  clear hq hv
  go_enter Tryd.func19, Tryd.ntmps19
  go_wp2_with (first
    | (go_at_call 32; refine Hof.out.mono ?_; rintro e1 w1 ⟨rfl, k1⟩; have K1 := hid (k1.1 _ (Has.all w)); have E1 := hid k1.2; have KA := hid ((K1.out).alloc (.cells #[.int .i64 0, .int .i64 0, .slice none 0 0] 51)); have EA := hid (E1.out.trans (Ext.alloc _ (.cells #[.int .i64 0, .int .i64 0, .slice none 0 0] 51))); clear k1)
    | (refine wpList_store_whole rfl (.tmp 4) (.tmp 17) 51 rfl 3 size51 w1.heap.size noReg rfl rfl rfl (by simp [noReg, Value.cells, Value.oneCell']) #[.int .i64 0, .int .i64 0, .slice none 0 0] 51 _ KA.out rfl ?_; intro w6 j1 j2; have HW6 := hid (show Has w6 (blk w1.heap.size #[.int .i64 0, .int .i64 0, .slice none 0 0] 51 + MS.all w) from j1); have HE6 := hid (EA.out.trans j2); clear j1 j2))
  go_ret2
  exact ⟨rfl, fun M hM => hM.of_all HW6.out, HE6.out⟩
theorem refu_few {F : MS} {p : List ByteArray} {A : Option Addr} {c : Nat} {w : World} (hr : RdS F RT.str p (.slice A p.length c)) (hl : p.length ≤ 1000) (hs : ∀ s ∈ p, s.size ≤ 1000000) (hf : FourOk F) (hH : Has w F) (hq : isReg p = true) (hidx : idxM (matF p) (cellsL p) = -1) :
    Calls Tryd.prog 19 #[.slice A p.length c] w fun e w' => e = .returned (.tuple #[.slice none 0 0, .int .i64 10]) ∧ Kp w w' := by
  have Hof := hid (of_any hr hl hs hH)
  have hv : regV p A c = rgV p A c := by unfold regV; rw [hq]; rfl
  rw [hq, hv] at Hof
  have hp := (isReg.ok hq).1
  have hra := rd_all_str hr hH
  have hfa := hf.all hH
  have hw8 := hp.w8
  have hh8 := hp.h8
  have Hmat := hid (fun (W : World) (h : Has W (MS.all w)) => show Calls Tryd.prog 52 #[.agg #[.int .i64 (wd p), .int .i64 p.length, .slice A p.length c]] W fun e w' => ∃ gm es clock, e = .returned (.map (some gm)) ∧ EntsAre (mE (matF p)) es clock ∧ (∀ M, Has W M → Has w' (pts gm (.map es clock) + M)) ∧ Ext W w' from matched_any hra hp hfa h)
  have Hcells := hid (fun (W : World) (h : Has W (MS.all w)) => show Calls Tryd.prog 37 #[.agg #[.int .i64 (wd p), .int .i64 p.length, .slice A p.length c]] W fun e w' => ∃ v m, e = .returned v ∧ Cls (cellsL p) v m ∧ (∀ M, Has W M → Has w' (m + M)) ∧ Ext W w' from cells_any hra hp h)
  have Hnb := hid (fun (X Y : Nat) (hX : X < wd p) (hY : Y < p.length) (W : World) (h : Has W (MS.all w)) => show Calls Tryd.prog 39 #[.agg #[.int .i64 (wd p), .int .i64 p.length, .slice A p.length c], .agg #[.int .i64 (X : Int), .int .i64 (Y : Int)]] W fun e w' => ∃ v m, e = .returned v ∧ Cls (nbrsL p ((X : Int), (Y : Int))) v m ∧ (∀ M, Has W M → Has w' (m + M)) ∧ Ext W w' from nbrs_any hra hp hfa h ((X : Int), (Y : Int)) (by simp only; omega) (by simp only; omega))
  have hc64 : (cellsL p).length ≤ 64 := by
    have h2 := cellsK_len p p.length
    have h3 : p.length * wd p ≤ 8 * 8 := Nat.mul_le_mul hp.h8 hp.w8
    unfold cellsL
    omega
  have Hcsm := hid (fun q (h : q ∈ cellsL p) => show small q from inR_small hp (mem_cells.1 h))
  obtain ⟨nC, hnC⟩ : ∃ nC, nC = (cellsL p).length := ⟨_, rfl⟩
  have HnC := hid hnC
  rw [← hnC] at hc64
  have Hidx := hid (fun (F : MS) (b6 g : Nat) (W : World) (es : Array MapEntry) (clock : Nat) (A : Option Addr) (c : Nat) (hr : RdS F RT.cl (cellsL p) (.slice A nC c)) (h6 : F.at b6 0 (.map (some g))) (hM : EntsAre (mE (matF p)) es clock) (hH : Has W (pts g (.map es clock) + F)) => show Calls Tryd.prog 53 #[.slice A nC c, .func (.func 54) #[] #[.pointer (some ⟨b6, 0, none⟩)]] W fun e w' => e = .returned (.int .i64 (-1)) ∧ Kp W w' from by
    have h := idxf_any (by rw [← hnC]; exact hr) (by rw [← hnC]; omega) h6 hM hH Hcsm.out
    rw [hidx, ← hnC] at h
    exact h)
  have HpL := hid (show p.length = p.length from rfl)
  unfold rgV at Hof
  have Hp := hid hp
  obtain ⟨WN, hWN⟩ : ∃ WN, WN = wd p := ⟨_, rfl⟩
  obtain ⟨HN, hHN⟩ : ∃ HN, HN = p.length := ⟨_, rfl⟩
  have HWN := hid hWN
  have HHN := hid hHN
  rw [← hWN] at Hof Hmat Hcells Hnb hw8
  rw [← hHN] at Hof Hmat Hcells Hnb hh8 ⊢
  have H0 := hid (Has.all w)
  have E0 := hid (Ext.refl w)
  have hCI : (nC : Int) ≤ 64 := by omega
  clear hr hl hs hf hH hq hv hp hra hfa hWN hHN hnC
  clear hidx
  go_enter Tryd.func19, Tryd.ntmps19
  go_wp2_with (first
    | (go_at_call 53; refine (Hidx.out (mA + blk b6 #[.map (some gm)] 88) b6 gm w5 es clock AA cA (HA.out.rd.less _) ((blk_at (i := 0) rfl).more _) HM.out ((H5.out.eq (b := (pts gm (.map es clock) + (mA + blk b6 #[.map (some gm)] 88)) + (blk b4 #[.int .i64 (WN : Int), .int .i64 (HN : Int), .slice A HN c] 51 + MS.all w)) (by ac_rfl)).left)).mono ?_; rintro e6 w6 ⟨rfl, k6⟩; have H6 := hid (k6.1 _ H5.out); have E6 := hid (E5.out.trans k6.2); clear k6)
    | (go_at_call 37; refine (Hcells.out w4 ((H4.out.eq (b := ((blk b6 #[.map (some gm)] 88 + (pts gm (.map es clock) + blk b4 #[.int .i64 (WN : Int), .int .i64 (HN : Int), .slice A HN c] 51)) + MS.all w)) (by ac_rfl)).right)).mono ?_; rintro e5 w5 ⟨vA, mA, rfl, hA, k5, l5⟩; have H5 := hid (k5 _ H4.out); have E5 := hid (E4.out.trans l5); clear k5 l5; obtain ⟨AA, cA, rfl, _⟩ := SlR.form hA; rw [← HnC.out] at hA ⊢; have HA := hid hA; clear u0 u1 u2 hA)
    | (rw [← Hb6.out]; refine wpList_store_whole rfl (.tmp 6) (.tmp 22) 88 rfl 1 size88 b6 (.map (some gm)) rfl rfl rfl (by simp [Value.cells, Value.oneCell']) #[.map none] 88 _ HAb6.out rfl ?_; intro w4 j1 j2; have H4 := hid (show Has w4 (blk b6 #[.map (some gm)] 88 + (pts gm (.map es clock) + (blk b4 #[.int .i64 (WN : Int), .int .i64 (HN : Int), .slice A HN c] 51 + MS.all w))) from j1.eq (by unfold blk; ac_rfl)); have E4 := hid ((E3.out.trans (Ext.alloc _ _)).trans j2); clear j1 j2; have u0 := (H4.out.eq (b := (blk b4 #[.int .i64 (WN : Int), .int .i64 (HN : Int), .slice A HN c] 51 + (blk b6 #[.map (some gm)] 88 + (pts gm (.map es clock) + MS.all w)))) (by ac_rfl)).at_ (i := 0) rfl; have u1 := (H4.out.eq (b := (blk b4 #[.int .i64 (WN : Int), .int .i64 (HN : Int), .slice A HN c] 51 + (blk b6 #[.map (some gm)] 88 + (pts gm (.map es clock) + MS.all w)))) (by ac_rfl)).at_ (i := 1) rfl; have u2 := (H4.out.eq (b := (blk b4 #[.int .i64 (WN : Int), .int .i64 (HN : Int), .slice A HN c] 51 + (blk b6 #[.map (some gm)] 88 + (pts gm (.map es clock) + MS.all w)))) (by ac_rfl)).at_ (i := 2) rfl)
    | (go_at_call 52; refine (Hmat.out w2 ((H2.out.eq (b := (blk b4 #[.int .i64 (WN : Int), .int .i64 (HN : Int), .slice A HN c] 51 + MS.all w)) (by ac_rfl)).right)).mono ?_; rintro e3 w3 ⟨gm, es, clock, rfl, hM, k3, l3⟩; have H3 := hid (k3 _ H2.out); have E3 := hid (E2.out.trans l3); have HM := hid hM; clear k3 l3 u0 u1 u2 hM; obtain ⟨b6, hb6⟩ : ∃ b6, b6 = w3.heap.size := ⟨_, rfl⟩; have HAb6 := hid (show Has (w3.alloc (.cells #[.map none] 88)) (blk b6 #[.map none] 88 + (pts gm (.map es clock) + (blk b4 #[.int .i64 (WN : Int), .int .i64 (HN : Int), .slice A HN c] 51 + MS.all w))) by rw [hb6]; exact H3.out.alloc _); have Hb6 := hid hb6; clear hb6)
    | (rw [← Hb4.out]; refine wpList_store_whole rfl (.tmp 4) (.tmp 17) 51 rfl 3 size51 b4 (.agg #[.int .i64 (WN : Int), .int .i64 (HN : Int), .slice A HN c]) rfl rfl rfl (by simp [Value.cells, Value.oneCell']) #[.int .i64 0, .int .i64 0, .slice none 0 0] 51 _ HAb4.out rfl ?_; intro w2 j1 j2; have H2 := hid (show Has w2 (blk b4 #[.int .i64 (WN : Int), .int .i64 (HN : Int), .slice A HN c] 51 + MS.all w) from j1.eq (by unfold blk; ac_rfl)); have E2 := hid ((E1.out.trans (Ext.alloc _ _)).trans j2); clear j1 j2; have u0 := (H2.out.eq (b := (blk b4 #[.int .i64 (WN : Int), .int .i64 (HN : Int), .slice A HN c] 51 + MS.all w)) (by ac_rfl)).at_ (i := 0) rfl; have u1 := (H2.out.eq (b := (blk b4 #[.int .i64 (WN : Int), .int .i64 (HN : Int), .slice A HN c] 51 + MS.all w)) (by ac_rfl)).at_ (i := 1) rfl; have u2 := (H2.out.eq (b := (blk b4 #[.int .i64 (WN : Int), .int .i64 (HN : Int), .slice A HN c] 51 + MS.all w)) (by ac_rfl)).at_ (i := 2) rfl)
    | (go_at_call 32; refine (Hof.out).mono ?_; rintro e1 w1 ⟨rfl, k1⟩; have H1 := hid (k1.1 _ H0.out); have E1 := hid (E0.out.trans k1.2); clear k1; obtain ⟨b4, hb4⟩ : ∃ b4, b4 = w1.heap.size := ⟨_, rfl⟩; have HAb4 := hid (show Has (w1.alloc (.cells #[.int .i64 0, .int .i64 0, .slice none 0 0] 51)) (blk b4 #[.int .i64 0, .int .i64 0, .slice none 0 0] 51 + MS.all w) by rw [hb4]; exact H1.out.alloc _); have Hb4 := hid hb4; clear hb4))
  go_ret2
  exact ⟨rfl, fun M hM => hM.of_all ((H6.out.eq (b := ((mA + (blk b6 #[.map (some gm)] 88 + (pts gm (.map es clock) + blk b4 #[.int .i64 (WN : Int), .int .i64 (HN : Int), .slice A HN c] 51)))) + MS.all w) (by ac_rfl))), E6.out⟩
theorem refu_yes {F : MS} {p : List ByteArray} {A : Option Addr} {c : Nat} {w : World} (hr : RdS F RT.str p (.slice A p.length c)) (hl : p.length ≤ 1000) (hs : ∀ s ∈ p, s.size ≤ 1000000) (hf : FourOk F) (hH : Has w F) (hq : isReg p = true) {q0 : Cl} {i0 : Nat} (hi0 : (cellsL p)[i0]? = some q0) (hidx : idxM (matF p) (cellsL p) = (i0 : Int)) (G : Cl → Prop) (hG0 : G q0) (hG : ∀ x, G x → inR p x ∧ ∀ n ∈ nbrsL p x, ∃ b, lk2 (matF p) n = some b ∧ G b) :
    Calls Tryd.prog 19 #[.slice A p.length c] w fun e w' => ∃ v m l l', e = .returned (.tuple #[v, .int .i64 0]) ∧ Cls l' v m ∧ COut p (matF p) G q0 l ∧ l'.Perm l ∧ (∀ i j, i < j → j < l'.length → ltOf rdC (l'.getD j (0, 0)) (l'.getD i (0, 0)) = false) ∧ (∀ M, Has w M → Has w' (m + M)) ∧ Ext w w' := by
  have Hlen := hid (fun (l : List Cl) (hn : l.Nodup) (hg : ∀ x ∈ l, G x) => show l.length ≤ 64 from inR_len (isReg.ok hq).1 hn (fun x hx => (hG x (hg x hx)).1))
  have HGn := hid hG
  have HG0 := hid hG0
  have Hof := hid (of_any hr hl hs hH)
  have hv : regV p A c = rgV p A c := by unfold regV; rw [hq]; rfl
  rw [hq, hv] at Hof
  have hp := (isReg.ok hq).1
  have hra := rd_all_str hr hH
  have hfa := hf.all hH
  have hw8 := hp.w8
  have hh8 := hp.h8
  have Hmat := hid (fun (W : World) (h : Has W (MS.all w)) => show Calls Tryd.prog 52 #[.agg #[.int .i64 (wd p), .int .i64 p.length, .slice A p.length c]] W fun e w' => ∃ gm es clock, e = .returned (.map (some gm)) ∧ EntsAre (mE (matF p)) es clock ∧ (∀ M, Has W M → Has w' (pts gm (.map es clock) + M)) ∧ Ext W w' from matched_any hra hp hfa h)
  have Hcells := hid (fun (W : World) (h : Has W (MS.all w)) => show Calls Tryd.prog 37 #[.agg #[.int .i64 (wd p), .int .i64 p.length, .slice A p.length c]] W fun e w' => ∃ v m, e = .returned v ∧ Cls (cellsL p) v m ∧ (∀ M, Has W M → Has w' (m + M)) ∧ Ext W w' from cells_any hra hp h)
  have Hnb := hid (fun (X Y : Nat) (hX : X < wd p) (hY : Y < p.length) (W : World) (h : Has W (MS.all w)) => show Calls Tryd.prog 39 #[.agg #[.int .i64 (wd p), .int .i64 p.length, .slice A p.length c], .agg #[.int .i64 (X : Int), .int .i64 (Y : Int)]] W fun e w' => ∃ v m, e = .returned v ∧ Cls (nbrsL p ((X : Int), (Y : Int))) v m ∧ (∀ M, Has W M → Has w' (m + M)) ∧ Ext W w' from nbrs_any hra hp hfa h ((X : Int), (Y : Int)) (by simp only; omega) (by simp only; omega))
  have hc64 : (cellsL p).length ≤ 64 := by
    have h2 := cellsK_len p p.length
    have h3 : p.length * wd p ≤ 8 * 8 := Nat.mul_le_mul hp.h8 hp.w8
    unfold cellsL
    omega
  have Hcsm := hid (fun q (h : q ∈ cellsL p) => show small q from inR_small hp (mem_cells.1 h))
  obtain ⟨nC, hnC⟩ : ∃ nC, nC = (cellsL p).length := ⟨_, rfl⟩
  have HnC := hid hnC
  rw [← hnC] at hc64
  have Hidx := hid (fun (F : MS) (b6 g : Nat) (W : World) (es : Array MapEntry) (clock : Nat) (A : Option Addr) (c : Nat) (hr : RdS F RT.cl (cellsL p) (.slice A nC c)) (h6 : F.at b6 0 (.map (some g))) (hM : EntsAre (mE (matF p)) es clock) (hH : Has W (pts g (.map es clock) + F)) => show Calls Tryd.prog 53 #[.slice A nC c, .func (.func 54) #[] #[.pointer (some ⟨b6, 0, none⟩)]] W fun e w' => e = .returned (.int .i64 (i0 : Int)) ∧ Kp W w' from by
    have h := idxf_any (by rw [← hnC]; exact hr) (by rw [← hnC]; omega) h6 hM hH Hcsm.out
    rw [hidx, ← hnC] at h
    exact h)
  have HpL := hid (show p.length = p.length from rfl)
  unfold rgV at Hof
  have Hp := hid hp
  obtain ⟨WN, hWN⟩ : ∃ WN, WN = wd p := ⟨_, rfl⟩
  obtain ⟨HN, hHN⟩ : ∃ HN, HN = p.length := ⟨_, rfl⟩
  have HWN := hid hWN
  have HHN := hid hHN
  rw [← hWN] at Hof Hmat Hcells Hnb hw8
  rw [← hHN] at Hof Hmat Hcells Hnb hh8 ⊢
  have H0 := hid (Has.all w)
  have E0 := hid (Ext.refl w)
  have hCI : (nC : Int) ≤ 64 := by omega
  clear hr hl hs hf hH hq hv hp hra hfa hWN hHN hnC
  have hin0 := (hG q0 hG0).1
  have hi0C : i0 < nC := by rw [HnC.out]; exact (List.getElem?_eq_some_iff.1 hi0).1
  have hi0I : (i0 : Int) < nC := by omega
  have hi0n : ¬ ((i0 : Int) < 0) := by omega
  obtain ⟨X0, Y0, rfl, _, _⟩ := inR_nat hin0
  have Hi0 := hid hi0
  clear hidx hG hG0 hin0 hi0
  go_enter Tryd.func19, Tryd.ntmps19
  go_wp2_with (first
    | (go_at_call 53; refine (Hidx.out (mA + blk b6 #[.map (some gm)] 88) b6 gm w5 es clock AA cA (HA.out.rd.less _) ((blk_at (i := 0) rfl).more _) HM.out ((H5.out.eq (b := (pts gm (.map es clock) + (mA + blk b6 #[.map (some gm)] 88)) + (blk b4 #[.int .i64 (WN : Int), .int .i64 (HN : Int), .slice A HN c] 51 + MS.all w)) (by ac_rfl)).left)).mono ?_; rintro e6 w6 ⟨rfl, k6⟩; have H6 := hid (k6.1 _ H5.out); have E6 := hid (E5.out.trans k6.2); clear k6; obtain ⟨bA, oA, hbA, n0, n1⟩ := HA.out.rd.getCl Hi0.out; subst hbA; have y0 := n0.c0 ((H6.out.eq (b := (mA + (blk b6 #[.map (some gm)] 88 + (pts gm (.map es clock) + (blk b4 #[.int .i64 (WN : Int), .int .i64 (HN : Int), .slice A HN c] 51 + MS.all w))))) (by ac_rfl)).left); have y1 := n1.c0 ((H6.out.eq (b := (mA + (blk b6 #[.map (some gm)] 88 + (pts gm (.map es clock) + (blk b4 #[.int .i64 (WN : Int), .int .i64 (HN : Int), .slice A HN c] 51 + MS.all w))))) (by ac_rfl)).left); simp only at y0 y1; have HO := hid (show Has (w6.alloc (.cells #[.int .i64 (X0 : Int), .int .i64 (Y0 : Int)] 66)) (blk w6.heap.size #[.int .i64 (X0 : Int), .int .i64 (Y0 : Int)] 66 + (mA + (blk b6 #[.map (some gm)] 88 + (pts gm (.map es clock) + (blk b4 #[.int .i64 (WN : Int), .int .i64 (HN : Int), .slice A HN c] 51 + MS.all w))))) from H6.out.alloc _); have EO := hid (E6.out.trans (Ext.alloc _ (.cells #[.int .i64 (X0 : Int), .int .i64 (Y0 : Int)] 66))); clear n0 n1)
    | (go_at_call 37; refine (Hcells.out w4 ((H4.out.eq (b := ((blk b6 #[.map (some gm)] 88 + (pts gm (.map es clock) + blk b4 #[.int .i64 (WN : Int), .int .i64 (HN : Int), .slice A HN c] 51)) + MS.all w)) (by ac_rfl)).right)).mono ?_; rintro e5 w5 ⟨vA, mA, rfl, hA, k5, l5⟩; have H5 := hid (k5 _ H4.out); have E5 := hid (E4.out.trans l5); clear k5 l5; obtain ⟨AA, cA, rfl, _⟩ := SlR.form hA; rw [← HnC.out] at hA ⊢; have HA := hid hA; clear u0 u1 u2 hA)
    | (rw [← Hb6.out]; refine wpList_store_whole rfl (.tmp 6) (.tmp 22) 88 rfl 1 size88 b6 (.map (some gm)) rfl rfl rfl (by simp [Value.cells, Value.oneCell']) #[.map none] 88 _ HAb6.out rfl ?_; intro w4 j1 j2; have H4 := hid (show Has w4 (blk b6 #[.map (some gm)] 88 + (pts gm (.map es clock) + (blk b4 #[.int .i64 (WN : Int), .int .i64 (HN : Int), .slice A HN c] 51 + MS.all w))) from j1.eq (by unfold blk; ac_rfl)); have E4 := hid ((E3.out.trans (Ext.alloc _ _)).trans j2); clear j1 j2; have u0 := (H4.out.eq (b := (blk b4 #[.int .i64 (WN : Int), .int .i64 (HN : Int), .slice A HN c] 51 + (blk b6 #[.map (some gm)] 88 + (pts gm (.map es clock) + MS.all w)))) (by ac_rfl)).at_ (i := 0) rfl; have u1 := (H4.out.eq (b := (blk b4 #[.int .i64 (WN : Int), .int .i64 (HN : Int), .slice A HN c] 51 + (blk b6 #[.map (some gm)] 88 + (pts gm (.map es clock) + MS.all w)))) (by ac_rfl)).at_ (i := 1) rfl; have u2 := (H4.out.eq (b := (blk b4 #[.int .i64 (WN : Int), .int .i64 (HN : Int), .slice A HN c] 51 + (blk b6 #[.map (some gm)] 88 + (pts gm (.map es clock) + MS.all w)))) (by ac_rfl)).at_ (i := 2) rfl)
    | (go_at_call 52; refine (Hmat.out w2 ((H2.out.eq (b := (blk b4 #[.int .i64 (WN : Int), .int .i64 (HN : Int), .slice A HN c] 51 + MS.all w)) (by ac_rfl)).right)).mono ?_; rintro e3 w3 ⟨gm, es, clock, rfl, hM, k3, l3⟩; have H3 := hid (k3 _ H2.out); have E3 := hid (E2.out.trans l3); have HM := hid hM; clear k3 l3 u0 u1 u2 hM; obtain ⟨b6, hb6⟩ : ∃ b6, b6 = w3.heap.size := ⟨_, rfl⟩; have HAb6 := hid (show Has (w3.alloc (.cells #[.map none] 88)) (blk b6 #[.map none] 88 + (pts gm (.map es clock) + (blk b4 #[.int .i64 (WN : Int), .int .i64 (HN : Int), .slice A HN c] 51 + MS.all w))) by rw [hb6]; exact H3.out.alloc _); have Hb6 := hid hb6; clear hb6)
    | (rw [← Hb4.out]; refine wpList_store_whole rfl (.tmp 4) (.tmp 17) 51 rfl 3 size51 b4 (.agg #[.int .i64 (WN : Int), .int .i64 (HN : Int), .slice A HN c]) rfl rfl rfl (by simp [Value.cells, Value.oneCell']) #[.int .i64 0, .int .i64 0, .slice none 0 0] 51 _ HAb4.out rfl ?_; intro w2 j1 j2; have H2 := hid (show Has w2 (blk b4 #[.int .i64 (WN : Int), .int .i64 (HN : Int), .slice A HN c] 51 + MS.all w) from j1.eq (by unfold blk; ac_rfl)); have E2 := hid ((E1.out.trans (Ext.alloc _ _)).trans j2); clear j1 j2; have u0 := (H2.out.eq (b := (blk b4 #[.int .i64 (WN : Int), .int .i64 (HN : Int), .slice A HN c] 51 + MS.all w)) (by ac_rfl)).at_ (i := 0) rfl; have u1 := (H2.out.eq (b := (blk b4 #[.int .i64 (WN : Int), .int .i64 (HN : Int), .slice A HN c] 51 + MS.all w)) (by ac_rfl)).at_ (i := 1) rfl; have u2 := (H2.out.eq (b := (blk b4 #[.int .i64 (WN : Int), .int .i64 (HN : Int), .slice A HN c] 51 + MS.all w)) (by ac_rfl)).at_ (i := 2) rfl)
    | (go_at_call 32; refine (Hof.out).mono ?_; rintro e1 w1 ⟨rfl, k1⟩; have H1 := hid (k1.1 _ H0.out); have E1 := hid (E0.out.trans k1.2); clear k1; obtain ⟨b4, hb4⟩ : ∃ b4, b4 = w1.heap.size := ⟨_, rfl⟩; have HAb4 := hid (show Has (w1.alloc (.cells #[.int .i64 0, .int .i64 0, .slice none 0 0] 51)) (blk b4 #[.int .i64 0, .int .i64 0, .slice none 0 0] 51 + MS.all w) by rw [hb4]; exact H1.out.alloc _); have Hb4 := hid hb4; clear hb4))
  go_loopw [9, 10] (fun v9 v10 wr => ∃ (at' : Nat) (o : List Cl) (mo : MS), at' ≤ o.length ∧ v10 = .int .i64 at' ∧ Cls o v9 mo ∧ CInv p (matF p) G ((X0 : Int), (Y0 : Int)) o at' 0 ∧ Has wr (mo + (pts gm (.map es clock) + (blk b6 #[.map (some gm)] 88 + (mA + (blk b4 #[.int .i64 (WN : Int), .int .i64 (HN : Int), .slice A HN c] 51 + MS.all w))))) ∧ Ext w wr) (fun _ v _ => 64 - (intOf v).toNat)
  case atStart => exact ⟨0, [((X0 : Int), (Y0 : Int))], blk w6.heap.size #[.int .i64 (X0 : Int), .int .i64 (Y0 : Int)] 66, Nat.zero_le _, rfl, ⟨[.int .i64 (X0 : Int), .int .i64 (Y0 : Int)], blk w6.heap.size #[.int .i64 (X0 : Int), .int .i64 (Y0 : Int)] 66, 0, Sl.made (e := 66) (sz := 2) (n := 1) _ #[.int .i64 (X0 : Int), .int .i64 (Y0 : Int)] (by simp [maxLen]) (by simp), cls_rows [((X0 : Int), (Y0 : Int))], (MS.add_zero _).symm⟩, CInv.start HG0.out, HO.out.eq (by ac_rfl), EO.out⟩
  case round =>
    obtain ⟨at', o, mo, hat, rfl, hC, hI, hW, hE⟩ := hrel
    obtain ⟨A9, c9, rfl, _⟩ := SlR.form hC
    obtain ⟨no, hno⟩ : ∃ no, no = o.length := ⟨_, rfl⟩
    have hno64 : no ≤ 64 := by rw [hno]; exact Hlen.out o hI.nd hI.good
    rw [← hno] at hat hC ⊢
    have Hno := hid hno
    have HC := hid hC
    have HI := hid hI
    have HW := hid hW
    have HE := hid hE
    have hnoI : (no : Int) ≤ 64 := by omega
    clear hC hI hW hE hno
    by_cases hlt : at' < no
    · have hltI : (at' : Int) < no := by omega
      have Hlt := hid hlt
      obtain ⟨x, hx⟩ : ∃ x, o[at']? = some x := ⟨_, List.getElem?_eq_getElem (by rw [← Hno.out]; exact hlt)⟩
      have hgx := HI.out.good x (List.mem_of_getElem? hx)
      obtain ⟨X, Y, rfl, hX, hY⟩ := inR_nat (HGn.out x hgx).1
      rw [← HWN.out] at hX
      rw [← HHN.out] at hY
      have Hgx := hid (HGn.out _ hgx).2
      obtain ⟨bo, oo, hbo, n0, n1⟩ := HC.out.rd.getCl hx
      subst hbo
      have Hx := hid hx
      have y0 := n0.c0 HW.out.left
      have y1 := n1.c0 HW.out.left
      have N0 := hid n0
      have N1 := hid n1
      simp only at y0 y1
      have hS : (fun W' : World => W'.cell? ⟨b4, 0, none⟩ = some (.int .i64 (WN : Int)) ∧ W'.cell? ⟨b4, 1, none⟩ = some (.int .i64 (HN : Int)) ∧ W'.cell? ⟨b4, 2, none⟩ = some (.slice A HN c) ∧ W'.cell? ⟨bo, oo + at' * 2, none⟩ = some (.int .i64 (X : Int)) ∧ W'.cell? ⟨bo, oo + at' * 2 + 1, none⟩ = some (.int .i64 (Y : Int))) wr.drew :=
        ⟨((HW.out.eq (b := (blk b4 #[.int .i64 (WN : Int), .int .i64 (HN : Int), .slice A HN c] 51 + (mo + (pts gm (.map es clock) + (blk b6 #[.map (some gm)] 88 + (mA + MS.all w)))))) (by ac_rfl)).at_ (i := 0) rfl : _), ((HW.out.eq (b := (blk b4 #[.int .i64 (WN : Int), .int .i64 (HN : Int), .slice A HN c] 51 + (mo + (pts gm (.map es clock) + (blk b6 #[.map (some gm)] 88 + (mA + MS.all w)))))) (by ac_rfl)).at_ (i := 1) rfl : _), ((HW.out.eq (b := (blk b4 #[.int .i64 (WN : Int), .int .i64 (HN : Int), .slice A HN c] 51 + (mo + (pts gm (.map es clock) + (blk b6 #[.map (some gm)] 88 + (mA + MS.all w)))))) (by ac_rfl)).at_ (i := 2) rfl : _), y0, y1⟩
      clear hlt hat hx hgx n0 n1 y0 y1
      go_wp2
      refine wp_region_txt (fun W' => W'.cell? ⟨b4, 0, none⟩ = some (.int .i64 (WN : Int)) ∧ W'.cell? ⟨b4, 1, none⟩ = some (.int .i64 (HN : Int)) ∧ W'.cell? ⟨b4, 2, none⟩ = some (.slice A HN c) ∧ W'.cell? ⟨bo, oo + at' * 2, none⟩ = some (.int .i64 (X : Int)) ∧ W'.cell? ⟨bo, oo + at' * 2 + 1, none⟩ = some (.int .i64 (Y : Int))) none
        [(0, true), (1, true), (2, true), (3, true), (4, true), (7, true), (5, false), (6, true)] (by kernel_rfl) rfl (by kernel_rfl) (by kernel_rfl) (by repeat (first | with_reducible refine PanicOk.thn ?_ | with_reducible refine PanicOk.blk ?_ | exact PanicOk.body _ _ _)) ?_
      repeat (first
        | (refine txt_off hS rfl rfl ?_; simp only [Act.put, List.setIfInBounds_toArray, List.set_cons_zero, List.set_cons_succ])
        | (refine txt_quiet ?_ hS rfl rfl (fun W hW => ?_) ?_
           rotate_left 1
           · obtain ⟨hW1, hW2, hW3, hW4, hW5⟩ := hW
             go_simp
             exact rfl
           simp only [Act.put, List.setIfInBounds_toArray, List.set_cons_zero, List.set_cons_succ]))
      refine txt_op rfl rfl ?_
      refine op_call 39 _ _ (by go_simp) _ (Hnb.out X Y hX hY wr.drew (((HW.out.eq (b := ((mo + (pts gm (.map es clock) + (blk b6 #[.map (some gm)] 88 + (mA + blk b4 #[.int .i64 (WN : Int), .int .i64 (HN : Int), .slice A HN c] 51)))) + MS.all w)) (by ac_rfl)).right).drew)) ?_
      rintro e20 w20 ⟨vN, mN, rfl, hN, k20, l20⟩
      obtain ⟨AN, cN, rfl, _⟩ := SlR.form hN
      have H20 := hid (k20 _ HW.out.drew)
      have E20 := hid ((HE.out.trans (Ext.drew _)).trans l20)
      clear hS k20 l20
      have hS : (fun W' : World => W'.cell? ⟨b4, 0, none⟩ = some (.int .i64 (WN : Int)) ∧ W'.cell? ⟨b4, 1, none⟩ = some (.int .i64 (HN : Int)) ∧ W'.cell? ⟨b4, 2, none⟩ = some (.slice A HN c) ∧ W'.cell? ⟨bo, oo + at' * 2, none⟩ = some (.int .i64 (X : Int)) ∧ W'.cell? ⟨bo, oo + at' * 2 + 1, none⟩ = some (.int .i64 (Y : Int))) w20 := ⟨(H20.out.eq (b := (blk b4 #[.int .i64 (WN : Int), .int .i64 (HN : Int), .slice A HN c] 51 + (mN + (mo + (pts gm (.map es clock) + (blk b6 #[.map (some gm)] 88 + (mA + MS.all w))))))) (by ac_rfl)).at_ (i := 0) rfl, (H20.out.eq (b := (blk b4 #[.int .i64 (WN : Int), .int .i64 (HN : Int), .slice A HN c] 51 + (mN + (mo + (pts gm (.map es clock) + (blk b6 #[.map (some gm)] 88 + (mA + MS.all w))))))) (by ac_rfl)).at_ (i := 1) rfl, (H20.out.eq (b := (blk b4 #[.int .i64 (WN : Int), .int .i64 (HN : Int), .slice A HN c] 51 + (mN + (mo + (pts gm (.map es clock) + (blk b6 #[.map (some gm)] 88 + (mA + MS.all w))))))) (by ac_rfl)).at_ (i := 2) rfl, N0.out.c0 ((H20.out.eq (b := (mo + (mN + (pts gm (.map es clock) + (blk b6 #[.map (some gm)] 88 + (mA + (blk b4 #[.int .i64 (WN : Int), .int .i64 (HN : Int), .slice A HN c] 51 + MS.all w))))))) (by ac_rfl)).left), N1.out.c0 ((H20.out.eq (b := (mo + (mN + (pts gm (.map es clock) + (blk b6 #[.map (some gm)] 88 + (mA + (blk b4 #[.int .i64 (WN : Int), .int .i64 (HN : Int), .slice A HN c] 51 + MS.all w))))))) (by ac_rfl)).left)⟩
      refine ⟨_, rfl, fun _ => hS, ?_⟩
      simp only [Act.put, List.setIfInBounds_toArray, List.set_cons_zero, List.set_cons_succ]
      repeat (first
        | (refine txt_off hS rfl rfl ?_; simp only [Act.put, List.setIfInBounds_toArray, List.set_cons_zero, List.set_cons_succ])
        | (refine txt_quiet ?_ hS rfl rfl (fun W hW => ?_) ?_
           rotate_left 1
           · obtain ⟨hW1, hW2, hW3, hW4, hW5⟩ := hW
             go_simp
             exact rfl
           simp only [Act.put, List.setIfInBounds_toArray, List.set_cons_zero, List.set_cons_succ]))
      refine txt_done ?_
      try simp only [Act.put]
      obtain ⟨nk, hnk⟩ : ∃ nk, nk = (nbrsL p ((X : Int), (Y : Int))).length := ⟨_, rfl⟩
      have hnk4 : nk ≤ 4 := by rw [hnk]; exact nbrsK_len p _ 4
      rw [← hnk] at hN ⊢
      have HN9 := hid hN
      have Hnk := hid hnk
      clear hS hN hnk
      go_wp2
      go_loopw [9, 48] (fun v9 v48 wr => ∃ (k : Nat) (o2 : List Cl) (mo2 : MS), k ≤ nk ∧ v48 = .int .i64 k ∧ Cls o2 v9 mo2 ∧ CInv p (matF p) G ((X0 : Int), (Y0 : Int)) o2 at' k ∧ o2[at']? = some ((X : Int), (Y : Int)) ∧ Has wr (mo2 + (pts gm (.map es clock) + (blk b6 #[.map (some gm)] 88 + (mN + (mA + (blk b4 #[.int .i64 (WN : Int), .int .i64 (HN : Int), .slice A HN c] 51 + MS.all w)))))) ∧ Ext w wr) (fun _ v _ => nk - (intOf v).toNat)
      case atStart => exact ⟨0, o, mo, Nat.zero_le _, rfl, (by have h := HC.out; rw [Hno.out] at h ⊢; exact h), HI.out, Hx.out, H20.out.eq (by ac_rfl), E20.out⟩
      case round =>
        obtain ⟨k, o2, mo2, hk, rfl, hC2, hI2, hg2, hW2, hE2⟩ := hrel
        obtain ⟨A2, c2, rfl, _⟩ := SlR.form hC2
        obtain ⟨n2, hn2⟩ : ∃ n2, n2 = o2.length := ⟨_, rfl⟩
        have hn264 : n2 ≤ 64 := by rw [hn2]; exact Hlen.out o2 hI2.nd hI2.good
        rw [← hn2] at hC2 ⊢
        have Hn2 := hid hn2
        have HC2 := hid hC2
        have HI2 := hid hI2
        have Hg2 := hid hg2
        have HW2 := hid hW2
        have HE2 := hid hE2
        clear hC2 hI2 hg2 hW2 hE2 hn2
        by_cases hlk : k < nk
        · have hlkI : (k : Int) < nk := by omega
          have Hk := hid hlk
          obtain ⟨n, hnn⟩ : ∃ n, (nbrsL p ((X : Int), (Y : Int)))[k]? = some n := ⟨_, List.getElem?_eq_getElem (by rw [← Hnk.out]; exact hlk)⟩
          obtain ⟨b, hlo, hGb⟩ := Hgx.out n (List.mem_of_getElem? hnn)
          have hnx := HI2.out.ins Hg2.out hnn hlo hGb
          have hgt := insN_get (b := b) (show at' < o2.length from (List.getElem?_eq_some_iff.1 Hg2.out).1)
          obtain ⟨bn, on, hbn, n0, n1⟩ := HN9.out.rd.getCl hnn
          subst hbn
          have Hnsm := hid (inR_small Hp.out (nbr_in (List.mem_of_getElem? hnn)))
          have y0 := n0.c0 (HW2.out.eq (b := mN + (mo2 + (pts gm (.map es clock) + (blk b6 #[.map (some gm)] 88 + (mA + (blk b4 #[.int .i64 (WN : Int), .int .i64 (HN : Int), .slice A HN c] 51 + MS.all w)))))) (by ac_rfl)).left
          have y1 := n1.c0 (HW2.out.eq (b := mN + (mo2 + (pts gm (.map es clock) + (blk b6 #[.map (some gm)] 88 + (mA + (blk b4 #[.int .i64 (WN : Int), .int .i64 (HN : Int), .slice A HN c] 51 + MS.all w)))))) (by ac_rfl)).left
          obtain ⟨nx, ny⟩ := n
          obtain ⟨bx, by'⟩ := b
          simp only at y0 y1
          have Hlo := hid hlo
          rw [Hg2.out] at hgt
          have hdec : decide ((bx, by') ∈ o2) = decide ((bx, by') ∈ o2) := rfl
          clear hlk hk hnn n0 n1 hlo hGb hdec
          obtain ⟨b12, hb12⟩ : ∃ b12, b12 = wr.heap.size := ⟨_, rfl⟩; have HAb12 := hid (show Has (wr.alloc (.cells #[.int .i64 0, .int .i64 0] 66)) (blk b12 #[.int .i64 0, .int .i64 0] 66 + (mo2 + (pts gm (.map es clock) + (blk b6 #[.map (some gm)] 88 + (mN + (mA + (blk b4 #[.int .i64 (WN : Int), .int .i64 (HN : Int), .slice A HN c] 51 + MS.all w))))))) by rw [hb12]; exact HW2.out.alloc _); have Hb12 := hid hb12; clear hb12
          by_cases hmm : (bx, by') ∈ o2
          · have hie : insN o2 (bx, by') = o2 := by unfold insN; rw [if_pos hmm]
            rw [hie] at hnx hgt
            have hnext := hid hnx
            have hget2 := hid hgt
            have hmem : decide ((bx, by') ∈ o2) = true := decide_eq_true hmm
            clear hmm hie hnx hgt
            go_wp2_with (first
              | (go_at_call 55; have hq := containsC_any (A := A2) (c := c2) (by have h := HC2.out.rd; rw [Hn2.out] at h; exact h) (by rw [← Hn2.out]; omega) ((H32.out.eq (b := (mo2 + (blk b13 #[.int .i64 bx, .int .i64 by'] 66 + (blk b12 #[.int .i64 nx, .int .i64 ny] 66 + (pts gm (.map es clock) + (blk b6 #[.map (some gm)] 88 + (mN + (mA + (blk b4 #[.int .i64 (WN : Int), .int .i64 (HN : Int), .slice A HN c] 51 + MS.all w))))))))) (by ac_rfl)).left) bx by'; rw [hmem, ← Hn2.out] at hq; refine (hq).mono ?_; rintro e41 w41 ⟨rfl, k41⟩; have H41 := hid (k41.1 _ H32.out); have E41 := hid (E32.out.trans k41.2); clear k41; clear hq v0 v1)
              | (rw [← Hb13.out]; refine wpList_store_whole rfl (.tmp 13) (.tmp 54) 66 rfl 2 size66 b13 (.agg #[.int .i64 bx, .int .i64 by']) rfl rfl rfl (by simp [Value.cells, Value.oneCell']) #[.int .i64 0, .int .i64 0] 66 _ HAb13.out rfl ?_; intro w32 j1 j2; have H32 := hid (show Has w32 (blk b13 #[.int .i64 bx, .int .i64 by'] 66 + (blk b12 #[.int .i64 nx, .int .i64 ny] 66 + (mo2 + (pts gm (.map es clock) + (blk b6 #[.map (some gm)] 88 + (mN + (mA + (blk b4 #[.int .i64 (WN : Int), .int .i64 (HN : Int), .slice A HN c] 51 + MS.all w)))))))) from j1.eq (by unfold blk; ac_rfl)); have E32 := hid ((E31.out.trans (Ext.alloc _ _)).trans j2); clear j1 j2; clear z0 z1 z6 hlk; have v0 := (H32.out.eq (b := (blk b13 #[.int .i64 bx, .int .i64 by'] 66 + (blk b12 #[.int .i64 nx, .int .i64 ny] 66 + (mo2 + (pts gm (.map es clock) + (blk b6 #[.map (some gm)] 88 + (mN + (mA + (blk b4 #[.int .i64 (WN : Int), .int .i64 (HN : Int), .slice A HN c] 51 + MS.all w))))))))) (by ac_rfl)).at_ (i := 0) rfl; have v1 := (H32.out.eq (b := (blk b13 #[.int .i64 bx, .int .i64 by'] 66 + (blk b12 #[.int .i64 nx, .int .i64 ny] 66 + (mo2 + (pts gm (.map es clock) + (blk b6 #[.map (some gm)] 88 + (mN + (mA + (blk b4 #[.int .i64 (WN : Int), .int .i64 (HN : Int), .slice A HN c] 51 + MS.all w))))))))) (by ac_rfl)).at_ (i := 1) rfl)
              | (rw [← Hb12.out]; refine wpList_store_whole rfl (.tmp 12) (.tmp 51) 66 rfl 2 size66 b12 (.agg #[.int .i64 nx, .int .i64 ny]) rfl rfl rfl (by simp [Value.cells, Value.oneCell']) #[.int .i64 0, .int .i64 0] 66 _ HAb12.out rfl ?_; intro w31 j1 j2; have H31 := hid (show Has w31 (blk b12 #[.int .i64 nx, .int .i64 ny] 66 + (mo2 + (pts gm (.map es clock) + (blk b6 #[.map (some gm)] 88 + (mN + (mA + (blk b4 #[.int .i64 (WN : Int), .int .i64 (HN : Int), .slice A HN c] 51 + MS.all w))))))) from j1.eq (by unfold blk; ac_rfl)); have E31 := hid ((HE2.out.trans (Ext.alloc _ _)).trans j2); clear j1 j2; clear y0 y1; have z0 := (H31.out.eq (b := (blk b12 #[.int .i64 nx, .int .i64 ny] 66 + (mo2 + (pts gm (.map es clock) + (blk b6 #[.map (some gm)] 88 + (mN + (mA + (blk b4 #[.int .i64 (WN : Int), .int .i64 (HN : Int), .slice A HN c] 51 + MS.all w)))))))) (by ac_rfl)).at_ (i := 0) rfl; have z1 := (H31.out.eq (b := (blk b12 #[.int .i64 nx, .int .i64 ny] 66 + (mo2 + (pts gm (.map es clock) + (blk b6 #[.map (some gm)] 88 + (mN + (mA + (blk b4 #[.int .i64 (WN : Int), .int .i64 (HN : Int), .slice A HN c] 51 + MS.all w)))))))) (by ac_rfl)).at_ (i := 1) rfl; have z6 := (H31.out.eq (b := (blk b6 #[.map (some gm)] 88 + (blk b12 #[.int .i64 nx, .int .i64 ny] 66 + (mo2 + (pts gm (.map es clock) + (mN + (mA + (blk b4 #[.int .i64 (WN : Int), .int .i64 (HN : Int), .slice A HN c] 51 + MS.all w)))))))) (by ac_rfl)).at_ (i := 0) rfl; have hlk := HM.out.look1 pair66 und88 (zero66 w31) ((H31.out.eq (b := (pts gm (.map es clock) + (blk b12 #[.int .i64 nx, .int .i64 ny] 66 + (mo2 + (blk b6 #[.map (some gm)] 88 + (mN + (mA + (blk b4 #[.int .i64 (WN : Int), .int .i64 (HN : Int), .slice A HN c] 51 + MS.all w)))))))) (by ac_rfl)).get) (q := (nx, ny)) Hnsm.out; rw [lkM_mE, Hlo.out] at hlk; have hlk : (Instr.lookup 88 (.map (some gm)) (.agg #[.int .i64 nx, .int .i64 ny]) false).run Tryd.prog w31 = .ok (.agg #[.int .i64 bx, .int .i64 by']) w31 := hlk; obtain ⟨b13, hb13⟩ : ∃ b13, b13 = w31.heap.size := ⟨_, rfl⟩; have HAb13 := hid (show Has (w31.alloc (.cells #[.int .i64 0, .int .i64 0] 66)) (blk b13 #[.int .i64 0, .int .i64 0] 66 + (blk b12 #[.int .i64 nx, .int .i64 ny] 66 + (mo2 + (pts gm (.map es clock) + (blk b6 #[.map (some gm)] 88 + (mN + (mA + (blk b4 #[.int .i64 (WN : Int), .int .i64 (HN : Int), .slice A HN c] 51 + MS.all w)))))))) by rw [hb13]; exact H31.out.alloc _); have Hb13 := hid hb13; clear hb13))
            go_roundw
            case rel => exact ⟨k + 1, o2, mo2, Hk.out, by go_num, (by first | exact HC2.out | (have h := HC2.out; rw [Hn2.out] at h ⊢; exact h)), hnext.out, hget2.out, (H41.out.eq (b := (mo2 + (pts gm (.map es clock) + (blk b6 #[.map (some gm)] 88 + (mN + (mA + (blk b4 #[.int .i64 (WN : Int), .int .i64 (HN : Int), .slice A HN c] 51 + MS.all w)))))) + (blk b12 #[.int .i64 nx, .int .i64 ny] 66 + blk b13 #[.int .i64 bx, .int .i64 by'] 66)) (by ac_rfl)).left, E41.out⟩
            case measure => have := Hk.out; simp [intOf]; omega
          · have hie : insN o2 (bx, by') = o2 ++ [(bx, by')] := by unfold insN; rw [if_neg hmm]
            rw [hie] at hnx hgt
            have hnext := hid hnx
            have hget2 := hid hgt
            have hmem : decide ((bx, by') ∈ o2) = false := decide_eq_false hmm
            clear hmm hie hnx hgt
            go_wp2_with (first
              | (at_builtin; refine wpList_push rfl (.tmp 59) (.tmp 61) row29 rfl (.slice A2 n2 c2) rfl _ rfl (by simp) ClR ClR.one ClR.len o2 (bx, by') mo2 0 (blk b13 #[.int .i64 bx, .int .i64 by'] 66 + (blk b12 #[.int .i64 nx, .int .i64 ny] 66 + (pts gm (.map es clock) + (blk b6 #[.map (some gm)] 88 + (mN + (mA + (blk b4 #[.int .i64 (WN : Int), .int .i64 (HN : Int), .slice A HN c] 51 + MS.all w))))))) HC2.out ⟨rfl, rfl⟩ (H41.out.eq (by rw [MS.zero_add]; ac_rfl)) n2 Hn2.out.symm (by omega) (by omega) ?_; intro A42 c42 w42 m9 j4 j5 j6; have D42 := hid j4; have H42 := hid (show Has w42 (blk b13 #[.int .i64 bx, .int .i64 by'] 66 + (blk b12 #[.int .i64 nx, .int .i64 ny] 66 + (m9 + (pts gm (.map es clock) + (blk b6 #[.map (some gm)] 88 + (mN + (mA + (blk b4 #[.int .i64 (WN : Int), .int .i64 (HN : Int), .slice A HN c] 51 + MS.all w)))))))) from j5.eq (by ac_rfl)); have E42 := hid (E41.out.trans j6); clear j4 j5 j6)
              | (go_at_call 55; have hq := containsC_any (A := A2) (c := c2) (by have h := HC2.out.rd; rw [Hn2.out] at h; exact h) (by rw [← Hn2.out]; omega) ((H32.out.eq (b := (mo2 + (blk b13 #[.int .i64 bx, .int .i64 by'] 66 + (blk b12 #[.int .i64 nx, .int .i64 ny] 66 + (pts gm (.map es clock) + (blk b6 #[.map (some gm)] 88 + (mN + (mA + (blk b4 #[.int .i64 (WN : Int), .int .i64 (HN : Int), .slice A HN c] 51 + MS.all w))))))))) (by ac_rfl)).left) bx by'; rw [hmem, ← Hn2.out] at hq; refine (hq).mono ?_; rintro e41 w41 ⟨rfl, k41⟩; have H41 := hid (k41.1 _ H32.out); have E41 := hid (E32.out.trans k41.2); clear k41; clear hq v0 v1; have v0 := (H41.out.eq (b := (blk b13 #[.int .i64 bx, .int .i64 by'] 66 + (blk b12 #[.int .i64 nx, .int .i64 ny] 66 + (mo2 + (pts gm (.map es clock) + (blk b6 #[.map (some gm)] 88 + (mN + (mA + (blk b4 #[.int .i64 (WN : Int), .int .i64 (HN : Int), .slice A HN c] 51 + MS.all w))))))))) (by ac_rfl)).at_ (i := 0) rfl; have v1 := (H41.out.eq (b := (blk b13 #[.int .i64 bx, .int .i64 by'] 66 + (blk b12 #[.int .i64 nx, .int .i64 ny] 66 + (mo2 + (pts gm (.map es clock) + (blk b6 #[.map (some gm)] 88 + (mN + (mA + (blk b4 #[.int .i64 (WN : Int), .int .i64 (HN : Int), .slice A HN c] 51 + MS.all w))))))))) (by ac_rfl)).at_ (i := 1) rfl)
              | (rw [← Hb13.out]; refine wpList_store_whole rfl (.tmp 13) (.tmp 54) 66 rfl 2 size66 b13 (.agg #[.int .i64 bx, .int .i64 by']) rfl rfl rfl (by simp [Value.cells, Value.oneCell']) #[.int .i64 0, .int .i64 0] 66 _ HAb13.out rfl ?_; intro w32 j1 j2; have H32 := hid (show Has w32 (blk b13 #[.int .i64 bx, .int .i64 by'] 66 + (blk b12 #[.int .i64 nx, .int .i64 ny] 66 + (mo2 + (pts gm (.map es clock) + (blk b6 #[.map (some gm)] 88 + (mN + (mA + (blk b4 #[.int .i64 (WN : Int), .int .i64 (HN : Int), .slice A HN c] 51 + MS.all w)))))))) from j1.eq (by unfold blk; ac_rfl)); have E32 := hid ((E31.out.trans (Ext.alloc _ _)).trans j2); clear j1 j2; clear z0 z1 z6 hlk; have v0 := (H32.out.eq (b := (blk b13 #[.int .i64 bx, .int .i64 by'] 66 + (blk b12 #[.int .i64 nx, .int .i64 ny] 66 + (mo2 + (pts gm (.map es clock) + (blk b6 #[.map (some gm)] 88 + (mN + (mA + (blk b4 #[.int .i64 (WN : Int), .int .i64 (HN : Int), .slice A HN c] 51 + MS.all w))))))))) (by ac_rfl)).at_ (i := 0) rfl; have v1 := (H32.out.eq (b := (blk b13 #[.int .i64 bx, .int .i64 by'] 66 + (blk b12 #[.int .i64 nx, .int .i64 ny] 66 + (mo2 + (pts gm (.map es clock) + (blk b6 #[.map (some gm)] 88 + (mN + (mA + (blk b4 #[.int .i64 (WN : Int), .int .i64 (HN : Int), .slice A HN c] 51 + MS.all w))))))))) (by ac_rfl)).at_ (i := 1) rfl)
              | (rw [← Hb12.out]; refine wpList_store_whole rfl (.tmp 12) (.tmp 51) 66 rfl 2 size66 b12 (.agg #[.int .i64 nx, .int .i64 ny]) rfl rfl rfl (by simp [Value.cells, Value.oneCell']) #[.int .i64 0, .int .i64 0] 66 _ HAb12.out rfl ?_; intro w31 j1 j2; have H31 := hid (show Has w31 (blk b12 #[.int .i64 nx, .int .i64 ny] 66 + (mo2 + (pts gm (.map es clock) + (blk b6 #[.map (some gm)] 88 + (mN + (mA + (blk b4 #[.int .i64 (WN : Int), .int .i64 (HN : Int), .slice A HN c] 51 + MS.all w))))))) from j1.eq (by unfold blk; ac_rfl)); have E31 := hid ((HE2.out.trans (Ext.alloc _ _)).trans j2); clear j1 j2; clear y0 y1; have z0 := (H31.out.eq (b := (blk b12 #[.int .i64 nx, .int .i64 ny] 66 + (mo2 + (pts gm (.map es clock) + (blk b6 #[.map (some gm)] 88 + (mN + (mA + (blk b4 #[.int .i64 (WN : Int), .int .i64 (HN : Int), .slice A HN c] 51 + MS.all w)))))))) (by ac_rfl)).at_ (i := 0) rfl; have z1 := (H31.out.eq (b := (blk b12 #[.int .i64 nx, .int .i64 ny] 66 + (mo2 + (pts gm (.map es clock) + (blk b6 #[.map (some gm)] 88 + (mN + (mA + (blk b4 #[.int .i64 (WN : Int), .int .i64 (HN : Int), .slice A HN c] 51 + MS.all w)))))))) (by ac_rfl)).at_ (i := 1) rfl; have z6 := (H31.out.eq (b := (blk b6 #[.map (some gm)] 88 + (blk b12 #[.int .i64 nx, .int .i64 ny] 66 + (mo2 + (pts gm (.map es clock) + (mN + (mA + (blk b4 #[.int .i64 (WN : Int), .int .i64 (HN : Int), .slice A HN c] 51 + MS.all w)))))))) (by ac_rfl)).at_ (i := 0) rfl; have hlk := HM.out.look1 pair66 und88 (zero66 w31) ((H31.out.eq (b := (pts gm (.map es clock) + (blk b12 #[.int .i64 nx, .int .i64 ny] 66 + (mo2 + (blk b6 #[.map (some gm)] 88 + (mN + (mA + (blk b4 #[.int .i64 (WN : Int), .int .i64 (HN : Int), .slice A HN c] 51 + MS.all w)))))))) (by ac_rfl)).get) (q := (nx, ny)) Hnsm.out; rw [lkM_mE, Hlo.out] at hlk; have hlk : (Instr.lookup 88 (.map (some gm)) (.agg #[.int .i64 nx, .int .i64 ny]) false).run Tryd.prog w31 = .ok (.agg #[.int .i64 bx, .int .i64 by']) w31 := hlk; obtain ⟨b13, hb13⟩ : ∃ b13, b13 = w31.heap.size := ⟨_, rfl⟩; have HAb13 := hid (show Has (w31.alloc (.cells #[.int .i64 0, .int .i64 0] 66)) (blk b13 #[.int .i64 0, .int .i64 0] 66 + (blk b12 #[.int .i64 nx, .int .i64 ny] 66 + (mo2 + (pts gm (.map es clock) + (blk b6 #[.map (some gm)] 88 + (mN + (mA + (blk b4 #[.int .i64 (WN : Int), .int .i64 (HN : Int), .slice A HN c] 51 + MS.all w)))))))) by rw [hb13]; exact H31.out.alloc _); have Hb13 := hid hb13; clear hb13))
            go_roundw
            case rel => exact ⟨k + 1, o2 ++ [(bx, by')], m9, Hk.out, by go_num, D42.out, hnext.out, hget2.out, (H42.out.eq (b := (m9 + (pts gm (.map es clock) + (blk b6 #[.map (some gm)] 88 + (mN + (mA + (blk b4 #[.int .i64 (WN : Int), .int .i64 (HN : Int), .slice A HN c] 51 + MS.all w)))))) + (blk b12 #[.int .i64 nx, .int .i64 ny] 66 + blk b13 #[.int .i64 bx, .int .i64 by'] 66)) (by ac_rfl)).left, E42.out⟩
            case measure => have := Hk.out; simp [intOf]; omega
        · have hke : k = nk := by omega
          subst hke
          have hnx := hid (HI2.out.next Hg2.out (by rw [Hnk.out]; exact Nat.le_refl _))
          have hlen := hid (show at' + 1 ≤ o2.length from (List.getElem?_eq_some_iff.1 Hg2.out).1)
          clear hlk hk
          go_wp2
          go_roundw
          case rel => exact ⟨at' + 1, o2, mo2, hlen.out, by go_num, (by have h := HC2.out; rw [Hn2.out] at h ⊢; exact h), hnx.out, (HW2.out.eq (b := (mo2 + (pts gm (.map es clock) + (blk b6 #[.map (some gm)] 88 + (mA + (blk b4 #[.int .i64 (WN : Int), .int .i64 (HN : Int), .slice A HN c] 51 + MS.all w))))) + mN) (by ac_rfl)).left, HE2.out⟩
          case measure => have := Hlt.out; simp [intOf]; omega
    · have hae : at' = no := by omega
      subst hae
      have hfin := hid (show COut p (matF p) G ((X0 : Int), (Y0 : Int)) o from by have h := HI.out; rw [Hno.out] at h; exact h.fin)
      have hpos : 0 < at' := by rw [Hno.out]; exact List.length_pos_of_mem HI.out.q0
      have Hsort := hid (sortC_any (n := at') HC.out (by rw [← Hno.out]; exact hpos) (by rw [← Hno.out]; omega) HW.out)
      clear hlt hat
      go_wp2_with (go_at_call 56; refine Hsort.out.mono ?_; rintro e9 w9 ⟨rfl, l', m', s1, s2, s3, s4, s5⟩; have S1 := hid s1; have S2 := hid s2; have S3 := hid s3; have S4 := hid s4; have S5 := hid (HE.out.trans s5); clear s1 s2 s3 s4 s5)
      go_ret2
      exact ⟨_, m', o, l', rfl, S1.out, hfin.out, S2.out, S3.out, fun M hM => (Has.with_all hM (S4.out.eq (b := (m' + (pts gm (.map es clock) + (blk b6 #[.map (some gm)] 88 + (mA + blk b4 #[.int .i64 (WN : Int), .int .i64 (HN : Int), .slice A HN c] 51)))) + MS.all w) (by ac_rfl))).eq (b := (m' + M) + (pts gm (.map es clock) + (blk b6 #[.map (some gm)] 88 + (mA + blk b4 #[.int .i64 (WN : Int), .int .i64 (HN : Int), .slice A HN c] 51)))) (by ac_rfl) |>.left, S5.out⟩
end Go.Proofs.YtcdhimnmbpllgaaDoor

/-
  The law DominoTiles, walked.
-/
import Derived.Test.YtcdhimnmbpllgaaDoorDLaw1
namespace Go.Proofs.YtcdhimnmbpllgaaDoor
open Go.RowKit
set_option linter.unusedVariables false
set_option linter.unusedSimpArgs false
set_option maxHeartbeats 4000000
set_option maxRecDepth 100000

theorem Has.with_all2 {w w' : World} {M : MS} (h : Kp w w') (hM : Has w M) : Has w' M := h.1 M hM
theorem doms_rows : ∀ l : List Dom, RowsR DmR l (l.flatMap fun d => [.int .i64 d.1, .int .i64 d.2.1, .bool d.2.2]) 0
  | [] => RowsR.nil
  | d :: l => ⟨_, 0, _, 0, ⟨rfl, rfl⟩, doms_rows l, rfl, by rw [MS.zero_add]⟩
theorem rowsQ_doms_eq : ∀ {F : MS} {l : List Dom} {xs : List Value}, RowsQ (RT.dom.rel F) l xs → xs = l.flatMap fun d => [.int .i64 d.1, .int .i64 d.2.1, .bool d.2.2]
  | _, [], _, h => h
  | F, a :: l, _, ⟨c1, c2, h1, h2, h3⟩ => by
    have e1 : c1 = [.int .i64 a.1, .int .i64 a.2.1, .bool a.2.2] := h1
    rw [h3, e1, rowsQ_doms_eq h2]; rfl
theorem doms_len (l : List Dom) : (l.flatMap fun d => [Value.int .i64 d.1, .int .i64 d.2.1, .bool d.2.2]).length = l.length * 3 := by
  induction l with
  | nil => rfl
  | cons a l ih =>
    rw [List.flatMap_cons, List.length_append, ih]
    simp only [List.length_cons, List.length_nil]
    omega
theorem doms_one (l : List Dom) : ∀ u ∈ (l.flatMap fun d => [Value.int .i64 d.1, .int .i64 d.2.1, .bool d.2.2]), u.oneCell' = true := by
  intro u hu
  obtain ⟨d, _, hd⟩ := List.mem_flatMap.1 hu
  simp only [List.mem_cons, List.not_mem_nil, or_false] at hd
  rcases hd with rfl | rfl | rfl <;> rfl
theorem info40 : (Tryd.prog.info? 40).map (fun i => (i.zero, i.size, i.bytes)) = some (some (.agg #[.int .i64 0, .int .i64 0, .bool false]), 3, 24) := by kernel_rfl
theorem domTiles_any {F : MS} {p : List ByteArray} {A : Option Addr} {c : Nat} {t : List Dom} {B : Option Addr} {ct : Nat} {w : World} (hr : RdS F RT.str p (.slice A p.length c)) (hs : ∀ s ∈ p, s.size ≤ maxLen) (ht : RdS F RT.dom t (.slice B t.length ct)) (hk : FourOk F) (hH : Has w F) :
    Calls Tryd.prog 7 #[.slice A p.length c, .slice B t.length ct] w (LawPost w F) := by
  have Hfew := hid (few_any hr hs hH)
  have Hal := hid (fun (W : World) (h : Has W F) => alive_any hk h)
  have HH := hid hH
  have htm : t.length ≤ maxLen := Nat.le_trans ht.cells.2.1 ht.cells.2.2.1
  cases hf : fewB p with
  | false =>
    rw [hf] at Hfew
    clear hf hr hs hk hH ht htm
    go_enter Tryd.func7, Tryd.ntmps7
    go_wp2_with (first
      | (go_at_call 11; refine Hfew.out.mono ?_; rintro e1 w1 ⟨rfl, hw1⟩; rw [hw1]; clear hw1)
      | (go_at_call 12; refine (Hal.out w HH.out).mono ?_; rintro e2 w2 ⟨rfl, k2⟩; have K2 := hid k2; clear k2))
    go_ret
    exact ⟨rfl, K2.out.1 _ HH.out, K2.out.2⟩
  | true =>
    rw [hf] at Hfew
    unfold fewB at hf
    rw [decide_eq_true_eq] at hf
    obtain ⟨hl20, hs20⟩ := hf
    by_cases h100 : 100 < t.length
    · have h100I : (100 : Int) < t.length := by omega
      have htI : (t.length : Int) ≤ 9223372036854775807 := by simp only [maxLen] at htm; omega
      clear hr hs hk hH ht htm hl20 hs20 h100
      go_enter Tryd.func7, Tryd.ntmps7
      go_wp2_with (first
        | (go_at_call 11; refine Hfew.out.mono ?_; rintro e1 w1 ⟨rfl, hw1⟩; rw [hw1]; clear hw1)
        | (go_at_call 12; refine (Hal.out w HH.out).mono ?_; rintro e2 w2 ⟨rfl, k2⟩; have K2 := hid k2; clear k2))
      go_ret
      exact ⟨rfl, K2.out.1 _ HH.out, K2.out.2⟩
    have h100I : ¬ (100 : Int) < t.length := by omega
    have ht100 : t.length ≤ 100 := by omega
    have Hr := hid hr
    have Ht := hid ht
    have Hs20 := hid hs20
    have Hl20 := hid hl20
    have Ht100 := hid ht100
    obtain ⟨_, _, _, xs, h4, h5, h6⟩ := hr.cells
    obtain rfl := rowsQ_strs_eq h5
    have HX := hid (show Has (w.alloc (.cells #[] 9)) (blk w.heap.size #[] 9 + F) from hH.alloc (.cells #[] 9))
    have Hnews := hid ((h4.more (blk w.heap.size #[] 9)).news (X := 0) (w := w.alloc (.cells #[] 9)) (by rw [MS.zero_add]; exact HX.out))
    have Hnone := hid (show A = none → p.length = 0 from fun hA => by
      cases p with
      | nil => rfl
      | cons x l => obtain ⟨b, o, h7, _⟩ := h4 (by simp); rw [hA] at h7; cases h7)
    obtain ⟨_, _, _, ys, g4, g5, g6⟩ := ht.cells
    obtain rfl := rowsQ_doms_eq g5
    have Hg4 := hid g4
    have Hnone2 := hid (show B = none → t.length = 0 from fun hA => by
      cases t with
      | nil => rfl
      | cons x l => obtain ⟨b, o, h7, _⟩ := g4 (by simp); rw [hA] at h7; cases h7)
    clear hr hs hk hH ht htm hl20 hs20 h100 h4 h5 h6 g4 g5 g6
    go_enter Tryd.func7, Tryd.ntmps7
    go_wp2_with (first
      | (go_at_call 11; refine Hfew.out.mono ?_; rintro e1 w1 ⟨rfl, hw1⟩; rw [hw1]; clear hw1)
      | (at_builtin; refine wpList_append_sl rfl (.tmp 28) (.tmp 29) 35 rfl 40 _ 3 24 Tryd.underlying35 info40 rfl _ rfl B t.length ct rfl 0 [] (blk w1.heap.size #[] 40) (m1 + F) (Sl.empty _ 40 3) HY.out _ (doms_len t) Hnone2.out Hnews2.out (doms_one t) (by have := Ht100.out; simp only [maxLen]; omega) (by have := Ht100.out; omega) ?_; intro v' w2 m2 h1 h2 h3; obtain ⟨A2, c2, rfl, _⟩ := h1.form; simp only [Nat.zero_add, List.nil_append] at h1 ⊢; have R2 := hid (show RdS m2 RT.dom t (.slice A2 t.length c2) from SlR.rd (R := DmR) (T := RT.dom) DmR.rd (by have := SlR.of h1 (doms_rows t); rwa [MS.add_zero] at this)); have J2 := hid h2; have E2 := hid ((E1.out.trans (Ext.alloc _ _)).trans h3); clear h1 h2 h3)
      | (at_builtin; refine wpList_append_sl rfl (.tmp 25) (.tmp 26) 22 rfl 9 _ 1 16 Tryd.underlying22 info9 rfl _ rfl A p.length c rfl 0 [] (blk w.heap.size #[] 9) F (Sl.empty _ 9 1) HX.out (p.map Value.string) (by simp) Hnone.out Hnews.out (fun u hu => by obtain ⟨s, _, rfl⟩ := List.mem_map.1 hu; rfl) (by have := Hl20.out; simp only [maxLen]; omega) (by have := Hl20.out; omega) ?_; intro v' w1 m1 h1 h2 h3; obtain ⟨A1, c1, rfl, _⟩ := h1.form; simp only [Nat.zero_add, List.nil_append] at h1 ⊢; have R1 := hid (show RdS m1 RT.str p (.slice A1 p.length c1) from SlR.rd (R := StrR) (T := RT.str) (fun a cs m h => h.1) (by have := SlR.of h1 (strs_rows p); rwa [MS.add_zero] at this)); have J1 := hid h2; have E1 := hid ((Ext.alloc w _).trans h3); have HY := hid (show Has (w1.alloc (.cells #[] 40)) (blk w1.heap.size #[] 40 + (m1 + F)) from h2.alloc (.cells #[] 40)); have Hnews2 := hid ((((Hg4.out.more m1).more (blk w1.heap.size #[] 40))).news (X := 0) (w := w1.alloc (.cells #[] 40)) (by rw [MS.zero_add]; exact HY.out)); clear h1 h2 h3))
    have Hrp := hid (rd_all_str Hr.out J2.out.right.right)
    have Hro := hid (rd_all_str R1.out J2.out.right.left)
    have Hrt := hid (rd_all_dom Ht.out J2.out.right.right)
    have Hrl := hid (rd_all_dom R2.out J2.out.left)
    have hpl := hid (show p.length ≤ 1000 by have := Hl20.out; omega)
    have hps := hid (fun s (h : s ∈ p) => show s.size ≤ 1000000 by have := Hs20.out s h; omega)
    have htl := hid (show t.length ≤ 1000 by have := Ht100.out; omega)
    obtain ⟨BB, hBB⟩ : ∃ BB, BB = (isReg p && isT (wd p) p.length (hsR p) none t) := ⟨_, rfl⟩
    obtain ⟨ER, hER⟩ : ∃ ER, ER = cntE p := ⟨_, rfl⟩
    have His := hid (fun (W : World) (h : Has W (MS.all w2)) => show Calls Tryd.prog 24 #[.slice A1 p.length c1, .slice A2 t.length c2] W fun e w' => e = .returned (.tuple #[.bool BB, .int .i64 ER]) ∧ Kp W w' from by rw [hBB, hER]; exact is_any Hro.out hpl.out hps.out h Hrl.out htl.out)
    have Hris := hid (fun (W : World) (h : Has W (MS.all w2)) => show Calls Tryd.prog 25 #[.slice A p.length c, .slice B t.length ct] W fun e w' => e = .returned (.tuple #[.bool BB, .int .i64 ER]) ∧ Kp W w' from by rw [hBB, hER]; exact refis_any Hrp.out hpl.out hps.out Hrt.out htl.out h)
    have HF2 := hid (fun (W : World) (h : Has W (MS.all w2)) => show Has W F from J2.out.right.right.of_all (X := 0) (by rw [MS.zero_add]; exact h))
    clear hBB hER
    obtain ⟨n, hn⟩ : ∃ n, n = (tileL p).length := ⟨_, rfl⟩
    have hn64 : n ≤ 64 := by rw [hn]; exact tileL_len p
    obtain ⟨TE, hTE⟩ : ∃ TE, TE = tileE p := ⟨_, rfl⟩
    have Hn := hid hn
    have hnI : (n : Int) ≤ 64 := by omega
    have Href := hid (show Calls Tryd.prog 21 #[.slice A p.length c] w2 fun e w' => ∃ A c m, e = .returned (.tuple #[.slice A n c, .int .i64 TE]) ∧ Dms (tileL p) (.slice A n c) m ∧ (∀ M, Has w2 M → Has w' (m + M)) ∧ Ext w2 w' from by
      have h := reft_all Hrp.out hpl.out hps.out (Has.all w2)
      unfold TilePost at h
      rw [← hn, ← hTE] at h
      exact h)
    have Htil := hid (fun (W : World) (h : Has W (MS.all w2)) => show Calls Tryd.prog 22 #[.slice A1 p.length c1] W fun e w' => ∃ A c m, e = .returned (.tuple #[.slice A n c, .int .i64 TE]) ∧ Dms (tileL p) (.slice A n c) m ∧ (∀ M, Has W M → Has w' (m + M)) ∧ Ext W w' from by
      have h := tile_all Hro.out hpl.out hps.out h
      unfold TilePost at h
      rw [← hn, ← hTE] at h
      exact h)
    have Hsame := hid (fun (W : World) (m m' : MS) (A A' : Option Addr) (c c' : Nat) (h : Dms (tileL p) (.slice A n c) m) (h' : Dms (tileL p) (.slice A' n c') m') (hW : Has W (m + m')) => show Calls Tryd.prog 23 #[.slice A n c, .slice A' n c'] W fun e w' => e = .returned (.bool true) ∧ ∃ q, w' = W.drewN q from by
      have h1 := h.rd.less m'
      have h2 := h'.rd.more m
      rw [Hn.out] at h1 h2 ⊢
      exact tiles_same h1 h2 (by rw [← Hn.out]; omega) hW)
    clear hn hTE
    go_wp2_with (go_at_call 21; refine Href.out.mono ?_; rintro e3 w3 ⟨A3, c3, m3, rfl, h1, k1, l1⟩; have H3 := hid (k1 _ (Has.all w2)); have D3 := hid h1; have E3 := hid l1; clear h1 k1 l1)
    go_loopw [9] (fun v9 wr => ∃ k : Nat, k ≤ 2 ∧ v9 = .int .i64 k ∧ Has wr (m3 + MS.all w2) ∧ Ext w2 wr) (fun v _ => 2 - (intOf v).toNat)
    case atStart => exact ⟨0, by omega, rfl, H3.out, E3.out⟩
    case round =>
      clear H3 E3
      obtain ⟨k, hk2, rfl, hW, hE⟩ := hrel
      have HW := hid hW
      have HE := hid hE
      clear hW hE
      by_cases hlt : k < 2
      · have hltI : (k : Int) < 2 := by omega
        have Hlt := hid hlt
        clear hlt hk2
        go_wp2_with (first
          | (go_at_call 23; refine (Hsame.out w4 m4 m3 A4 A3 c4 c3 D4.out D3.out (H4.out.eq (b := m4 + m3 + MS.all w2) (by ac_rfl)).left).mono ?_; rintro e5 w5 ⟨rfl, q5, hw5⟩; subst hw5; have H5 := hid (show Has (w4.drewN q5) (m4 + (m3 + MS.all w2)) from H4.out.drewN q5); have E5 := hid (E4.out.trans (Ext.drewN w4 q5)))
          | (go_at_call 22; refine (Htil.out wr HW.out.right).mono ?_; rintro e4 w4 ⟨A4, c4, m4, rfl, h1, k1, l1⟩; have H4 := hid (k1 _ HW.out); have D4 := hid h1; have E4 := hid (HE.out.trans l1); clear h1 k1 l1))
        have hmem : ∃ mm, Has (w4.drewN q5) (mm + (m3 + MS.all w2)) ∧ (0 < n → ∃ b off cur mr, A4 = some ⟨b, off, none⟩ ∧ mm = blk b cur 40 + mr ∧ off + n * 3 ≤ cur.size ∧ n ≤ c4) := by
          refine ⟨m4, H5.out, fun hn0 => ?_⟩
          obtain ⟨xs, ms, mr, hSl, _, rfl⟩ := D4.out
          rw [← Hn.out] at hSl
          rcases hSl.2 with ⟨h1, h2, _⟩ | ⟨b, off, c, cur, hv, rfl, hnc, _, hsz, _⟩
          · omega
          · injection hv with hv1 hv2 hv3
            subst hv1; subst hv3
            have := Nat.mul_le_mul_right 3 hnc
            exact ⟨b, off, cur, mr, rfl, rfl, by omega, hnc⟩
        go_loopw [12] (fun v12 wq => ∃ (i : Nat) (mm : MS), i ≤ n ∧ v12 = .int .i64 i ∧ Has wq (mm + (m3 + MS.all w2)) ∧ Ext w2 wq ∧ (0 < n → ∃ b off cur mr, A4 = some ⟨b, off, none⟩ ∧ mm = blk b cur 40 + mr ∧ off + n * 3 ≤ cur.size ∧ n ≤ c4)) (fun v _ => n - (intOf v).toNat)
        case atStart =>
          obtain ⟨mm, h1, h2⟩ := hmem
          exact ⟨0, mm, Nat.zero_le _, rfl, h1, E5.out, h2⟩
        case round =>
          clear hmem
          obtain ⟨i, mm, hi, rfl, hW2, hE2, hm2⟩ := hrel
          have HW2 := hid hW2
          have HE2 := hid hE2
          have Hm2 := hid hm2
          clear hW2 hE2 hm2
          by_cases hli : i < n
          · have hliI : (i : Int) < n := by omega
            have Hi := hid hli
            obtain ⟨b, off, cur, mr, hA4, rfl, hsz, hnc⟩ := Hm2.out (by omega)
            subst hA4
            have hbd := hid (show off + i * 3 < cur.size by omega)
            have Hsz := hid hsz
            clear hli hi hsz
            go_wp2_with (refine wpList_store_blk rfl (.tmp 63) (.const (.int .i64 99)) 3 rfl size3 b (off + i * 3) (.int .i64 99) rfl rfl rfl cur 40 (mr + (m3 + MS.all w2)) (HW2.out.eq (by ac_rfl)) hbd.out ?_; intro w6 j1 j2; have H6 := hid j1; have E6 := hid (HE2.out.trans j2); clear j1 j2)
            go_roundw
            case rel => exact ⟨i + 1, _, Hi.out, by go_num, H6.out.eq (b := (blk b (cur.setIfInBounds (off + i * 3) (.int .i64 99)) 40 + mr) + (m3 + MS.all w2)) (by ac_rfl), E6.out, fun _ => ⟨b, off, _, mr, rfl, rfl, by rw [Array.size_setIfInBounds]; exact Hsz.out, hnc⟩⟩
            case measure => have := Hi.out; simp [intOf]; omega
          · have hie : i = n := by omega
            subst hie
            clear hli hi
            go_wp2
            go_roundw
            case rel => exact ⟨k + 1, Hlt.out, by go_num, HW2.out.right, HE2.out⟩
            case measure => have := Hlt.out; simp [intOf]; omega
      · have hke : k = 2 := by omega
        subst hke
        have HA := hid HW.out.right
        clear hlt hk2
        go_wp2_with (first
          | (go_at_call 12; refine (Hal.out w8 (HF2.out w8 (K8.out.1 _ HA.out))).mono ?_; rintro e9 w9 ⟨rfl, k9⟩; have K9 := hid (K8.out.trans k9); clear k9)
          | (go_at_call 23; refine (tiles_same Hrl.out Hrt.out (by have := Ht100.out; omega) (K7.out.1 _ HA.out)).mono ?_; rintro e8 w8 ⟨rfl, q8, hw8⟩; have K8 := hid (show Kp wr w8 by rw [hw8]; exact K7.out.drewN _); clear hw8)
          | (go_at_call 26; refine (texts_same Hro.out Hrp.out (by have := Hl20.out; omega) (K6.out.1 _ HA.out)).mono ?_; rintro e7 w7 ⟨rfl, q7, hw7⟩; have K7 := hid (show Kp wr w7 by rw [hw7]; exact K6.out.drewN _); clear hw7)
          | (go_at_call 25; refine (Hris.out w5 (K5.out.1 _ HA.out)).mono ?_; rintro e6 w6 ⟨rfl, k6⟩; have K6 := hid (K5.out.trans k6); clear k6)
          | (go_at_call 24; refine (His.out wr HA.out).mono ?_; rintro e5 w5 ⟨rfl, k5⟩; have K5 := hid k5; clear k5))
        go_ret
        exact ⟨rfl, HF2.out _ (K9.out.1 _ HA.out), (E2.out.trans HE.out).trans K9.out.2⟩
end Go.Proofs.YtcdhimnmbpllgaaDoor

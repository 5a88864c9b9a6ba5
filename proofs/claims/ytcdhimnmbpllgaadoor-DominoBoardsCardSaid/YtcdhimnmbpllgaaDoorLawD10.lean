/-
  The walk of DominoBoards (printed by gen_brd.py).
-/
import Derived.Test.YtcdhimnmbpllgaaDoorBFacts
import Derived.Test.YtcdhimnmbpllgaaDoorDT2
import Derived.Test.YtcdhimnmbpllgaaDoorDAlive
import Derived.Test.YtcdhimnmbpllgaaDoorDEntry
namespace Go.Proofs.YtcdhimnmbpllgaaDoor
open Go.RowKit
set_option linter.unusedVariables false
set_option linter.unusedSimpArgs false
set_option maxHeartbeats 4000000
set_option maxRecDepth 100000

def RT.dm : RT Dom := ⟨3, fun _ d cs => cs = [.int .i64 d.1, .int .i64 d.2.1, .bool d.2.2], fun _ _ _ h => by rw [h]; rfl, fun _ _ _ _ h => h⟩
theorem RdS.getDm {F : MS} {l : List Dom} {A : Option Addr} {n c : Nat} (h : RdS F RT.dm l (.slice A n c)) {i : Nat} {d : Dom} (ha : l[i]? = some d) :
    ∃ b o, A = some ⟨b, o, none⟩ ∧ F.at b (o + i * 3) (.int .i64 d.1) ∧ F.at b (o + i * 3 + 1) (.int .i64 d.2.1) ∧ F.at b (o + i * 3 + 2) (.bool d.2.2) := by
  obtain ⟨b, o, cs, h1, h2, h3⟩ := h.get ha (by show 0 < 3; omega)
  obtain rfl : cs = [.int .i64 d.1, .int .i64 d.2.1, .bool d.2.2] := h2
  exact ⟨b, o, h1, h3 0 _ rfl, h3 1 _ rfl, h3 2 _ rfl⟩
theorem rd_strs {l : List ByteArray} {v : Value} {m : MS} (h : SlR 9 1 StrR l v m) : RdS m RT.str l v := SlR.rd (R := StrR) (T := RT.str) (fun a cs m h => h.1) h
theorem drStr_bt {f : Nat → Nat → Bool} {n y x : Nat} (hx : x < n) : bt (drStr f n y) x = if f x y then 35 else 46 := by
  have hs : x < (drStr f n y).size := by rw [drStr_size]; exact hx
  have hb := bt_eq (drStr f n y) x hs
  have hv : (drStr f n y)[x]'hs = if f x y then 35 else 46 := by
    show (drRow f y n).toArray[x]'_ = _
    simp [drRow]
  rw [hv] at hb
  rw [← hb]
  cases f x y <;> rfl
theorem u8_small {m : Nat} (h : m ≤ 7) : IntKind.u8.wrap (m : Int) = m := by
  have h1 : IntKind.u8.wrap (m : Int) = (m : Int) % 256 := rfl
  rw [h1]; omega
theorem boards_any {F : MS} {w : World} (hf : FourOk F) (hH : Has w F) {a b : Int} (ha : 0 ≤ a ∧ a ≤ 255) (hb : 0 ≤ b ∧ b ≤ 255) :
    Calls Tryd.prog 10 #[.int .u8 a, .int .u8 b] w (LawPost w F) := by
  have Hal := hid (fun (W : World) (hW : Has W F) => alive_any hf hW)
  have HF := hid hH
  have htm := Int.tmod_eq_emod_of_nonneg ha.1 (b := 8)
  have htn := Int.tmod_eq_emod_of_nonneg hb.1 (b := 8)
  obtain ⟨m, hm⟩ : ∃ m : Nat, (m : Int) = a.tmod 8 := ⟨(a.tmod 8).toNat, by omega⟩
  obtain ⟨n, hn⟩ : ∃ n : Nat, (n : Int) = b.tmod 8 := ⟨(b.tmod 8).toNat, by omega⟩
  have hm7 : m ≤ 7 := by omega
  have hn7 : n ≤ 7 := by omega
  have hq1 := hm.symm
  have hq2 := hn.symm
  have hq3 := u8_small hm7
  have hq4 := u8_small hn7
  have hmI : (m : Int) ≤ 7 := by omega
  have hnI : (n : Int) ≤ 7 := by omega
  have hx8 : 1 + (m : Int) ≤ 8 := by omega
  have hx0 : 0 ≤ 1 + (m : Int) := by omega
  have hxn : (1 + (m : Int)).toNat = m + 1 := by omega
  have Hm7 := hid hm7
  have Hn7 := hid hn7
  clear htm htn hm hn hH hf
  go_enter Tryd.func10, Tryd.ntmps10
  go_wp2
  go_loopw [7, 9] (fun v7 v9 wr => ∃ (y : Nat) (mR : MS), y ≤ n + 1 ∧ v9 = .int .i64 y ∧ SlR 9 1 StrR (List.replicate y (bRow (m + 1))) v7 mR ∧ Has wr (mR + MS.all w) ∧ Ext w wr) (fun _ v _ => n + 1 - (intOf v).toNat)
  case atStart => exact ⟨0, 0, Nat.zero_le _, rfl, ⟨[], 0, 0, Sl.nil 9 1, RowsR.nil, (MS.zero_add _).symm⟩, by rw [MS.zero_add]; exact Has.all w, Ext.refl w⟩
  case round =>
    obtain ⟨y, mR, hy, rfl, hs, hW, hE⟩ := hrel
    obtain ⟨A7, c7, rfl, _⟩ := SlR.form hs
    rw [List.length_replicate] at hs ⊢
    have HS := hid hs
    have HW := hid hW
    have HE := hid hE
    clear hs hW hE
    by_cases hlt : y < n + 1
    · have hltI : (y : Int) < 1 + (n : Int) := by omega
      have Hlt := hid hlt
      have hy8 : y ≤ 8 := by omega
      clear hlt hy
      go_wp2_with (at_builtin; refine wpList_push rfl (.tmp 34) (.tmp 36) row22 rfl (.slice A7 y c7) rfl _ rfl (by simp) StrR StrR.one StrR.len _ (bRow (m + 1)) mR 0 (MS.all w) HS.out ⟨rfl, rfl⟩ (HW.out.eq (by rw [MS.zero_add])) y List.length_replicate (by omega) (by omega) ?_; intro A9 c9 w9 m9 j4 j5 j6; have J4 := hid j4; have J5 := hid j5; have J6 := hid (HE.out.trans j6); clear j4 j5 j6)
      go_roundw
      case rel => exact ⟨y + 1, m9, Hlt.out, by go_num, by rw [List.replicate_succ']; exact J4.out, J5.out, J6.out⟩
      case measure => have := Hlt.out; simp [intOf]; omega
    · have hye : y = n + 1 := by omega
      subst hye
      clear hlt hy hx8 hx0 hxn hq1 hq2 hq3 hq4
      have w1 : 1 ≤ m + 1 := by omega
      have w8 : m + 1 ≤ 8 := by omega
      have h1 : 1 ≤ n + 1 := by omega
      have h8 : n + 1 ≤ 8 := by omega
      have hrd : RdS mR RT.str (bd (m + 1) (n + 1)) (.slice A7 (n + 1) c7) := rd_strs HS.out
      have hlen : (bd (m + 1) (n + 1)).length = n + 1 := bd_len
      have hreg := bd_reg w1 w8 h1 h8
      have hce : cntE (bd (m + 1) (n + 1)) = 0 := by unfold cntE; rw [hreg]; rfl
      have hev := bd_even w1 w8 h1 h8
      have hl : (bd (m + 1) (n + 1)).length ≤ 1000 := by rw [hlen]; omega
      have hs : ∀ s ∈ bd (m + 1) (n + 1), s.size ≤ 1000000 := fun s h => by
        have h1 := (isReg.ok hreg).1.rows s h
        have h2 := (isReg.ok hreg).1.w8
        omega
      have hwd := bd_wd w1 w8 h1 h8
      have hp := (isReg.ok hreg).1
      have Htl := hid (fun he => bd_tile w1 w8 h1 h8 he)
      obtain ⟨p, hpd⟩ : ∃ p, p = bd (m + 1) (n + 1) := ⟨_, rfl⟩
      rw [← hpd] at hrd hlen hreg hce hev hl hs hwd hp Htl
      obtain ⟨XY, hXY⟩ : ∃ XY : Nat, XY = (m + 1) * (n + 1) := ⟨_, rfl⟩
      have hxy64 : XY ≤ 64 := by rw [hXY]; exact Nat.mul_le_mul w8 h8
      have hmulI : (1 + (m : Int)) * (1 + (n : Int)) = (XY : Int) := by rw [hXY, Int.natCast_mul, Int.natCast_add, Int.natCast_add, Int.add_comm (m : Int), Int.add_comm (n : Int)]; rfl
      have hxyI : (XY : Int) ≤ 64 := by omega
      rw [← hXY] at hev Htl
      have Hcnt := hid (fun (W : World) (hW : Has W mR) => show Calls Tryd.prog 13 #[.slice A7 (n + 1) c7] W fun e w' => e = .returned (.tuple #[.int .i64 (cntV p), .int .i64 0]) ∧ Kp W w' from by
        rw [← hlen] at hrd ⊢
        rw [← hce]
        exact count_any hrd hl hs hW)
      obtain ⟨CN, hCN⟩ : ∃ CN : Nat, CN = cntV p := ⟨_, rfl⟩
      rw [← hCN] at Hcnt hev
      have hn1 : n + 1 = p.length := hlen.symm
      clear HS hXY
      by_cases hodd : XY % 2 = 0
      · have hcp : 0 < CN := hev.2 hodd
        have hcpI : (0 : Int) < CN := by omega
        have htm2 : (XY : Int).tmod 2 = 0 := by rw [Int.tmod_eq_emod_of_nonneg (Int.natCast_nonneg _)]; omega
        have Htile := hid (fun (W : World) (hW : Has W mR) => show Calls Tryd.prog 22 #[.slice A7 (n + 1) c7] W fun e w' => ∃ v m', e = .returned (.tuple #[v, .int .i64 0]) ∧ Dms (pathF (wd p) (hsR p) (wd p * p.length) 0 0 0) v m' ∧ (∀ M, Has W M → Has w' (m' + M)) ∧ Ext W w' from by
          rw [hn1] at hrd ⊢
          exact tile_yes hrd hl hs hW hreg (by rw [← hCN]; exact hcp))
        have Hused := hid (fun (W : World) (hW : Has W mR) => show Calls Tryd.prog 31 #[.slice A7 (n + 1) c7] W fun e w' => ∃ b v1 v2 m1 m2, e = .returned (.tuple #[.slice (some ⟨b, 0, none⟩) 2 2, .int .i64 0]) ∧ SlR 9 1 StrR (drawnL p (usedB p false)) v1 m1 ∧ SlR 9 1 StrR (drawnL p (usedB p true)) v2 m2 ∧ (∀ M, Has W M → Has w' (blk b #[v1, v2] 22 + (m1 + (m2 + M)))) ∧ Ext W w' from by
          rw [hn1] at hrd ⊢
          exact used_yes hrd hl hs hW hreg (by rw [← hCN]; exact hcp))
        obtain ⟨T, hT, hT2, hTd⟩ := Htl.out hodd
        rw [← hT] at Htile
        have HTd := hid hTd
        have Hp := hid hp
        have Hwd := hid hwd
        obtain ⟨nT, hnT⟩ : ∃ nT, nT = T.length := ⟨_, rfl⟩
        rw [← hnT] at hT2
        have HnT := hid hnT
        have hT64 : (nT : Int) ≤ 32 := by omega
        have hT2I : 2 * (nT : Int) = (XY : Int) := by omega
        have Hlen := hid hlen
        clear hrd hlen hreg hce hev hl hs hwd hp Htl hCN hT hTd hnT hodd hpd hn1
        go_wp2_with (first
          | (go_at_call 31; refine (Hused.out _ H2.out.right.left).mono ?_; rintro e3 w3 ⟨bu, v1, v2, m1, m2, rfl, k1, k2, k3, k4⟩; obtain ⟨A1, c1, rfl, _⟩ := SlR.form k1; obtain ⟨A2, c2, rfl, _⟩ := SlR.form k2; simp only [drawnL_len, Hlen.out] at k1 k2 k3; have U1 := hid k1; have U2 := hid k2; have H3 := hid (k3 _ H2.out); have E3 := hid (E2.out.trans k4); clear k1 k2 k3 k4)
          | (go_at_call 22; refine (Htile.out _ H1.out.left).mono ?_; rintro e2 w2 ⟨vT, mT, rfl, k1, k2, k3⟩; obtain ⟨AT, cT, rfl, _⟩ := SlR.form k1; rw [← HnT.out] at k1 ⊢; have TD := hid k1; have H2 := hid (k2 _ H1.out); have E2 := hid (E1.out.trans k3); clear k1 k2 k3)
          | (go_at_call 13; refine (Hcnt.out _ HW.out.left).mono ?_; rintro e1 w1 ⟨rfl, k1⟩; have H1 := hid (k1.1 _ HW.out); have E1 := hid (HE.out.trans k1.2); clear k1))
        go_loopw [16] (fun v wr => ∃ i : Nat, i ≤ nT ∧ v = .int .i64 i ∧ Has wr (blk bu #[.slice A1 (n + 1) c1, .slice A2 (n + 1) c2] 22 + (m1 + (m2 + (mT + (mR + MS.all w))))) ∧ Ext w wr) (fun v _ => nT - (intOf v).toNat)
        case atStart => exact ⟨0, Nat.zero_le _, rfl, H3.out, E3.out⟩
        case round =>
          obtain ⟨i, hi, rfl, hWi, hEi⟩ := hrel
          have HWi := hid hWi
          have HEi := hid hEi
          clear hWi hEi
          by_cases hit : i < nT
          · have hitI : (i : Int) < nT := by omega
            obtain ⟨d, hd⟩ : ∃ d, T[i]? = some d := ⟨_, List.getElem?_eq_getElem (by rw [← HnT.out]; exact hit)⟩
            obtain ⟨x, y, hdx, hx, hy, hus⟩ := HTd.out d (List.mem_of_getElem? hd)
            have hTr : RdS mT RT.dm T (.slice AT nT cT) := SlR.rd (R := DmR) (T := RT.dm) (fun a cs m h => h.1) TD.out
            obtain ⟨bT, oT, hA, z0, z1, z2⟩ := hTr.getDm hd
            have hncT : nT ≤ cT := by
              have := hTr.cells.2.1
              have := HnT.out
              omega
            subst hA
            obtain ⟨dx, dy, dd⟩ := d
            simp only at hdx hus z0 z1 z2
            have hdx1 : dx = (x : Int) := congrArg Prod.fst hdx
            have hdy1 : dy = (y : Int) := congrArg (fun q => q.2.1) hdx
            subst hdx1
            subst hdy1
            have y0 := z0.c0 HWi.out.right.right.right.left
            have y1 := z1.c0 HWi.out.right.right.right.left
            have y2 := z2.c0 HWi.out.right.right.right.left
            have Hit := hid hit
            have hxI : (x : Int) < 1 + m := by omega
            have hyI : (y : Int) < 1 + n := by omega
            clear hit hi hd hTr z0 z1 z2 hdx
            cases dd with
            | false =>
              have hS1 := rd_strs U1.out
              obtain ⟨bR, oR, hA, e3⟩ := hS1.getStr (drawnL_get (f := usedB p false) (show y < p.length by rw [Hlen.out]; omega))
              have hncR : n + 1 ≤ c1 := by
                obtain ⟨_, _, e, _, h, _⟩ := SlR.form U1.out
                injection e with e1 e2 e3'
                rw [drawnL_len, Hlen.out] at h
                omega
              subst hA
              obtain ⟨s, hs⟩ : ∃ s, s = drStr (usedB p false) (wd p) y := ⟨_, rfl⟩
              rw [← hs] at e3
              have hss : s.size = m + 1 := by rw [hs, drStr_size, Hwd.out]
              have hxs : x < s.size := by omega
              have hbt := bt_eq s x hxs
              have hb35 : bt s x = 35 := by rw [hs, drStr_bt (by rw [Hwd.out]; omega), hus]; rfl
              rw [hb35] at hbt
              have hxsI : (x : Int) < s.size := by omega
              have hssI : (s.size : Int) = 1 + m := by omega
              have HSt := hid e3
              have HD := hid (show Has (wr.alloc (.cells #[.int .i64 0, .int .i64 0, .bool false] 40)) (blk wr.heap.size #[.int .i64 0, .int .i64 0, .bool false] 40 + _) from HWi.out.alloc _)
              clear e3 hs hb35 hS1
              go_wp2_with (refine wpList_store_whole rfl (.tmp 17) (.tmp 115) 40 rfl 3 size40 wr.heap.size (.agg #[.int .i64 (x : Int), .int .i64 (y : Int), .bool false]) rfl rfl rfl (by simp [Value.cells, Value.oneCell']) #[.int .i64 0, .int .i64 0, .bool false] 40 _ HD.out rfl ?_; intro w5 j1 j2; have H5 := hid (show Has w5 (blk wr.heap.size #[.int .i64 (x : Int), .int .i64 (y : Int), .bool false] 40 + (blk bu #[.slice (some ⟨bR, oR, none⟩) (n + 1) c1, .slice A2 (n + 1) c2] 22 + (m1 + (m2 + (mT + (mR + MS.all w)))))) from j1); have E5 := hid ((HEi.out.trans (Ext.alloc _ _)).trans j2); have q0 := H5.out.at_ (i := 0) rfl; have q1 := H5.out.at_ (i := 1) rfl; have q2 := H5.out.at_ (i := 2) rfl; have u0 := H5.out.right.at_ (i := 0) rfl; have st := HSt.out.c0 H5.out.right.right.left; clear j1 j2)
              have hN6 : (y : Int) < (n : Int) + 1 := by omega
              have hN1 : ¬ ((y : Int) < 0) := by omega
              have hN2 : ¬ ((n : Int) + 1 ≤ (y : Int)) := by omega
              have hN3 : ¬ ((x : Int) < 0) := by omega
              have hN4 : ¬ ((m : Int) + 1 ≤ (x : Int)) := by omega
              have hN7 : (x : Int) < (m : Int) + 1 := by omega
              have hN8 : x < m + 1 := hx
              have hN5 : ¬ ((s.size : Int) ≤ (x : Int)) := by omega
              have hS : w5.drew.cell? ⟨wr.heap.size, 0, none⟩ = some (.int .i64 (x : Int)) ∧ w5.drew.cell? ⟨wr.heap.size, 1, none⟩ = some (.int .i64 (y : Int)) ∧ w5.drew.cell? ⟨bu, 0, none⟩ = some (.slice (some ⟨bR, oR, none⟩) (n + 1) c1) ∧ w5.drew.cell? ⟨bR, oR + y, none⟩ = some (.string s) := ⟨q0, q1, u0, st⟩
              refine wp_region_txt (fun W => W.cell? ⟨wr.heap.size, 0, none⟩ = some (.int .i64 (x : Int)) ∧ W.cell? ⟨wr.heap.size, 1, none⟩ = some (.int .i64 (y : Int)) ∧ W.cell? ⟨bu, 0, none⟩ = some (.slice (some ⟨bR, oR, none⟩) (n + 1) c1) ∧ W.cell? ⟨bR, oR + y, none⟩ = some (.string s)) none
                [(0, true), (1, true), (2, true), (3, true), (4, true), (5, true), (6, true), (7, true), (8, true), (9, true), (10, true), (11, true), (12, true), (13, true), (14, true), (15, true), (16, true), (17, true), (18, true), (19, true), (20, true), (21, true), (22, true), (23, true), (24, true), (25, true), (26, true), (27, true), (28, true), (29, true), (30, true), (31, true), (32, true), (33, true), (34, true), (35, true), (36, true), (37, true), (38, true), (39, true), (40, true), (41, true), (42, true), (43, true), (44, true), (45, true)] (by kernel_rfl) rfl (by kernel_rfl) (by kernel_rfl) (by repeat (first | with_reducible refine PanicOk.thn ?_ | with_reducible refine PanicOk.blk ?_ | exact PanicOk.body _ _ _)) ?_
              repeat
                (refine txt_quiet ?_ hS rfl rfl (fun W hW => ?_) ?_
                 rotate_left 1
                 · obtain ⟨hW1, hW2, hW3, hW4⟩ := hW
                   go_simp
                   exact rfl
                 simp only [Act.put, List.setIfInBounds_toArray, List.set_cons_zero, List.set_cons_succ])
              
              refine txt_done ?_
              go_wp2
              go_roundw
              case rel => exact ⟨i + 1, Hit.out, by go_num, H5.out.right.drew, E5.out.trans (Ext.drew _)⟩
              case measure => have := Hit.out; simp [intOf]; omega
            | true =>
              have hS1 := rd_strs U2.out
              obtain ⟨bR, oR, hA, e3⟩ := hS1.getStr (drawnL_get (f := usedB p true) (show y < p.length by rw [Hlen.out]; omega))
              have hncR : n + 1 ≤ c2 := by
                obtain ⟨_, _, e, _, h, _⟩ := SlR.form U2.out
                injection e with e1 e2 e3'
                rw [drawnL_len, Hlen.out] at h
                omega
              subst hA
              obtain ⟨s, hs⟩ : ∃ s, s = drStr (usedB p true) (wd p) y := ⟨_, rfl⟩
              rw [← hs] at e3
              have hss : s.size = m + 1 := by rw [hs, drStr_size, Hwd.out]
              have hxs : x < s.size := by omega
              have hbt := bt_eq s x hxs
              have hb35 : bt s x = 35 := by rw [hs, drStr_bt (by rw [Hwd.out]; omega), hus]; rfl
              rw [hb35] at hbt
              have hxsI : (x : Int) < s.size := by omega
              have hssI : (s.size : Int) = 1 + m := by omega
              have HSt := hid e3
              have HD := hid (show Has (wr.alloc (.cells #[.int .i64 0, .int .i64 0, .bool false] 40)) (blk wr.heap.size #[.int .i64 0, .int .i64 0, .bool false] 40 + _) from HWi.out.alloc _)
              clear e3 hs hb35 hS1
              go_wp2_with (refine wpList_store_whole rfl (.tmp 17) (.tmp 115) 40 rfl 3 size40 wr.heap.size (.agg #[.int .i64 (x : Int), .int .i64 (y : Int), .bool true]) rfl rfl rfl (by simp [Value.cells, Value.oneCell']) #[.int .i64 0, .int .i64 0, .bool false] 40 _ HD.out rfl ?_; intro w5 j1 j2; have H5 := hid (show Has w5 (blk wr.heap.size #[.int .i64 (x : Int), .int .i64 (y : Int), .bool true] 40 + (blk bu #[.slice A1 (n + 1) c1, .slice (some ⟨bR, oR, none⟩) (n + 1) c2] 22 + (m1 + (m2 + (mT + (mR + MS.all w)))))) from j1); have E5 := hid ((HEi.out.trans (Ext.alloc _ _)).trans j2); have q0 := H5.out.at_ (i := 0) rfl; have q1 := H5.out.at_ (i := 1) rfl; have q2 := H5.out.at_ (i := 2) rfl; have u0 := H5.out.right.at_ (i := 1) rfl; have st := HSt.out.c0 H5.out.right.right.right.left; clear j1 j2)
              have hN6 : (y : Int) < (n : Int) + 1 := by omega
              have hN1 : ¬ ((y : Int) < 0) := by omega
              have hN2 : ¬ ((n : Int) + 1 ≤ (y : Int)) := by omega
              have hN3 : ¬ ((x : Int) < 0) := by omega
              have hN4 : ¬ ((m : Int) + 1 ≤ (x : Int)) := by omega
              have hN7 : (x : Int) < (m : Int) + 1 := by omega
              have hN8 : x < m + 1 := hx
              have hN5 : ¬ ((s.size : Int) ≤ (x : Int)) := by omega
              have hS : w5.drew.cell? ⟨wr.heap.size, 0, none⟩ = some (.int .i64 (x : Int)) ∧ w5.drew.cell? ⟨wr.heap.size, 1, none⟩ = some (.int .i64 (y : Int)) ∧ w5.drew.cell? ⟨bu, 1, none⟩ = some (.slice (some ⟨bR, oR, none⟩) (n + 1) c2) ∧ w5.drew.cell? ⟨bR, oR + y, none⟩ = some (.string s) := ⟨q0, q1, u0, st⟩
              refine wp_region_txt (fun W => W.cell? ⟨wr.heap.size, 0, none⟩ = some (.int .i64 (x : Int)) ∧ W.cell? ⟨wr.heap.size, 1, none⟩ = some (.int .i64 (y : Int)) ∧ W.cell? ⟨bu, 1, none⟩ = some (.slice (some ⟨bR, oR, none⟩) (n + 1) c2) ∧ W.cell? ⟨bR, oR + y, none⟩ = some (.string s)) none
                [(0, true), (1, true), (2, true), (3, true), (4, true), (5, true), (6, true), (7, true), (8, true), (9, true), (10, true), (11, true), (12, true), (13, true), (14, true), (15, true), (16, true), (17, true), (18, true), (19, true), (20, true), (21, true), (22, true), (23, true), (24, true), (25, true), (26, true), (27, true), (28, true), (29, true), (30, true), (31, true), (32, true), (33, true), (34, true), (35, true), (36, true), (37, true), (38, true), (39, true), (40, true), (41, true), (42, true), (43, true), (44, true), (45, true)] (by kernel_rfl) rfl (by kernel_rfl) (by kernel_rfl) (by repeat (first | with_reducible refine PanicOk.thn ?_ | with_reducible refine PanicOk.blk ?_ | exact PanicOk.body _ _ _)) ?_
              repeat
                (refine txt_quiet ?_ hS rfl rfl (fun W hW => ?_) ?_
                 rotate_left 1
                 · obtain ⟨hW1, hW2, hW3, hW4⟩ := hW
                   go_simp
                   exact rfl
                 simp only [Act.put, List.setIfInBounds_toArray, List.set_cons_zero, List.set_cons_succ])
              
              refine txt_done ?_
              go_wp2
              go_roundw
              case rel => exact ⟨i + 1, Hit.out, by go_num, H5.out.right.drew, E5.out.trans (Ext.drew _)⟩
              case measure => have := Hit.out; simp [intOf]; omega
          · have hie : i = nT := by omega
            subst hie
            clear hit hi
            have HWF := hid (show Has wr (blk bu #[.slice A1 (n + 1) c1, .slice A2 (n + 1) c2] 22 + (m1 + (m2 + (mT + mR))) + F) from Has.with_all HF.out (HWi.out.eq (by ac_rfl)))
            go_wp2_with (go_at_call 12; refine (Hal.out _ HWF.out.right).mono ?_; rintro e4 w4 ⟨rfl, k4⟩; have K4 := hid k4; clear k4)
            go_ret
            exact ⟨rfl, (K4.out.has HWF.out).right, HEi.out.trans K4.out.2⟩
      · have hcp : CN = 0 := by
          have : ¬ 0 < CN := fun h => hodd (hev.1 h)
          omega
        have htm2 : (XY : Int).tmod 2 = 1 := by rw [Int.tmod_eq_emod_of_nonneg (Int.natCast_nonneg _)]; omega
        have Htile := hid (fun (W : World) (hW : Has W mR) => show Calls Tryd.prog 22 #[.slice A7 (n + 1) c7] W fun e w' => e = .returned (.tuple #[.slice none 0 0, .int .i64 10]) ∧ Kp W w' from by
          rw [hn1] at hrd ⊢
          exact tile_few hrd hl hs hW hreg (by rw [← hCN]; exact hcp))
        have Hused := hid (fun (W : World) (hW : Has W mR) => show Calls Tryd.prog 31 #[.slice A7 (n + 1) c7] W fun e w' => e = .returned (.tuple #[.slice none 0 0, .int .i64 10]) ∧ Kp W w' from by
          rw [hn1] at hrd ⊢
          exact used_few hrd hl hs hW hreg (by rw [← hCN]; exact hcp))
        have HWF := hid (show Has wr (mR + F) from Has.with_all HF.out HW.out)
        rw [hcp] at Hcnt
        clear hrd hlen hreg hce hev hl hs hwd hp Htl hCN hcp hodd hpd hn1
        go_wp2_with (first
          | (go_at_call 12; refine (Hal.out _ (K3.out.has HWF.out).right).mono ?_; rintro e4 w4 ⟨rfl, k4⟩; have K4 := hid (K3.out.trans k4); clear k4)
          | (go_at_call 31; refine (Hused.out _ (K2.out.has HWF.out).left).mono ?_; rintro e3 w3 ⟨rfl, k3⟩; have K3 := hid (K2.out.trans k3); clear k3)
          | (go_at_call 22; refine (Htile.out _ (K1.out.has HWF.out).left).mono ?_; rintro e2 w2 ⟨rfl, k2⟩; have K2 := hid (K1.out.trans k2); clear k2)
          | (go_at_call 13; refine (Hcnt.out _ HWF.out.left).mono ?_; rintro e1 w1 ⟨rfl, k1⟩; have K1 := hid k1; clear k1))
        go_ret
        exact ⟨rfl, (K4.out.has HWF.out).right, HE.out.trans K4.out.2⟩
end Go.Proofs.YtcdhimnmbpllgaaDoor

/-
  The walk of the specification's count (ways; printed by gen_ways.py).
-/
import Derived.Test.YtcdhimnmbpllgaaDoorWBits
import Derived.Test.YtcdhimnmbpllgaaDoorDK6
namespace Go.Proofs.YtcdhimnmbpllgaaDoor
open Go.RowKit
set_option linter.unusedVariables false
set_option linter.unusedSimpArgs false
set_option maxHeartbeats 4000000
set_option maxRecDepth 100000

/-- A grid of bools. -/
structure GridB (f : Nat → Nat → Bool) (W H : Nat) (l : List (List Bool)) : Prop where
  len : l.length = H
  row : ∀ (y : Nat) r, l[y]? = some r → r.length = W ∧ ∀ x, x < W → r[x]? = some (f x y)
theorem updW_at {W H : Nat} {f : Nat → Nat → Bool} {x y v s : Nat} {l : List Nat} (hx : x < W) : updW W H f (y * W + x) l v s = if s.testBit x || !f x y then (if !s.testBit x || f x y then addL l (offB s x) v else l)
    else if f (x + 1) y && (decide (x + 1 < W) && !s.testBit (x + 1)) then addL (if f x (y + 1) && decide (y + 1 < H) then addL l (offB s x ||| 2 ^ x) v else l) (offB s x ||| 2 ^ (x + 1)) v else (if f x (y + 1) && decide (y + 1 < H) then addL l (offB s x ||| 2 ^ x) v else l) := by
  have h1 : (y * W + x) % W = x := by rw [Nat.mul_comm, Nat.mul_add_mod, Nat.mod_eq_of_lt hx]
  have h2 : (y * W + x) / W = y := by rw [Nat.mul_comm, Nat.mul_add_div (by omega), Nat.div_eq_of_lt hx, Nat.add_zero]
  unfold updW
  simp only [h1, h2]
theorem bit_int (s x : Nat) : ((s : Int) / 2 ^ x).tmod 2 = if s.testBit x then 1 else 0 := by
  have e : (s : Int) / 2 ^ x = ((s / 2 ^ x : Nat) : Int) := by
    rw [show ((2 : Int) ^ x) = ((2 ^ x : Nat) : Int) from (Int.natCast_pow 2 x).symm]; rfl
  rw [e, Int.tmod_eq_emod_of_nonneg (Int.natCast_nonneg _)]
  have := shr_bit s x
  have h2 : ((s / 2 ^ x : Nat) : Int) % 2 = ((s / 2 ^ x % 2 : Nat) : Int) := rfl
  rw [h2, this]
  split <;> rfl
/-- A row of a grid that is read. -/
theorem grid_row {F : MS} {f : Nat → Nat → Bool} {W H : Nat} {l : List (List Bool)} {b o c : Nat} (hrd : RdS F (RT.sl RT.bool) l (.slice (some ⟨b, o, none⟩) H c)) (hg : GridB f W H l) (hW : 1 ≤ W) {y : Nat} (hy : y < H) :
    ∃ b2 o2 c2, F.at b (o + y) (.slice (some ⟨b2, o2, none⟩) W c2) ∧ W ≤ c2 ∧ ∀ x, x < W → F.at b2 (o2 + x) (.bool (f x y)) := by
  obtain ⟨r0, hr0⟩ : ∃ r, l[y]? = some r := ⟨_, List.getElem?_eq_getElem (by rw [hg.len]; exact hy)⟩
  obtain ⟨b0, o0, A0, c0, hA, z0, hz1, hz2, hz3⟩ := hrd.getSl hr0
  obtain ⟨hl, hc⟩ := hg.row y r0 hr0
  injection hA with hA; injection hA with e1 e2
  subst e1; subst e2
  rw [hl] at z0 hz1 hz2
  obtain ⟨_, _, _, xs, h4, h5, h6⟩ := hz1.cells
  have hxs := rowsQ_bools_eq h5
  obtain ⟨b2, o2, hA2, h7⟩ := h4 (by
    intro h
    rw [hxs, List.map_eq_nil_iff] at h
    rw [h] at hl
    simp at hl
    omega)
  subst hA2
  refine ⟨b2, o2, c0, z0, hz2, fun x hx => h7 x _ ?_⟩
  rw [hxs, List.getElem?_map, hc x hx]
  rfl
theorem ways_any {F : MS} {w : World} {f : Nat → Nat → Bool} {W H : Nat} {l : List (List Bool)} {A : Option Addr} {c : Nat} (hrd : RdS F (RT.sl RT.bool) l (.slice A H c)) (hg : GridB f W H l)
    (hW1 : 1 ≤ W) (hW8 : W ≤ 8) (hH1 : 1 ≤ H) (hH8 : H ≤ 8) (hin : ∀ x y, f x y = true → x < W ∧ y < H) (hH : Has w F) :
    Calls Tryd.prog 35 #[.slice A H c] w fun e w' => e = .returned (.int .i64 (cntF W f (W * H) 0 0)) ∧ Kp w w' := by
  obtain ⟨b0, o0, hA⟩ : ∃ b0 o0, A = some ⟨b0, o0, none⟩ := by
    obtain ⟨r0, hr0⟩ : ∃ r, l[0]? = some r := ⟨_, List.getElem?_eq_getElem (by rw [hg.len]; exact hH1)⟩
    obtain ⟨b0, o0, A0, c0, hA, _⟩ := hrd.getSl hr0
    exact ⟨b0, o0, hA⟩
  subst hA
  have Hrow := hid (fun (y : Nat) (hy : y < H) => grid_row hrd hg hW1 hy)
  have hF := hid (fun (W' : World) (X : MS) (h : Has W' (X + MS.all w)) => hH.of_all h)
  obtain ⟨b2, o2, c2, z0, hz2, _⟩ := Hrow.out 0 hH1
  have y0 := z0.c0 hH
  rw [Nat.add_zero] at y0
  have hHc : H ≤ c := by have := hrd.cells.2.1; rw [hg.len] at this; exact this
  obtain ⟨PW, hPW⟩ : ∃ PW, PW = 2 ^ W := ⟨_, rfl⟩
  have hPW256 : PW ≤ 256 := by rw [hPW]; exact Nat.pow_le_pow_right (by omega) hW8
  have hPWp : 0 < PW := by rw [hPW]; exact Nat.two_pow_pos W
  have hHI : (0 : Int) < H := by omega
  have hH0 : 0 < H := hH1
  have hWay := hid (WayI.first (W := W) (H := H) (f := f) hW8 hH8)
  rw [ways_cnt hW1 hin] at hWay
  obtain ⟨N, hN⟩ : ∃ N, N = cntF W f (W * H) 0 0 := ⟨_, rfl⟩
  rw [← hN] at hWay ⊢
  clear hN hrd hg
  go_enter Tryd.func35, Tryd.ntmps35
  go_wp2
  have hS : w.drew.cell? ⟨b0, o0, none⟩ = some (.slice (some ⟨b2, o2, none⟩) W c2) := y0
  refine wp_region_txt (fun W' => W'.cell? ⟨b0, o0, none⟩ = some (.slice (some ⟨b2, o2, none⟩) W c2)) none
    [(0, true), (1, true), (2, true), (3, true), (4, true), (5, true), (6, true), (7, true)] (by kernel_rfl) rfl (by kernel_rfl) (by kernel_rfl) (by repeat (first | with_reducible refine PanicOk.thn ?_ | with_reducible refine PanicOk.blk ?_ | exact PanicOk.body _ _ _)) ?_
  repeat
    (refine txt_quiet ?_ hS rfl rfl (fun W hW => ?_) ?_
     rotate_left 1
     · obtain hW1 := hW
       go_simp
       exact rfl
     simp only [Act.put, List.setIfInBounds_toArray, List.set_cons_zero, List.set_cons_succ])
  refine txt_done ?_
  have hsh : wrap64 ((2 : Int) ^ W) = (PW : Int) := by
    have e : (2 : Int) ^ W = ((PW : Nat) : Int) := by rw [hPW]; exact (Int.natCast_pow 2 W).symm
    rw [e]
    unfold wrap64
    omega
  have HPW := hid hPW
  have Hsh := hid hsh
  have HH := hid hH
  clear hPW hS y0 z0 hz2
  have HW0 := hid ((Has.all w).drew)
  go_wp2_with (first
    | (refine wpList_store_blk rfl (.tmp 22) (.const (.int .i64 1)) 3 rfl size3 bN oN (.int .i64 1) rfl rfl rfl curR 3 (MS.all w) HW8.out HoR.out ?_; intro w9 k1 k2; have HW9 := hid k1; have HE9 := hid (HE8.out.trans k2); clear k1 k2)
    | (refine wpList_make_sl rfl (.tmp 19) (.tmp 19) 69 rfl 3 (.int .i64 0) 1 8 Tryd.underlying69 info3 .i64 .i64 PW (congrArg (Value.int .i64) Hsh.out) (congrArg (Value.int .i64) Hsh.out) (by omega) (by simp only [maxLen]; omega) _ HW0.out ?_; intro v6 w8 m6 j1 j2 j3 j4; have HR0 := hid (nat_made j1); obtain ⟨bN, oN, cN, curR, rfl, rfl, hcR, hz9, hz10⟩ := Sl.at_ j1 hPWp; have HW8 := hid j2; have HE8 := hid ((Ext.drew w).trans j3); have q0 := HR0.out.cell (t := 0) (x := 0) (by rw [List.getElem?_replicate, if_pos hPWp]); have HoR := hid (show oN < curR.size from arr_lt q0); have HR1 := hid (HR0.out.put (t := 0) (x := 0) (by rw [List.getElem?_replicate, if_pos hPWp]) 1); clear j1 j2 j3 j4 q0 hz9 hz10))
  rw [← HPW.out] at hWay
  rw [Nat.add_zero] at HR1
  go_loopw [5, 6] (fun v5 v6 wr => ∃ (y k bN oN cN : Nat) (L : List Nat) (curN : Array Value), y ≤ H ∧ y * W + k = W * H ∧ v6 = .int .i64 y ∧ v5 = .slice (some ⟨bN, oN, none⟩) PW cN ∧ PW ≤ cN ∧ WayI W H f k (y * W) L N ∧ NatS L (.slice (some ⟨bN, oN, none⟩) PW cN) (blk bN curN 3) ∧ Has wr (blk bN curN 3 + MS.all w) ∧ Ext w wr) (fun _ v _ => H - (intOf v).toNat)
  case atStart => exact ⟨0, W * H, bN, oN, cN, _, _, Nat.zero_le _, by omega, rfl, rfl, hcR, by rw [Nat.zero_mul]; exact hWay.out, HR1.out, HW9.out, HE9.out⟩
  case round =>
    clear HR0 HR1 HW8 HW9 HE8 HE9 HoR hcR
    obtain ⟨y, k, bN, oN, cN, L, curN, hy, hyk, rfl, rfl, hcN, hway, hs, hW, hE⟩ := hrel
    have HWy := hid hW
    have HEy := hid hE
    have HSy := hid hs
    have Hwy := hid hway
    have Hyk := hid hyk
    clear hs hW hE hway hyk
    by_cases hlt : y < H
    · have hltI : (y : Int) < H := by omega
      obtain ⟨b2, o2, c2, z0, hz2, zc⟩ := Hrow.out y hlt
      have Z0 := hid z0
      have Zc := hid zc
      have Hlt := hid hlt
      clear z0 zc hlt hy
      go_wp2
      go_loopw [5, 7] (fun v5 v7 wr => ∃ (x k bN oN cN : Nat) (L : List Nat) (curN : Array Value), x ≤ W ∧ (y * W + x) + k = W * H ∧ v7 = .int .i64 x ∧ v5 = .slice (some ⟨bN, oN, none⟩) PW cN ∧ PW ≤ cN ∧ WayI W H f k (y * W + x) L N ∧ NatS L (.slice (some ⟨bN, oN, none⟩) PW cN) (blk bN curN 3) ∧ Has wr (blk bN curN 3 + MS.all w) ∧ Ext w wr) (fun _ v _ => W - (intOf v).toNat)
      case atStart => exact ⟨0, k, bN, oN, cN, L, curN, Nat.zero_le _, by have := Hyk.out; omega, rfl, rfl, hcN, Hwy.out, HSy.out, HWy.out, HEy.out⟩
      case round =>
        clear HSy Hwy Hyk HWy HEy
        obtain ⟨x, k, bN, oN, cN, L, curN, hx, hxk, rfl, rfl, hcN, hway, hs, hW, hE⟩ := hrel
        have HWx := hid hW
        have HEx := hid hE
        have HSx := hid hs
        have Hwx := hid hway
        have Hxk := hid hxk
        clear hs hW hE hway hxk
        by_cases hlx : x < W
        · have hlxI : (x : Int) < W := by omega
          go_wp2_with (refine wpList_make_sl rfl (.tmp 34) (.tmp 34) 69 rfl 3 (.int .i64 0) 1 8 Tryd.underlying69 info3 .i64 .i64 PW (congrArg (Value.int .i64) Hsh.out) (congrArg (Value.int .i64) Hsh.out) (by omega) (by simp only [maxLen]; omega) _ HWx.out ?_; intro v6 w8 m6 j1 j2 j3 j4; have HR0 := hid (nat_made j1); obtain ⟨bX, oX, cX, curR, rfl, rfl, hcX, hz9, hz10⟩ := Sl.at_ j1 hPWp; have HW8 := hid j2; have HE8 := hid (HEx.out.trans j3); clear j1 j2 j3 j4 hz9 hz10)
          go_loopw [9] (fun v9 wr => ∃ (s : Nat) (curX : Array Value), s ≤ PW ∧ v9 = .int .i64 s ∧ NatS (nextW W H f (y * W + x) L s) (.slice (some ⟨bX, oX, none⟩) PW cX) (blk bX curX 3) ∧ Has wr (blk bX curX 3 + (blk bN curN 3 + MS.all w)) ∧ Ext w wr) (fun v _ => PW - (intOf v).toNat)
          case atStart => exact ⟨0, curR, Nat.zero_le _, rfl, by unfold nextW; rw [← HPW.out]; exact HR0.out, HW8.out, HE8.out⟩
          case round =>
            clear HR0 HW8 HE8
            obtain ⟨s, curX, hsP, rfl, hs, hW, hE⟩ := hrel
            have HW := hid hW
            have HE := hid hE
            have HS := hid hs
            clear hs hW hE
            by_cases hls : s < PW
            · have hlsI : (s : Int) < PW := by omega
              obtain ⟨v, hv⟩ : ∃ v, v = L.getD s 0 := ⟨_, rfl⟩
              have hLs : L[s]? = some v := by rw [hv]; exact get_getD 0 (by rw [Hwx.out.len, ← HPW.out]; exact hls)
              have q0 := HW.out.right.at_ (HSx.out.cell hLs)
              by_cases hvz : v = 0
              · have hvI : (v : Int) = 0 := by omega
                have Hst := hid (show nextW W H f (y * W + x) L (s + 1) = nextW W H f (y * W + x) L s by
                  show updW W H f (y * W + x) _ (L.getD s 0) s = _
                  rw [← hv, hvz, updW_zero])
                have Hls := hid hls
                clear hls hsP hv hLs hvz
                go_wp2
                go_roundw
                case rel => exact ⟨s + 1, curX, Hls.out, by go_num, by rw [Hst.out]; exact HS.out, HW.out, HE.out⟩
                case measure => have := Hls.out; simp [intOf]; omega
              · have hvI : ¬ ((v : Int) = 0) := by omega
                have Hv := hid hv
                have Hls := hid hls
                have HLs := hid hLs
                have HvB := hid (show v ≤ 4294967296 by rw [hv]; exact Hwx.out.small (by rw [← HPW.out]; exact hls))
                obtain ⟨k', hk'⟩ : ∃ k', k = k' + 1 := ⟨k - 1, by
                  have h1 := Hxk.out
                  have h2 := Nat.mul_le_mul_right W Hlt.out
                  rw [Nat.succ_mul, Nat.mul_comm H W] at h2
                  omega⟩
                subst hk'
                have Hk1 := Hxk
                obtain ⟨RR, hRR⟩ : ∃ RR, RR = offB s x := ⟨_, rfl⟩
                obtain ⟨PX, hPX⟩ : ∃ PX, PX = 2 ^ x := ⟨_, rfl⟩
                have hsx : s < 4294967296 := by omega
                have hx32 : x < 32 := by omega
                have hoff : bits .andNot .i64 (s : Int) (PX : Int) = (RR : Int) := by rw [hPX, hRR]; exact andNot_i64 s x hsx hx32
                have hPX256 : PX ≤ 256 := by rw [hPX]; exact Nat.le_trans (Nat.pow_le_pow_right (show 0 < 2 by decide) (show x ≤ 8 by omega)) (by decide)
                have hpx : wrap64 ((2 : Int) ^ x) = (PX : Int) := by
                  have e : (2 : Int) ^ x = ((PX : Nat) : Int) := by rw [hPX]; exact (Int.natCast_pow 2 x).symm
                  rw [e]
                  clear hoff
                  unfold wrap64
                  omega
                have HRRR := hid (show RR < PW by rw [hRR, HPW.out]; exact offB_lt (by rw [← HPW.out]; exact hls) hlx)
                have hRRI : (RR : Int) < PW := by have := HRRR.out; clear hoff hpx; omega
                have HRe := hid hRR
                have HPX := hid hPX
                have hbit := bit_int s x
                have Hst0 := hid (show nextW W H f (y * W + x) L (s + 1) = _ from (show updW W H f (y * W + x) (nextW W H f (y * W + x) L s) (L.getD s 0) s = _ from updW_at hlx))
                clear hls hsP hv hLs hvz hRR hPX hsx
                cases hc : s.testBit x with
                | true =>
                  cases hf : f x y with
                  | true =>
                    rw [hf, hc] at Hst0
                    rw [hc] at hbit
                    have g0 := Z0.out.c0 (hF.out wr _ (HW.out.eq (b := blk bX curX 3 + blk bN curN 3 + MS.all w) (by ac_rfl)))
                    have g1 := (Zc.out x hlx).c0 (hF.out wr _ (HW.out.eq (b := blk bX curX 3 + blk bN curN 3 + MS.all w) (by ac_rfl)))
                    rw [hf] at g1
                    clear hf hc
                    go_wp2
                    clear g0 g1
                    obtain ⟨u1, hu1⟩ : ∃ u, u = ((nextW W H f (y * W + x) L s)).getD RR 0 := ⟨_, rfl⟩
                    have hgt1 : ((nextW W H f (y * W + x) L s))[RR]? = some u1 := by rw [hu1]; exact get_getD 0 (by rw [(nextW_dot hW1 s (by rw [← HPW.out]; exact Nat.le_of_lt Hls.out)).1, ← HPW.out]; exact HRRR.out)
                    have hub1 : u1 ≤ 8589934592 := by rw [hu1]; exact (Nat.le_trans (nextW_small hW1 Hk1.out Hwx.out (by rw [← HPW.out]; exact Nat.le_of_lt Hls.out) (by rw [← HPW.out]; exact HRRR.out)) (by decide))
                    have qx1 := HW.out.at_ (HS.out.cell hgt1)
                    have qn1 := HW.out.right.at_ (HSx.out.cell HLs.out)
                    have hwr1 : IntKind.i64.wrap ((u1 : Int) + (v : Int)) = ((u1 + v : Nat) : Int) := by rw [IntKind.wrap_i64]; have := HvB.out; omega
                    have HS1 := hid (show NatS (addL (nextW W H f (y * W + x) L s) RR v) (.slice (some ⟨bX, oX, none⟩) PW cX) (blk bX (curX.setIfInBounds (oX + RR) (.int .i64 ((u1 + v : Nat) : Int))) 3) from by
                      have h := HS.out.put hgt1 (u1 + v)
                      show NatS (List.set (nextW W H f (y * W + x) L s) RR (((nextW W H f (y * W + x) L s)).getD RR 0 + v)) _ _
                      rw [← hu1]
                      exact h)
                    have HB1 := hid (show oX + RR < curX.size from arr_lt (HS.out.cell hgt1))
                    clear hu1 hgt1
                    have hS : wr.drew.cell? ⟨bX, oX + RR, none⟩ = some (.int .i64 (u1 : Int)) ∧ wr.drew.cell? ⟨bN, oN + s, none⟩ = some (.int .i64 (v : Int)) := ⟨qx1, qn1⟩
                    clear qx1 qn1
                    refine wp_region_txt (fun W' => W'.cell? ⟨bX, oX + RR, none⟩ = some (.int .i64 (u1 : Int)) ∧ W'.cell? ⟨bN, oN + s, none⟩ = some (.int .i64 (v : Int))) (some 10)
                      [(0, true), (1, true), (2, true), (3, true), (4, true), (5, true), (6, true), (7, true), (8, true), (9, true), (10, false)] (by kernel_rfl) rfl (by kernel_rfl) (by kernel_rfl) (by repeat (first | with_reducible refine PanicOk.thn ?_ | with_reducible refine PanicOk.blk ?_ | exact PanicOk.body _ _ _)) ?_
                    repeat
                      (refine txt_quiet ?_ hS rfl rfl (fun W hW => ?_) ?_
                       rotate_left 1
                       · obtain ⟨hW1, hW2⟩ := hW
                         go_simp
                         exact rfl
                       simp only [Act.put, List.setIfInBounds_toArray, List.set_cons_zero, List.set_cons_succ])
                    refine txt_op rfl rfl ?_
                    refine op_store_blk (.tmp 87) (.tmp 86) 3 rfl size3 bX (oX + RR) (.int .i64 ((u1 + v : Nat) : Int)) rfl (congrArg (Value.int .i64) (Int.natCast_add u1 v).symm) rfl curX 3 (blk bN curN 3 + MS.all w) HW.out.drew HB1.out ?_
                    intro w1 j1 j2
                    have H1 := hid j1
                    have E1 := hid ((HE.out.trans (Ext.drew _)).trans j2)
                    refine ⟨fun h => absurd rfl h, ?_⟩
                    clear j1 j2 hS hwr1 hub1
                    refine txt_done ?_
                    simp only [Act.put]
                    go_wp2
                    go_roundw
                    case rel => exact ⟨s + 1, _, Hls.out, by go_num, by rw [Hst0.out, show (if (_ : Bool) then (_ : List Nat) else _) = addL _ _ _ from rfl, ← Hv.out, ← HRe.out]; exact HS1.out, H1.out, E1.out⟩
                    case measure => have := Hls.out; simp [intOf]; omega
                  | false =>
                    rw [hf, hc] at Hst0
                    rw [hc] at hbit
                    have g0 := Z0.out.c0 (hF.out wr _ (HW.out.eq (b := blk bX curX 3 + blk bN curN 3 + MS.all w) (by ac_rfl)))
                    have g1 := (Zc.out x hlx).c0 (hF.out wr _ (HW.out.eq (b := blk bX curX 3 + blk bN curN 3 + MS.all w) (by ac_rfl)))
                    rw [hf] at g1
                    clear hf hc
                    go_wp2
                    go_roundw
                    case rel => exact ⟨s + 1, _, Hls.out, by go_num, by rw [Hst0.out, show (if (_ : Bool) then (_ : List Nat) else _) = _ from rfl]; exact HS.out, HW.out, HE.out⟩
                    case measure => have := Hls.out; simp [intOf]; omega
                | false =>
                  cases hf : f x y with
                  | false =>
                    rw [hf, hc] at Hst0
                    rw [hc] at hbit
                    have g0 := Z0.out.c0 (hF.out wr _ (HW.out.eq (b := blk bX curX 3 + blk bN curN 3 + MS.all w) (by ac_rfl)))
                    have g1 := (Zc.out x hlx).c0 (hF.out wr _ (HW.out.eq (b := blk bX curX 3 + blk bN curN 3 + MS.all w) (by ac_rfl)))
                    rw [hf] at g1
                    clear hf hc
                    go_wp2
                    clear g0 g1
                    obtain ⟨u1, hu1⟩ : ∃ u, u = ((nextW W H f (y * W + x) L s)).getD RR 0 := ⟨_, rfl⟩
                    have hgt1 : ((nextW W H f (y * W + x) L s))[RR]? = some u1 := by rw [hu1]; exact get_getD 0 (by rw [(nextW_dot hW1 s (by rw [← HPW.out]; exact Nat.le_of_lt Hls.out)).1, ← HPW.out]; exact HRRR.out)
                    have hub1 : u1 ≤ 8589934592 := by rw [hu1]; exact (Nat.le_trans (nextW_small hW1 Hk1.out Hwx.out (by rw [← HPW.out]; exact Nat.le_of_lt Hls.out) (by rw [← HPW.out]; exact HRRR.out)) (by decide))
                    have qx1 := HW.out.at_ (HS.out.cell hgt1)
                    have qn1 := HW.out.right.at_ (HSx.out.cell HLs.out)
                    have hwr1 : IntKind.i64.wrap ((u1 : Int) + (v : Int)) = ((u1 + v : Nat) : Int) := by rw [IntKind.wrap_i64]; have := HvB.out; omega
                    have HS1 := hid (show NatS (addL (nextW W H f (y * W + x) L s) RR v) (.slice (some ⟨bX, oX, none⟩) PW cX) (blk bX (curX.setIfInBounds (oX + RR) (.int .i64 ((u1 + v : Nat) : Int))) 3) from by
                      have h := HS.out.put hgt1 (u1 + v)
                      show NatS (List.set (nextW W H f (y * W + x) L s) RR (((nextW W H f (y * W + x) L s)).getD RR 0 + v)) _ _
                      rw [← hu1]
                      exact h)
                    have HB1 := hid (show oX + RR < curX.size from arr_lt (HS.out.cell hgt1))
                    clear hu1 hgt1
                    have hS : wr.drew.cell? ⟨bX, oX + RR, none⟩ = some (.int .i64 (u1 : Int)) ∧ wr.drew.cell? ⟨bN, oN + s, none⟩ = some (.int .i64 (v : Int)) := ⟨qx1, qn1⟩
                    clear qx1 qn1
                    refine wp_region_txt (fun W' => W'.cell? ⟨bX, oX + RR, none⟩ = some (.int .i64 (u1 : Int)) ∧ W'.cell? ⟨bN, oN + s, none⟩ = some (.int .i64 (v : Int))) (some 10)
                      [(0, true), (1, true), (2, true), (3, true), (4, true), (5, true), (6, true), (7, true), (8, true), (9, true), (10, false)] (by kernel_rfl) rfl (by kernel_rfl) (by kernel_rfl) (by repeat (first | with_reducible refine PanicOk.thn ?_ | with_reducible refine PanicOk.blk ?_ | exact PanicOk.body _ _ _)) ?_
                    repeat
                      (refine txt_quiet ?_ hS rfl rfl (fun W hW => ?_) ?_
                       rotate_left 1
                       · obtain ⟨hW1, hW2⟩ := hW
                         go_simp
                         exact rfl
                       simp only [Act.put, List.setIfInBounds_toArray, List.set_cons_zero, List.set_cons_succ])
                    refine txt_op rfl rfl ?_
                    refine op_store_blk (.tmp 87) (.tmp 86) 3 rfl size3 bX (oX + RR) (.int .i64 ((u1 + v : Nat) : Int)) rfl (congrArg (Value.int .i64) (Int.natCast_add u1 v).symm) rfl curX 3 (blk bN curN 3 + MS.all w) HW.out.drew HB1.out ?_
                    intro w1 j1 j2
                    have H1 := hid j1
                    have E1 := hid ((HE.out.trans (Ext.drew _)).trans j2)
                    refine ⟨fun h => absurd rfl h, ?_⟩
                    clear j1 j2 hS hwr1 hub1
                    refine txt_done ?_
                    simp only [Act.put]
                    go_wp2
                    go_roundw
                    case rel => exact ⟨s + 1, _, Hls.out, by go_num, by rw [Hst0.out, show (if (_ : Bool) then (_ : List Nat) else _) = addL _ _ _ from rfl, ← Hv.out, ← HRe.out]; exact HS1.out, H1.out, E1.out⟩
                    case measure => have := Hls.out; simp [intOf]; omega
                  | true =>
                    rw [hf, hc] at Hst0
                    rw [hc] at hbit
                    obtain ⟨RD, hRD⟩ : ∃ RD, RD = RR ||| PX := ⟨_, rfl⟩
                    obtain ⟨PY, hPY⟩ : ∃ PY, PY = 2 ^ (x + 1) := ⟨_, rfl⟩
                    obtain ⟨RE, hRE⟩ : ∃ RE, RE = RR ||| PY := ⟨_, rfl⟩
                    have hPY512 : PY ≤ 512 := by rw [hPY]; exact Nat.le_trans (Nat.pow_le_pow_right (show 0 < 2 by decide) (show x + 1 ≤ 9 by omega)) (by decide)
                    have hpx1 : wrap64 ((2 : Int) ^ (x + 1)) = (PY : Int) := by
                      have e : (2 : Int) ^ (x + 1) = ((PY : Nat) : Int) := by rw [hPY]; exact (Int.natCast_pow 2 (x + 1)).symm
                      rw [e]
                      clear hoff hpx
                      unfold wrap64
                      omega
                    have hRR256 : RR < 4294967296 := Nat.lt_trans HRRR.out (Nat.lt_of_le_of_lt hPW256 (by decide))
                    have hor : bits .or .i64 (RR : Int) (PX : Int) = (RD : Int) := by rw [hRD]; exact or_i64 RR PX hRR256 (Nat.lt_of_le_of_lt hPX256 (by decide))
                    have hor1 : bits .or .i64 (RR : Int) (PY : Int) = (RE : Int) := by rw [hRE]; exact or_i64 RR PY hRR256 (Nat.lt_of_le_of_lt hPY512 (by decide))
                    have HRDe := hid (show RD = offB s x ||| 2 ^ x by rw [hRD, HRe.out, HPX.out])
                    have HREe := hid (show RE = offB s x ||| 2 ^ (x + 1) by rw [hRE, HRe.out, hPY])
                    have HRRD := hid (show RD < PW by rw [HRDe.out, HPW.out]; exact Nat.or_lt_two_pow (offB_lt (by rw [← HPW.out]; exact Hls.out) hlx) (Nat.pow_lt_pow_right (by decide) hlx))
                    have hRDI : (RD : Int) < PW := by have := HRRD.out; clear hoff hpx hor hpx1 hor1; omega
                    have HPY := hid hPY
                    obtain ⟨X1, hX1⟩ : ∃ X1, X1 = x + 1 := ⟨_, rfl⟩
                    have HX1 := hid hX1
                    clear hX1
                    clear hRD hPY hRE hc
                    by_cases hy1 : y + 1 < H
                    · have hy1I : (y : Int) + 1 < H := by clear hoff hpx hor hpx1 hor1; omega
                      obtain ⟨b3, o3, c3, z3, hz3, zc3⟩ := Hrow.out (y + 1) hy1
                      have Z3 := hid z3
                      have Zc3 := hid zc3
                      clear z3 zc3
                      cases hfd : f x (y + 1) with
                      | false =>
                        have Hif1 := hid (show ∀ a b : List Nat, (if f x (y + 1) && decide (y + 1 < H) then a else b) = b from fun a b => by rw [hfd]; rfl)
                        have g0 := Z0.out.c0 (hF.out wr _ (HW.out.eq (b := blk bX curX 3 + blk bN curN 3 + MS.all w) (by ac_rfl)))
                        have g1 := (Zc.out x hlx).c0 (hF.out wr _ (HW.out.eq (b := blk bX curX 3 + blk bN curN 3 + MS.all w) (by ac_rfl)))
                        rw [hf] at g1
                        have g2 := Z3.out.c0 (hF.out wr _ (HW.out.eq (b := blk bX curX 3 + blk bN curN 3 + MS.all w) (by ac_rfl)))
                        have g3 := (Zc3.out x hlx).c0 (hF.out wr _ (HW.out.eq (b := blk bX curX 3 + blk bN curN 3 + MS.all w) (by ac_rfl)))
                        rw [hfd] at g3
                        clear hfd hy1
                        by_cases hx1 : x + 1 < W
                        · have hx1I : (x : Int) + 1 < W := by clear hoff hpx hor hpx1 hor1; omega
                          have hbit2 := bit_int s (x + 1)
                          cases hfr : f (x + 1) y with
                          | false =>
                            have Hif2 := hid (show ∀ a b : List Nat, (if f (x + 1) y && (decide (x + 1 < W) && !s.testBit (x + 1)) then a else b) = b from fun a b => by rw [hfr]; rfl)
                            have g0 := Z0.out.c0 (hF.out wr _ (HW.out.eq (b := blk bX curX 3 + blk bN curN 3 + MS.all w) (by ac_rfl)))
                            have g4 := (Zc.out (x + 1) hx1).c0 (hF.out wr _ (HW.out.eq (b := blk bX curX 3 + blk bN curN 3 + MS.all w) (by ac_rfl)))
                            rw [hfr] at g4
                            clear hfr hx1
                            go_wp2
                            go_roundw
                            case rel => exact ⟨s + 1, _, Hls.out, by go_num, by rw [Hst0.out, show (∀ a b : List Nat, (if false || !true then a else b) = b) from fun a b => rfl, Hif1.out, Hif2.out]; exact HS.out, HW.out, HE.out⟩
                            case measure => have := Hls.out; simp [intOf]; omega
                          | true =>
                            cases hcr : s.testBit (x + 1) with
                            | true =>
                              have Hif2 := hid (show ∀ a b : List Nat, (if f (x + 1) y && (decide (x + 1 < W) && !s.testBit (x + 1)) then a else b) = b from fun a b => by rw [hfr, hcr, decide_eq_true hx1]; rfl)
                              rw [hcr] at hbit2
                              have g0 := Z0.out.c0 (hF.out wr _ (HW.out.eq (b := blk bX curX 3 + blk bN curN 3 + MS.all w) (by ac_rfl)))
                              have g4 := (Zc.out (x + 1) hx1).c0 (hF.out wr _ (HW.out.eq (b := blk bX curX 3 + blk bN curN 3 + MS.all w) (by ac_rfl)))
                              rw [hfr] at g4
                              clear hfr hcr hx1
                              go_wp2
                              go_roundw
                              case rel => exact ⟨s + 1, _, Hls.out, by go_num, by rw [Hst0.out, show (∀ a b : List Nat, (if false || !true then a else b) = b) from fun a b => rfl, Hif1.out, Hif2.out]; exact HS.out, HW.out, HE.out⟩
                              case measure => have := Hls.out; simp [intOf]; omega
                            | false =>
                              have Hif2 := hid (show ∀ a b : List Nat, (if f (x + 1) y && (decide (x + 1 < W) && !s.testBit (x + 1)) then a else b) = a from fun a b => by rw [hfr, hcr, decide_eq_true hx1]; rfl)
                              rw [hcr] at hbit2
                              have HRRE := hid (show RE < PW by rw [HREe.out, HPW.out]; exact Nat.or_lt_two_pow (offB_lt (by rw [← HPW.out]; exact Hls.out) hlx) (Nat.pow_lt_pow_right (by decide) hx1))
                              have hREI : (RE : Int) < PW := by have := HRRE.out; clear hoff hpx hor hpx1 hor1; omega
                              have g0 := Z0.out.c0 (hF.out wr _ (HW.out.eq (b := blk bX curX 3 + blk bN curN 3 + MS.all w) (by ac_rfl)))
                              have g4 := (Zc.out (x + 1) hx1).c0 (hF.out wr _ (HW.out.eq (b := blk bX curX 3 + blk bN curN 3 + MS.all w) (by ac_rfl)))
                              rw [hfr] at g4
                              clear hfr hcr hx1
                              go_wp2
                              clear g0 g4
                              obtain ⟨u2, hu2⟩ : ∃ u, u = ((nextW W H f (y * W + x) L s)).getD RE 0 := ⟨_, rfl⟩
                              have hgt2 : ((nextW W H f (y * W + x) L s))[RE]? = some u2 := by rw [hu2]; exact get_getD 0 (by rw [(nextW_dot hW1 s (by rw [← HPW.out]; exact Nat.le_of_lt Hls.out)).1, ← HPW.out]; exact HRRE.out)
                              have hub2 : u2 ≤ 8589934592 := by rw [hu2]; exact (Nat.le_trans (nextW_small hW1 Hk1.out Hwx.out (by rw [← HPW.out]; exact Nat.le_of_lt Hls.out) (by rw [← HPW.out]; exact HRRE.out)) (by decide))
                              have qx2 := HW.out.at_ (HS.out.cell hgt2)
                              have qn2 := HW.out.right.at_ (HSx.out.cell HLs.out)
                              have hwr2 : IntKind.i64.wrap ((u2 : Int) + (v : Int)) = ((u2 + v : Nat) : Int) := by rw [IntKind.wrap_i64]; have := HvB.out; omega
                              have HS2 := hid (show NatS (addL (nextW W H f (y * W + x) L s) RE v) (.slice (some ⟨bX, oX, none⟩) PW cX) (blk bX (curX.setIfInBounds (oX + RE) (.int .i64 ((u2 + v : Nat) : Int))) 3) from by
                                have h := HS.out.put hgt2 (u2 + v)
                                show NatS (List.set (nextW W H f (y * W + x) L s) RE (((nextW W H f (y * W + x) L s)).getD RE 0 + v)) _ _
                                rw [← hu2]
                                exact h)
                              have HB2 := hid (show oX + RE < curX.size from arr_lt (HS.out.cell hgt2))
                              clear hu2 hgt2
                              have hS : wr.drew.cell? ⟨bX, oX + RE, none⟩ = some (.int .i64 (u2 : Int)) ∧ wr.drew.cell? ⟨bN, oN + s, none⟩ = some (.int .i64 (v : Int)) := ⟨qx2, qn2⟩
                              clear qx2 qn2
                              have hxw : IntKind.i64.wrap ((x : Int) + 1) = (X1 : Int) := by
                                clear hoff hor hor1 hpx hpx1 hsh
                                rw [HX1.out, IntKind.wrap_i64]
                                omega
                              have hmn : min X1 64 = X1 := by
                                clear hoff hor hor1 hpx hpx1 hsh hxw
                                have := HX1.out
                                omega
                              have hpk : IntKind.i64.wrap ((2 : Int) ^ X1) = (PY : Int) := by
                                clear hxw hmn; clear hoff hor hor1 hpx hpx1 hsh
                                rw [show (2 : Int) ^ X1 = ((PY : Nat) : Int) from by rw [HPY.out, ← HX1.out]; exact (Int.natCast_pow 2 X1).symm, IntKind.wrap_i64]
                                omega
                              refine wp_region_txt (fun W' => W'.cell? ⟨bX, oX + RE, none⟩ = some (.int .i64 (u2 : Int)) ∧ W'.cell? ⟨bN, oN + s, none⟩ = some (.int .i64 (v : Int))) (some 14)
                                [(0, true), (1, true), (2, true), (3, true), (4, true), (5, true), (6, true), (7, true), (8, true), (9, true), (10, true), (11, true), (12, true), (13, true), (14, false)] (by kernel_rfl) rfl (by kernel_rfl) (by kernel_rfl) (by repeat (first | with_reducible refine PanicOk.thn ?_ | with_reducible refine PanicOk.blk ?_ | exact PanicOk.body _ _ _)) ?_
                              repeat
                                (refine txt_quiet ?_ hS rfl rfl (fun W hW => ?_) ?_
                                 rotate_left 1
                                 · obtain ⟨hW1, hW2⟩ := hW
                                   go_simp
                                   exact rfl
                                 simp only [Act.put, List.setIfInBounds_toArray, List.set_cons_zero, List.set_cons_succ])
                              refine txt_op rfl rfl ?_
                              refine op_store_blk (.tmp 150) (.tmp 149) 3 rfl size3 bX (oX + RE) (.int .i64 ((u2 + v : Nat) : Int)) rfl (congrArg (Value.int .i64) (Int.natCast_add u2 v).symm) rfl curX 3 (blk bN curN 3 + MS.all w) HW.out.drew HB2.out ?_
                              intro w2 j1 j2
                              have H2 := hid j1
                              have E2 := hid ((HE.out.trans (Ext.drew _)).trans j2)
                              refine ⟨fun h => absurd rfl h, ?_⟩
                              clear j1 j2 hS hwr2 hub2 hpk hxw hmn
                              refine txt_done ?_
                              simp only [Act.put]
                              go_wp2
                              go_roundw
                              case rel => exact ⟨s + 1, _, Hls.out, by go_num, by rw [Hst0.out, show (∀ a b : List Nat, (if false || !true then a else b) = b) from fun a b => rfl, Hif1.out, Hif2.out, ← Hv.out, ← HREe.out]; exact HS2.out, H2.out, E2.out⟩
                              case measure => have := Hls.out; simp [intOf]; omega
                        · have hx1I : ¬ ((x : Int) + 1 < W) := by clear hoff hpx hor hpx1 hor1; omega
                          have Hif2 := hid (show ∀ a b : List Nat, (if f (x + 1) y && (decide (x + 1 < W) && !s.testBit (x + 1)) then a else b) = b from fun a b => by rw [decide_eq_false hx1, Bool.false_and, Bool.and_false]; rfl)
                          clear hx1
                          go_wp2
                          go_roundw
                          case rel => exact ⟨s + 1, _, Hls.out, by go_num, by rw [Hst0.out, show (∀ a b : List Nat, (if false || !true then a else b) = b) from fun a b => rfl, Hif1.out, Hif2.out]; exact HS.out, HW.out, HE.out⟩
                          case measure => have := Hls.out; simp [intOf]; omega
                      | true =>
                        have Hif1 := hid (show ∀ a b : List Nat, (if f x (y + 1) && decide (y + 1 < H) then a else b) = a from fun a b => by rw [hfd, decide_eq_true hy1]; rfl)
                        have g0 := Z0.out.c0 (hF.out wr _ (HW.out.eq (b := blk bX curX 3 + blk bN curN 3 + MS.all w) (by ac_rfl)))
                        have g1 := (Zc.out x hlx).c0 (hF.out wr _ (HW.out.eq (b := blk bX curX 3 + blk bN curN 3 + MS.all w) (by ac_rfl)))
                        rw [hf] at g1
                        have g2 := Z3.out.c0 (hF.out wr _ (HW.out.eq (b := blk bX curX 3 + blk bN curN 3 + MS.all w) (by ac_rfl)))
                        have g3 := (Zc3.out x hlx).c0 (hF.out wr _ (HW.out.eq (b := blk bX curX 3 + blk bN curN 3 + MS.all w) (by ac_rfl)))
                        rw [hfd] at g3
                        clear hfd hy1
                        go_wp2
                        clear g0 g1 g2 g3
                        obtain ⟨u1, hu1⟩ : ∃ u, u = ((nextW W H f (y * W + x) L s)).getD RD 0 := ⟨_, rfl⟩
                        have hgt1 : ((nextW W H f (y * W + x) L s))[RD]? = some u1 := by rw [hu1]; exact get_getD 0 (by rw [(nextW_dot hW1 s (by rw [← HPW.out]; exact Nat.le_of_lt Hls.out)).1, ← HPW.out]; exact HRRD.out)
                        have hub1 : u1 ≤ 8589934592 := by rw [hu1]; exact (Nat.le_trans (nextW_small hW1 Hk1.out Hwx.out (by rw [← HPW.out]; exact Nat.le_of_lt Hls.out) (by rw [← HPW.out]; exact HRRD.out)) (by decide))
                        have qx1 := HW.out.at_ (HS.out.cell hgt1)
                        have qn1 := HW.out.right.at_ (HSx.out.cell HLs.out)
                        have hwr1 : IntKind.i64.wrap ((u1 : Int) + (v : Int)) = ((u1 + v : Nat) : Int) := by rw [IntKind.wrap_i64]; have := HvB.out; omega
                        have HS1 := hid (show NatS (addL (nextW W H f (y * W + x) L s) RD v) (.slice (some ⟨bX, oX, none⟩) PW cX) (blk bX (curX.setIfInBounds (oX + RD) (.int .i64 ((u1 + v : Nat) : Int))) 3) from by
                          have h := HS.out.put hgt1 (u1 + v)
                          show NatS (List.set (nextW W H f (y * W + x) L s) RD (((nextW W H f (y * W + x) L s)).getD RD 0 + v)) _ _
                          rw [← hu1]
                          exact h)
                        have HB1 := hid (show oX + RD < curX.size from arr_lt (HS.out.cell hgt1))
                        clear hu1 hgt1
                        have hS : wr.drew.cell? ⟨bX, oX + RD, none⟩ = some (.int .i64 (u1 : Int)) ∧ wr.drew.cell? ⟨bN, oN + s, none⟩ = some (.int .i64 (v : Int)) := ⟨qx1, qn1⟩
                        clear qx1 qn1
                        have hpk : IntKind.i64.wrap ((2 : Int) ^ x) = (PX : Int) := by
                          clear hoff hor hor1 hpx hpx1 hsh
                          rw [show (2 : Int) ^ x = ((PX : Nat) : Int) from by rw [HPX.out]; exact (Int.natCast_pow 2 x).symm, IntKind.wrap_i64]
                          omega
                        refine wp_region_txt (fun W' => W'.cell? ⟨bX, oX + RD, none⟩ = some (.int .i64 (u1 : Int)) ∧ W'.cell? ⟨bN, oN + s, none⟩ = some (.int .i64 (v : Int))) (some 13)
                          [(0, true), (1, true), (2, true), (3, true), (4, true), (5, true), (6, true), (7, true), (8, true), (9, true), (10, true), (11, true), (12, true), (13, false)] (by kernel_rfl) rfl (by kernel_rfl) (by kernel_rfl) (by repeat (first | with_reducible refine PanicOk.thn ?_ | with_reducible refine PanicOk.blk ?_ | exact PanicOk.body _ _ _)) ?_
                        repeat
                          (refine txt_quiet ?_ hS rfl rfl (fun W hW => ?_) ?_
                           rotate_left 1
                           · obtain ⟨hW1, hW2⟩ := hW
                             go_simp
                             exact rfl
                           simp only [Act.put, List.setIfInBounds_toArray, List.set_cons_zero, List.set_cons_succ])
                        refine txt_op rfl rfl ?_
                        refine op_store_blk (.tmp 114) (.tmp 113) 3 rfl size3 bX (oX + RD) (.int .i64 ((u1 + v : Nat) : Int)) rfl (congrArg (Value.int .i64) (Int.natCast_add u1 v).symm) rfl curX 3 (blk bN curN 3 + MS.all w) HW.out.drew HB1.out ?_
                        intro w1 j1 j2
                        have H1 := hid j1
                        have E1 := hid ((HE.out.trans (Ext.drew _)).trans j2)
                        refine ⟨fun h => absurd rfl h, ?_⟩
                        clear j1 j2 hS hwr1 hub1 hpk
                        refine txt_done ?_
                        simp only [Act.put]
                        by_cases hx1 : x + 1 < W
                        · have hx1I : (x : Int) + 1 < W := by clear hoff hpx hor hpx1 hor1; omega
                          have hbit2 := bit_int s (x + 1)
                          cases hfr : f (x + 1) y with
                          | false =>
                            have Hif2 := hid (show ∀ a b : List Nat, (if f (x + 1) y && (decide (x + 1 < W) && !s.testBit (x + 1)) then a else b) = b from fun a b => by rw [hfr]; rfl)
                            have g0 := Z0.out.c0 (hF.out w1 _ (H1.out.eq (b := blk bX (curX.setIfInBounds (oX + RD) (.int .i64 ((u1 + v : Nat) : Int))) 3 + blk bN curN 3 + MS.all w) (by ac_rfl)))
                            have g4 := (Zc.out (x + 1) hx1).c0 (hF.out w1 _ (H1.out.eq (b := blk bX (curX.setIfInBounds (oX + RD) (.int .i64 ((u1 + v : Nat) : Int))) 3 + blk bN curN 3 + MS.all w) (by ac_rfl)))
                            rw [hfr] at g4
                            clear hfr hx1
                            go_wp2
                            go_roundw
                            case rel => exact ⟨s + 1, _, Hls.out, by go_num, by rw [Hst0.out, show (∀ a b : List Nat, (if false || !true then a else b) = b) from fun a b => rfl, Hif1.out, ← Hv.out, ← HRDe.out, Hif2.out]; exact HS1.out, H1.out, E1.out⟩
                            case measure => have := Hls.out; simp [intOf]; omega
                          | true =>
                            cases hcr : s.testBit (x + 1) with
                            | true =>
                              have Hif2 := hid (show ∀ a b : List Nat, (if f (x + 1) y && (decide (x + 1 < W) && !s.testBit (x + 1)) then a else b) = b from fun a b => by rw [hfr, hcr, decide_eq_true hx1]; rfl)
                              rw [hcr] at hbit2
                              have g0 := Z0.out.c0 (hF.out w1 _ (H1.out.eq (b := blk bX (curX.setIfInBounds (oX + RD) (.int .i64 ((u1 + v : Nat) : Int))) 3 + blk bN curN 3 + MS.all w) (by ac_rfl)))
                              have g4 := (Zc.out (x + 1) hx1).c0 (hF.out w1 _ (H1.out.eq (b := blk bX (curX.setIfInBounds (oX + RD) (.int .i64 ((u1 + v : Nat) : Int))) 3 + blk bN curN 3 + MS.all w) (by ac_rfl)))
                              rw [hfr] at g4
                              clear hfr hcr hx1
                              go_wp2
                              go_roundw
                              case rel => exact ⟨s + 1, _, Hls.out, by go_num, by rw [Hst0.out, show (∀ a b : List Nat, (if false || !true then a else b) = b) from fun a b => rfl, Hif1.out, ← Hv.out, ← HRDe.out, Hif2.out]; exact HS1.out, H1.out, E1.out⟩
                              case measure => have := Hls.out; simp [intOf]; omega
                            | false =>
                              have Hif2 := hid (show ∀ a b : List Nat, (if f (x + 1) y && (decide (x + 1 < W) && !s.testBit (x + 1)) then a else b) = a from fun a b => by rw [hfr, hcr, decide_eq_true hx1]; rfl)
                              rw [hcr] at hbit2
                              have HRRE := hid (show RE < PW by rw [HREe.out, HPW.out]; exact Nat.or_lt_two_pow (offB_lt (by rw [← HPW.out]; exact Hls.out) hlx) (Nat.pow_lt_pow_right (by decide) hx1))
                              have hREI : (RE : Int) < PW := by have := HRRE.out; clear hoff hpx hor hpx1 hor1; omega
                              have g0 := Z0.out.c0 (hF.out w1 _ (H1.out.eq (b := blk bX (curX.setIfInBounds (oX + RD) (.int .i64 ((u1 + v : Nat) : Int))) 3 + blk bN curN 3 + MS.all w) (by ac_rfl)))
                              have g4 := (Zc.out (x + 1) hx1).c0 (hF.out w1 _ (H1.out.eq (b := blk bX (curX.setIfInBounds (oX + RD) (.int .i64 ((u1 + v : Nat) : Int))) 3 + blk bN curN 3 + MS.all w) (by ac_rfl)))
                              rw [hfr] at g4
                              clear hfr hcr hx1
                              go_wp2
                              clear g0 g4
                              obtain ⟨u2, hu2⟩ : ∃ u, u = ((addL (nextW W H f (y * W + x) L s) RD v)).getD RE 0 := ⟨_, rfl⟩
                              have hgt2 : ((addL (nextW W H f (y * W + x) L s) RD v))[RE]? = some u2 := by rw [hu2]; exact get_getD 0 (by rw [addL_len, (nextW_dot hW1 s (by rw [← HPW.out]; exact Nat.le_of_lt Hls.out)).1, ← HPW.out]; exact HRRE.out)
                              have hub2 : u2 ≤ 8589934592 := by rw [hu2]; exact (by have h := addL_le (l := (nextW W H f (y * W + x) L s)) (i := RD) (j := RE) (v := v); have h2 := nextW_small (i := RE) hW1 Hk1.out Hwx.out (by rw [← HPW.out]; exact Nat.le_of_lt Hls.out) (by rw [← HPW.out]; exact HRRE.out); have h3 := HvB.out; omega)
                              have qx2 := H1.out.at_ (HS1.out.cell hgt2)
                              have qn2 := H1.out.right.at_ (HSx.out.cell HLs.out)
                              have hwr2 : IntKind.i64.wrap ((u2 : Int) + (v : Int)) = ((u2 + v : Nat) : Int) := by rw [IntKind.wrap_i64]; have := HvB.out; omega
                              have HS2 := hid (show NatS (addL (addL (nextW W H f (y * W + x) L s) RD v) RE v) (.slice (some ⟨bX, oX, none⟩) PW cX) (blk bX ((curX.setIfInBounds (oX + RD) (.int .i64 ((u1 + v : Nat) : Int))).setIfInBounds (oX + RE) (.int .i64 ((u2 + v : Nat) : Int))) 3) from by
                                have h := HS1.out.put hgt2 (u2 + v)
                                show NatS (List.set (addL (nextW W H f (y * W + x) L s) RD v) RE (((addL (nextW W H f (y * W + x) L s) RD v)).getD RE 0 + v)) _ _
                                rw [← hu2]
                                exact h)
                              have HB2 := hid (show oX + RE < (curX.setIfInBounds (oX + RD) (.int .i64 ((u1 + v : Nat) : Int))).size from arr_lt (HS1.out.cell hgt2))
                              clear hu2 hgt2
                              have hS : w1.drew.cell? ⟨bX, oX + RE, none⟩ = some (.int .i64 (u2 : Int)) ∧ w1.drew.cell? ⟨bN, oN + s, none⟩ = some (.int .i64 (v : Int)) := ⟨qx2, qn2⟩
                              clear qx2 qn2
                              have hxw : IntKind.i64.wrap ((x : Int) + 1) = (X1 : Int) := by
                                clear hoff hor hor1 hpx hpx1 hsh
                                rw [HX1.out, IntKind.wrap_i64]
                                omega
                              have hmn : min X1 64 = X1 := by
                                clear hoff hor hor1 hpx hpx1 hsh hxw
                                have := HX1.out
                                omega
                              have hpk : IntKind.i64.wrap ((2 : Int) ^ X1) = (PY : Int) := by
                                clear hxw hmn; clear hoff hor hor1 hpx hpx1 hsh
                                rw [show (2 : Int) ^ X1 = ((PY : Nat) : Int) from by rw [HPY.out, ← HX1.out]; exact (Int.natCast_pow 2 X1).symm, IntKind.wrap_i64]
                                omega
                              refine wp_region_txt (fun W' => W'.cell? ⟨bX, oX + RE, none⟩ = some (.int .i64 (u2 : Int)) ∧ W'.cell? ⟨bN, oN + s, none⟩ = some (.int .i64 (v : Int))) (some 14)
                                [(0, true), (1, true), (2, true), (3, true), (4, true), (5, true), (6, true), (7, true), (8, true), (9, true), (10, true), (11, true), (12, true), (13, true), (14, false)] (by kernel_rfl) rfl (by kernel_rfl) (by kernel_rfl) (by repeat (first | with_reducible refine PanicOk.thn ?_ | with_reducible refine PanicOk.blk ?_ | exact PanicOk.body _ _ _)) ?_
                              repeat
                                (refine txt_quiet ?_ hS rfl rfl (fun W hW => ?_) ?_
                                 rotate_left 1
                                 · obtain ⟨hW1, hW2⟩ := hW
                                   go_simp
                                   exact rfl
                                 simp only [Act.put, List.setIfInBounds_toArray, List.set_cons_zero, List.set_cons_succ])
                              refine txt_op rfl rfl ?_
                              refine op_store_blk (.tmp 150) (.tmp 149) 3 rfl size3 bX (oX + RE) (.int .i64 ((u2 + v : Nat) : Int)) rfl (congrArg (Value.int .i64) (Int.natCast_add u2 v).symm) rfl (curX.setIfInBounds (oX + RD) (.int .i64 ((u1 + v : Nat) : Int))) 3 (blk bN curN 3 + MS.all w) H1.out.drew HB2.out ?_
                              intro w2 j1 j2
                              have H2 := hid j1
                              have E2 := hid ((E1.out.trans (Ext.drew _)).trans j2)
                              refine ⟨fun h => absurd rfl h, ?_⟩
                              clear j1 j2 hS hwr2 hub2 hpk hxw hmn
                              refine txt_done ?_
                              simp only [Act.put]
                              go_wp2
                              go_roundw
                              case rel => exact ⟨s + 1, _, Hls.out, by go_num, by rw [Hst0.out, show (∀ a b : List Nat, (if false || !true then a else b) = b) from fun a b => rfl, Hif1.out, ← Hv.out, ← HRDe.out, Hif2.out, ← HREe.out]; exact HS2.out, H2.out, E2.out⟩
                              case measure => have := Hls.out; simp [intOf]; omega
                        · have hx1I : ¬ ((x : Int) + 1 < W) := by clear hoff hpx hor hpx1 hor1; omega
                          have Hif2 := hid (show ∀ a b : List Nat, (if f (x + 1) y && (decide (x + 1 < W) && !s.testBit (x + 1)) then a else b) = b from fun a b => by rw [decide_eq_false hx1, Bool.false_and, Bool.and_false]; rfl)
                          clear hx1
                          go_wp2
                          go_roundw
                          case rel => exact ⟨s + 1, _, Hls.out, by go_num, by rw [Hst0.out, show (∀ a b : List Nat, (if false || !true then a else b) = b) from fun a b => rfl, Hif1.out, ← Hv.out, ← HRDe.out, Hif2.out]; exact HS1.out, H1.out, E1.out⟩
                          case measure => have := Hls.out; simp [intOf]; omega
                    · have hy1I : ¬ ((y : Int) + 1 < H) := by clear hoff hpx hor hpx1 hor1; omega
                      have Hif1 := hid (show ∀ a b : List Nat, (if f x (y + 1) && decide (y + 1 < H) then a else b) = b from fun a b => by rw [decide_eq_false hy1, Bool.and_false]; rfl)
                      have g0 := Z0.out.c0 (hF.out wr _ (HW.out.eq (b := blk bX curX 3 + blk bN curN 3 + MS.all w) (by ac_rfl)))
                      have g1 := (Zc.out x hlx).c0 (hF.out wr _ (HW.out.eq (b := blk bX curX 3 + blk bN curN 3 + MS.all w) (by ac_rfl)))
                      rw [hf] at g1
                      clear hy1
                      by_cases hx1 : x + 1 < W
                      · have hx1I : (x : Int) + 1 < W := by clear hoff hpx hor hpx1 hor1; omega
                        have hbit2 := bit_int s (x + 1)
                        cases hfr : f (x + 1) y with
                        | false =>
                          have Hif2 := hid (show ∀ a b : List Nat, (if f (x + 1) y && (decide (x + 1 < W) && !s.testBit (x + 1)) then a else b) = b from fun a b => by rw [hfr]; rfl)
                          have g0 := Z0.out.c0 (hF.out wr _ (HW.out.eq (b := blk bX curX 3 + blk bN curN 3 + MS.all w) (by ac_rfl)))
                          have g4 := (Zc.out (x + 1) hx1).c0 (hF.out wr _ (HW.out.eq (b := blk bX curX 3 + blk bN curN 3 + MS.all w) (by ac_rfl)))
                          rw [hfr] at g4
                          clear hfr hx1
                          go_wp2
                          go_roundw
                          case rel => exact ⟨s + 1, _, Hls.out, by go_num, by rw [Hst0.out, show (∀ a b : List Nat, (if false || !true then a else b) = b) from fun a b => rfl, Hif1.out, Hif2.out]; exact HS.out, HW.out, HE.out⟩
                          case measure => have := Hls.out; simp [intOf]; omega
                        | true =>
                          cases hcr : s.testBit (x + 1) with
                          | true =>
                            have Hif2 := hid (show ∀ a b : List Nat, (if f (x + 1) y && (decide (x + 1 < W) && !s.testBit (x + 1)) then a else b) = b from fun a b => by rw [hfr, hcr, decide_eq_true hx1]; rfl)
                            rw [hcr] at hbit2
                            have g0 := Z0.out.c0 (hF.out wr _ (HW.out.eq (b := blk bX curX 3 + blk bN curN 3 + MS.all w) (by ac_rfl)))
                            have g4 := (Zc.out (x + 1) hx1).c0 (hF.out wr _ (HW.out.eq (b := blk bX curX 3 + blk bN curN 3 + MS.all w) (by ac_rfl)))
                            rw [hfr] at g4
                            clear hfr hcr hx1
                            go_wp2
                            go_roundw
                            case rel => exact ⟨s + 1, _, Hls.out, by go_num, by rw [Hst0.out, show (∀ a b : List Nat, (if false || !true then a else b) = b) from fun a b => rfl, Hif1.out, Hif2.out]; exact HS.out, HW.out, HE.out⟩
                            case measure => have := Hls.out; simp [intOf]; omega
                          | false =>
                            have Hif2 := hid (show ∀ a b : List Nat, (if f (x + 1) y && (decide (x + 1 < W) && !s.testBit (x + 1)) then a else b) = a from fun a b => by rw [hfr, hcr, decide_eq_true hx1]; rfl)
                            rw [hcr] at hbit2
                            have HRRE := hid (show RE < PW by rw [HREe.out, HPW.out]; exact Nat.or_lt_two_pow (offB_lt (by rw [← HPW.out]; exact Hls.out) hlx) (Nat.pow_lt_pow_right (by decide) hx1))
                            have hREI : (RE : Int) < PW := by have := HRRE.out; clear hoff hpx hor hpx1 hor1; omega
                            have g0 := Z0.out.c0 (hF.out wr _ (HW.out.eq (b := blk bX curX 3 + blk bN curN 3 + MS.all w) (by ac_rfl)))
                            have g4 := (Zc.out (x + 1) hx1).c0 (hF.out wr _ (HW.out.eq (b := blk bX curX 3 + blk bN curN 3 + MS.all w) (by ac_rfl)))
                            rw [hfr] at g4
                            clear hfr hcr hx1
                            go_wp2
                            clear g0 g4
                            obtain ⟨u2, hu2⟩ : ∃ u, u = ((nextW W H f (y * W + x) L s)).getD RE 0 := ⟨_, rfl⟩
                            have hgt2 : ((nextW W H f (y * W + x) L s))[RE]? = some u2 := by rw [hu2]; exact get_getD 0 (by rw [(nextW_dot hW1 s (by rw [← HPW.out]; exact Nat.le_of_lt Hls.out)).1, ← HPW.out]; exact HRRE.out)
                            have hub2 : u2 ≤ 8589934592 := by rw [hu2]; exact (Nat.le_trans (nextW_small hW1 Hk1.out Hwx.out (by rw [← HPW.out]; exact Nat.le_of_lt Hls.out) (by rw [← HPW.out]; exact HRRE.out)) (by decide))
                            have qx2 := HW.out.at_ (HS.out.cell hgt2)
                            have qn2 := HW.out.right.at_ (HSx.out.cell HLs.out)
                            have hwr2 : IntKind.i64.wrap ((u2 : Int) + (v : Int)) = ((u2 + v : Nat) : Int) := by rw [IntKind.wrap_i64]; have := HvB.out; omega
                            have HS2 := hid (show NatS (addL (nextW W H f (y * W + x) L s) RE v) (.slice (some ⟨bX, oX, none⟩) PW cX) (blk bX (curX.setIfInBounds (oX + RE) (.int .i64 ((u2 + v : Nat) : Int))) 3) from by
                              have h := HS.out.put hgt2 (u2 + v)
                              show NatS (List.set (nextW W H f (y * W + x) L s) RE (((nextW W H f (y * W + x) L s)).getD RE 0 + v)) _ _
                              rw [← hu2]
                              exact h)
                            have HB2 := hid (show oX + RE < curX.size from arr_lt (HS.out.cell hgt2))
                            clear hu2 hgt2
                            have hS : wr.drew.cell? ⟨bX, oX + RE, none⟩ = some (.int .i64 (u2 : Int)) ∧ wr.drew.cell? ⟨bN, oN + s, none⟩ = some (.int .i64 (v : Int)) := ⟨qx2, qn2⟩
                            clear qx2 qn2
                            have hxw : IntKind.i64.wrap ((x : Int) + 1) = (X1 : Int) := by
                              clear hoff hor hor1 hpx hpx1 hsh
                              rw [HX1.out, IntKind.wrap_i64]
                              omega
                            have hmn : min X1 64 = X1 := by
                              clear hoff hor hor1 hpx hpx1 hsh hxw
                              have := HX1.out
                              omega
                            have hpk : IntKind.i64.wrap ((2 : Int) ^ X1) = (PY : Int) := by
                              clear hxw hmn; clear hoff hor hor1 hpx hpx1 hsh
                              rw [show (2 : Int) ^ X1 = ((PY : Nat) : Int) from by rw [HPY.out, ← HX1.out]; exact (Int.natCast_pow 2 X1).symm, IntKind.wrap_i64]
                              omega
                            refine wp_region_txt (fun W' => W'.cell? ⟨bX, oX + RE, none⟩ = some (.int .i64 (u2 : Int)) ∧ W'.cell? ⟨bN, oN + s, none⟩ = some (.int .i64 (v : Int))) (some 14)
                              [(0, true), (1, true), (2, true), (3, true), (4, true), (5, true), (6, true), (7, true), (8, true), (9, true), (10, true), (11, true), (12, true), (13, true), (14, false)] (by kernel_rfl) rfl (by kernel_rfl) (by kernel_rfl) (by repeat (first | with_reducible refine PanicOk.thn ?_ | with_reducible refine PanicOk.blk ?_ | exact PanicOk.body _ _ _)) ?_
                            repeat
                              (refine txt_quiet ?_ hS rfl rfl (fun W hW => ?_) ?_
                               rotate_left 1
                               · obtain ⟨hW1, hW2⟩ := hW
                                 go_simp
                                 exact rfl
                               simp only [Act.put, List.setIfInBounds_toArray, List.set_cons_zero, List.set_cons_succ])
                            refine txt_op rfl rfl ?_
                            refine op_store_blk (.tmp 150) (.tmp 149) 3 rfl size3 bX (oX + RE) (.int .i64 ((u2 + v : Nat) : Int)) rfl (congrArg (Value.int .i64) (Int.natCast_add u2 v).symm) rfl curX 3 (blk bN curN 3 + MS.all w) HW.out.drew HB2.out ?_
                            intro w2 j1 j2
                            have H2 := hid j1
                            have E2 := hid ((HE.out.trans (Ext.drew _)).trans j2)
                            refine ⟨fun h => absurd rfl h, ?_⟩
                            clear j1 j2 hS hwr2 hub2 hpk hxw hmn
                            refine txt_done ?_
                            simp only [Act.put]
                            go_wp2
                            go_roundw
                            case rel => exact ⟨s + 1, _, Hls.out, by go_num, by rw [Hst0.out, show (∀ a b : List Nat, (if false || !true then a else b) = b) from fun a b => rfl, Hif1.out, Hif2.out, ← Hv.out, ← HREe.out]; exact HS2.out, H2.out, E2.out⟩
                            case measure => have := Hls.out; simp [intOf]; omega
                      · have hx1I : ¬ ((x : Int) + 1 < W) := by clear hoff hpx hor hpx1 hor1; omega
                        have Hif2 := hid (show ∀ a b : List Nat, (if f (x + 1) y && (decide (x + 1 < W) && !s.testBit (x + 1)) then a else b) = b from fun a b => by rw [decide_eq_false hx1, Bool.false_and, Bool.and_false]; rfl)
                        clear hx1
                        go_wp2
                        go_roundw
                        case rel => exact ⟨s + 1, _, Hls.out, by go_num, by rw [Hst0.out, show (∀ a b : List Nat, (if false || !true then a else b) = b) from fun a b => rfl, Hif1.out, Hif2.out]; exact HS.out, HW.out, HE.out⟩
                        case measure => have := Hls.out; simp [intOf]; omega
            · have hse : s = PW := by omega
              subst hse
              clear hls hsP
              go_wp2
              go_roundw
              case rel =>
                obtain ⟨k', rfl⟩ : ∃ k', k = k' + 1 := ⟨k - 1, by
                  have h1 := Hxk.out
                  have h2 := Nat.mul_le_mul_right W Hlt.out
                  rw [Nat.succ_mul, Nat.mul_comm H W] at h2
                  omega⟩
                exact ⟨x + 1, k', bX, oX, cX, _, curX, hlx, by have := Hxk.out; omega, by go_num, rfl, hcX, (by have h := Hwx.out.next hW1 Hxk.out; rw [← HPW.out] at h; exact h), HS.out, HW.out.eq (b := blk bX curX 3 + MS.all w + blk bN curN 3) (by ac_rfl) |>.left, HE.out⟩
              case measure => simp [intOf]; omega
        · have hxe : x = W := by omega
          subst hxe
          clear hlx hx
          go_wp2
          go_roundw
          case rel => exact ⟨y + 1, k, bN, oN, cN, L, curN, Hlt.out, by have := Hxk.out; rw [Nat.succ_mul]; exact this, by go_num, rfl, hcN, by rw [Nat.succ_mul]; exact Hwx.out, HSx.out, HWx.out, HEx.out⟩
          case measure => have := Hlt.out; simp [intOf]; omega
    · have hye : y = H := by omega
      subst hye
      clear hlt hy
      have hk0 : k = 0 := by have := Hyk.out; rw [Nat.mul_comm W y] at this; omega
      subst hk0
      have q0 := HWy.out.at_ (HSy.out.cell (t := 0) (get_getD 0 (by rw [Hwy.out.len, ← HPW.out]; exact hPWp)))
      rw [Nat.add_zero, Hwy.out.last] at q0
      go_wp2
      go_ret
      exact ⟨rfl, fun M hM => hM.of_all HWy.out, HEy.out⟩
end Go.Proofs.YtcdhimnmbpllgaaDoor

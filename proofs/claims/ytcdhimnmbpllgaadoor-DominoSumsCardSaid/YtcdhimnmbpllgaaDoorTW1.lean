/-
  The walk of the specification's Tile (21) (printed by gen_tile.py).
-/
import Derived.Test.YtcdhimnmbpllgaaDoorTPlain2
import Derived.Test.YtcdhimnmbpllgaaDoorWG4
import Derived.Test.YtcdhimnmbpllgaaDoorDW9
namespace Go.Proofs.YtcdhimnmbpllgaaDoor
open Go.RowKit
set_option linter.unusedVariables false
set_option linter.unusedSimpArgs false
set_option maxHeartbeats 4000000
set_option maxRecDepth 100000

theorem Grid.form {f : Nat → Nat → Bool} {W H : Nat} {v : Value} {m : MS} (h : Grid (gridK f W H) v m) (hH : 1 ≤ H) : ∃ b o c, v = .slice (some ⟨b, o, none⟩) H c ∧ H ≤ c := by
  obtain ⟨A, c, rfl, h1, h2, _⟩ := SlR.form h
  rw [gridK_len] at h1 h2 ⊢
  cases A with
  | none => have := (h1 rfl).1; omega
  | some a =>
    obtain ⟨r, hr⟩ : ∃ r, (gridK f W H)[0]? = some r := ⟨_, gridK_get hH⟩
    have h3 := h.rd
    rw [gridK_len] at h3
    obtain ⟨b, o, _, _, hA, _⟩ := h3.getSl hr
    injection hA with hA
    subst hA
    exact ⟨b, o, c, rfl, h2⟩
theorem region_kp {F : MS} {p : List ByteArray} {A : Option Addr} {c : Nat} {w : World} (hr : RdS F RT.str p (.slice A p.length c)) (hl : p.length ≤ 1000) (hs : ∀ s ∈ p, s.size ≤ 1000000) (hH : Has w F) :
    Calls Tryd.prog 28 #[.slice A p.length c] w fun e w' => e = .returned (.bool (isReg p)) ∧ Kp w w' := by
  refine (region_any hr hl hs hH).mono ?_
  rintro e w' ⟨h, q, rfl⟩
  exact ⟨h, (Kp.refl w).drewN q⟩
theorem pos_at {W x : Nat} (y : Nat) (hx : x < W) : (y * W + x) % W = x ∧ (y * W + x) / W = y := by
  constructor
  · rw [Nat.mul_comm, Nat.mul_add_mod, Nat.mod_eq_of_lt hx]
  · rw [Nat.mul_comm, Nat.mul_add_div (by omega), Nat.div_eq_of_lt hx, Nat.add_zero]
theorem fits_in {f : Nat → Nat → Bool} {W H X Y : Nat} {d : Bool} (h : fitsB f W H X Y d = true) : onX X d < W ∧ onY Y d < H := by
  unfold fitsB at h
  simp only [Bool.and_eq_true, decide_eq_true_eq] at h
  exact ⟨h.2.1, h.1⟩
theorem reft_no {F : MS} {p : List ByteArray} {A : Option Addr} {c : Nat} {w : World} (hr : RdS F RT.str p (.slice A p.length c)) (hl : p.length ≤ 1000) (hs : ∀ s ∈ p, s.size ≤ 1000000) (hH : Has w F) (hq : isReg p = false) :
    Calls Tryd.prog 21 #[.slice A p.length c] w fun e w' => e = .returned (.tuple #[.slice none 0 0, .int .i64 2]) ∧ Kp w w' := by
  have Hreg := hid (region_kp hr hl hs hH)
  rw [hq] at Hreg
  clear hl hs hr hH hq
  go_enter Tryd.func21, Tryd.ntmps21
  go_wp2_with (go_at_call 28; refine Hreg.out.mono ?_; rintro e1 w1 ⟨rfl, k1⟩; have K1 := hid k1; clear k1)
  go_ret2
  exact ⟨rfl, K1.out⟩
theorem reft_few {F : MS} {p : List ByteArray} {A : Option Addr} {c : Nat} {w : World} (hr : RdS F RT.str p (.slice A p.length c)) (hl : p.length ≤ 1000) (hs : ∀ s ∈ p, s.size ≤ 1000000) (hH : Has w F) (hq : isReg p = true) (hn : cntV p = 0) :
    Calls Tryd.prog 21 #[.slice A p.length c] w fun e w' => e = .returned (.tuple #[.slice none 0 0, .int .i64 10]) ∧ Kp w w' := by
  have Hreg := hid (region_kp hr hl hs hH)
  have hp := (isReg.ok hq).1
  have Hp := hid hp
  have Hfree := hid (fun (W' : World) (h : Has W' F) => free_any hr hp h)
  have hcv : cntF (wd p) (hsR p) (wd p * p.length) 0 0 = 0 := by
    unfold cntV waysV at hn
    rw [hq, if_pos rfl, Nat.sub_zero] at hn
    exact hn
  have Hways := hid (fun (W' : World) (v : Value) (m : MS) (hG : Grid (gridK (hsR p) (wd p) p.length) v m) (h : Has W' m) => show ∃ b o c, v = .slice (some ⟨b, o, none⟩) p.length c ∧ Calls Tryd.prog 35 #[.slice (some ⟨b, o, none⟩) p.length c] W' fun e w' => e = .returned (.int .i64 0) ∧ Kp W' w' from by
    obtain ⟨b, o, c, rfl, _⟩ := Grid.form hG hp.h1
    have h2 := hG.rd
    have h3 := ways_any h2 (gridK_ok _ _ _) hp.w1 hp.w8 hp.h1 hp.h8 (fun x y h => hsR_in x y h) h
    rw [hcv] at h3
    exact ⟨b, o, c, rfl, h3⟩)
  rw [hq] at Hreg
  have HH := hid hH
  clear hl hs hr hH hq hn hcv hp
  go_enter Tryd.func21, Tryd.ntmps21
  go_wp2_with (first
    | (go_at_call 35; refine hw.out.mono ?_; rintro e3 w3 ⟨rfl, k3⟩; have K3 := hid k3; clear k3)
    | (go_at_call 36; refine (Hfree.out w1 (K1.out.1 _ HH.out)).mono ?_; rintro e2 w2 ⟨v2, m2, rfl, g2, k2, l2⟩; obtain ⟨b4, o4, c4, rfl, hw⟩ := Hways.out w2 v2 m2 g2 (k2 _ (Has.zero w1)).left; have hw := hid hw; have K2 := hid k2; have L2 := hid l2; clear k2 l2 g2)
    | (go_at_call 28; refine Hreg.out.mono ?_; rintro e1 w1 ⟨rfl, k1⟩; have K1 := hid k1; clear k1))
  go_ret2
  exact ⟨rfl, fun M hM => K3.out.1 _ (K2.out _ (K1.out.1 _ hM)).right, (K1.out.2.trans L2.out).trans K3.out.2⟩
theorem reft_yes {F : MS} {p : List ByteArray} {A : Option Addr} {c : Nat} {w : World} (hr : RdS F RT.str p (.slice A p.length c)) (hl : p.length ≤ 1000) (hs : ∀ s ∈ p, s.size ≤ 1000000) (hH : Has w F) (hq : isReg p = true) (hn : 0 < cntV p) :
    Calls Tryd.prog 21 #[.slice A p.length c] w fun e w' => ∃ v m, e = .returned (.tuple #[v, .int .i64 0]) ∧ Dms (pathF (wd p) (hsR p) (wd p * p.length) 0 0 0) v m ∧ (∀ M, Has w M → Has w' (m + M)) ∧ Ext w w' := by
  have Hreg := hid (region_kp hr hl hs hH)
  have hp := (isReg.ok hq).1
  have Hfree := hid (fun (W' : World) (h : Has W' F) => free_any hr hp h)
  have hcv : 0 < cntF (wd p) (hsR p) (wd p * p.length) 0 0 := by
    unfold cntV waysV at hn
    rw [hq, if_pos rfl, Nat.sub_zero] at hn
    exact hn
  have hin := fun x y (h : hsR p x y = true) => hsR_in x y h
  rw [hq] at Hreg
  have HH := hid hH
  have hW1 := hp.w1
  have hW8 := hp.w8
  have hH1 := hp.h1
  have hH8 := hp.h8
  have hrc := hr.cells.2.1
  obtain ⟨hs0, hhs0⟩ : ∃ f, f = hsR p := ⟨_, rfl⟩
  obtain ⟨WN, hWN⟩ : ∃ WN, WN = wd p := ⟨_, rfl⟩
  obtain ⟨HN, hHN⟩ : ∃ HN, HN = p.length := ⟨_, rfl⟩
  rw [← hhs0] at hcv hin Hfree ⊢
  rw [← hWN] at hcv hin Hfree hW1 hW8 ⊢
  rw [← hHN] at hcv hin Hfree Hreg hH1 hH8 hrc ⊢
  clear hl hs hr hH hq hn hp hhs0 hWN hHN
  obtain ⟨R, hR⟩ : ∃ R, R = pathF WN hs0 (WN * HN) 0 0 0 := ⟨_, rfl⟩
  rw [← hR]
  have HR := hid hR
  have Hin := hid hin
  have Hcv := hid hcv
  have Hways := hid (fun (W' : World) (f : Nat → Nat → Bool) (hf : ∀ x y, f x y = true → x < WN ∧ y < HN) (b o c : Nat) (m : MS) (hG : Grid (gridK f WN HN) (.slice (some ⟨b, o, none⟩) HN c) m) (h : Has W' m) => show Calls Tryd.prog 35 #[.slice (some ⟨b, o, none⟩) HN c] W' fun e w' => e = .returned (.int .i64 (cntF WN f (WN * HN) 0 0 : Nat)) ∧ Kp W' w' from by
    have h2 := hG.rd
    rw [← gridK_len f WN HN] at h2
    have h3 := ways_any (by rw [gridK_len] at h2; exact h2) (gridK_ok f WN HN) hW1 hW8 hH1 hH8 hf h
    exact h3)
  have Hfits := hid (fun (W' : World) (f : Nat → Nat → Bool) (b o c : Nat) (m : MS) (hG : Grid (gridK f WN HN) (.slice (some ⟨b, o, none⟩) HN c) m) (h : Has W' m) (X Y : Nat) (hX : X < WN) (hY : Y < HN) (d : Bool) => show Calls Tryd.prog 59 #[.slice (some ⟨b, o, none⟩) HN c, .agg #[.int .i64 (X : Int), .int .i64 (Y : Int), .bool d]] W' fun e w' => e = .returned (.bool (fitsB f WN HN X Y d)) ∧ Kp W' w' from
    fits_any hG.rd (gridK_ok f WN HN) hW8 hH8 hX hY d h)
  have Htak := hid (fun (W' : World) (f : Nat → Nat → Bool) (b o c : Nat) (m : MS) (hG : Grid (gridK f WN HN) (.slice (some ⟨b, o, none⟩) HN c) m) (h : Has W' m) (X Y : Nat) (hX : X < WN) (hY : Y < HN) (d : Bool) (hoX : onX X d < WN) (hoY : onY Y d < HN) => show Calls Tryd.prog 60 #[.slice (some ⟨b, o, none⟩) HN c, .agg #[.int .i64 (X : Int), .int .i64 (Y : Int), .bool d]] W' fun e w' => ∃ b4 o4 c4 m, e = .returned (.slice (some ⟨b4, o4, none⟩) HN c4) ∧ HN ≤ c4 ∧ Grid (gridK (takF f X Y d) WN HN) (.slice (some ⟨b4, o4, none⟩) HN c4) m ∧ (∀ M, Has W' M → Has w' (m + M)) ∧ Ext W' w' from by
    refine (taken_any hG.rd (gridK_ok f WN HN) hW8 hH8 hX hY d hoX hoY h).mono ?_
    rintro e w' ⟨v, m, rfl, h1, h2, h3⟩
    obtain ⟨b4, o4, c4, rfl, h4⟩ := Grid.form h1 hH1
    exact ⟨b4, o4, c4, m, rfl, h4, h1, h2, h3⟩)
  have Hcell := hid (fun (W' : World) (f : Nat → Nat → Bool) (b o c : Nat) (m : MS) (hG : Grid (gridK f WN HN) (.slice (some ⟨b, o, none⟩) HN c) m) (h : Has W' m) (X Y : Nat) (hX : X < WN) (hY : Y < HN) => show ∃ b2 o2 c2, WN ≤ c2 ∧ W'.cell? ⟨b, o + Y, none⟩ = some (.slice (some ⟨b2, o2, none⟩) WN c2) ∧ W'.cell? ⟨b2, o2 + X, none⟩ = some (.bool (f X Y)) from by
    obtain ⟨b2, o2, c2, z0, z1, z2⟩ := grid_row hG.rd (gridK_ok f WN HN) hW1 hY
    exact ⟨b2, o2, c2, z1, z0.c0 h, (z2 X hX).c0 h⟩)
  have Hform := hid (fun (v : Value) (m : MS) (h : Grid (gridK hs0 WN HN) v m) => Grid.form h hH1)
  have h64 : WN * HN ≤ 64 := Nat.mul_le_mul hW8 hH8
  have hWI : (WN : Int) ≤ 8 := by omega
  have hHI : (HN : Int) ≤ 8 := by omega
  clear hcv hin hR
  go_enter Tryd.func21, Tryd.ntmps21
  go_wp2_with (first
    | (go_at_call 35; have hq := Hways.out w2 hs0 Hin.out b4 o4 c4 m2 G2.out (H2.out.left); rw [← HCN.out] at hq; refine hq.mono ?_; clear hq; rintro e3 w3 ⟨rfl, k3⟩; have H3 := hid (k3.1 _ H2.out); have E3 := hid (E2.out.trans k3.2); clear k3)
    | (go_at_call 36; refine (Hfree.out w1 (K1.out.1 _ HH.out)).mono ?_; rintro e2 w2 ⟨v2, m2, rfl, g2, k2, l2⟩; obtain ⟨b4, o4, c4, rfl, hc4⟩ := Hform.out v2 m2 g2; have G2 := hid g2; have H2 := hid (k2 _ (K1.out.1 _ (Has.all w))); have E2 := hid (K1.out.2.trans l2); clear k2 l2 g2; obtain ⟨CN, hCN⟩ : ∃ CN, CN = cntF WN hs0 (WN * HN) 0 0 := ⟨_, rfl⟩; have hCN0 : ¬ ((CN : Int) = 0) := (by have := Hcv.out; rw [← hCN] at this; omega); have HCN := hid hCN; clear hCN; have hCNb : ((CN : Int) == 0) = false := (by rw [beq_eq_false_iff_ne]; exact hCN0))
    | (go_at_call 28; refine Hreg.out.mono ?_; rintro e1 w1 ⟨rfl, k1⟩; have K1 := hid k1; clear k1))
  go_loopw [4, 5, 6] (fun v4 v5 v6 wr => ∃ (y k b4 o4 c4 : Nat) (f : Nat → Nat → Bool) (m4 m5 : MS) (out : List Dom), y ≤ HN ∧ y * WN + k = WN * HN ∧ v6 = .int .i64 y ∧ v4 = .slice (some ⟨b4, o4, none⟩) HN c4 ∧ HN ≤ c4 ∧ (∀ x y, f x y = true → x < WN ∧ y < HN) ∧ (∀ i, i < y * WN → f (i % WN) (i / WN) = false) ∧ 0 < cntF WN f (WN * HN) 0 0 ∧ out ++ pathF WN f k (y * WN) 0 0 = R ∧ out.length ≤ y * WN ∧ Grid (gridK f WN HN) (.slice (some ⟨b4, o4, none⟩) HN c4) m4 ∧ Dms out v5 m5 ∧ Has wr (m4 + (m5 + MS.all w)) ∧ Ext w wr) (fun _ _ v _ => HN - (intOf v).toNat)
  case atStart => exact ⟨0, WN * HN, b4, o4, c4, hs0, m2, 0, [], Nat.zero_le _, by omega, rfl, rfl, hc4, Hin.out, fun i h => by omega, Hcv.out, by rw [Nat.zero_mul]; exact HR.out.symm, by simp, G2.out, Dms.nil, by rw [MS.zero_add]; exact H3.out, E3.out⟩
  case round =>
    clear H2 H3 E2 E3 G2 hc4 hCN0 hCNb K1
    obtain ⟨y, k, b4, o4, c4, f, m4, m5, out, hy, hyk, rfl, rfl, hc4, hin, hbef, hcnt, hpath, hol, hG, hD, hW, hE⟩ := hrel
    obtain ⟨A5, c5, rfl, _⟩ := SlR.form hD
    have Hyk := hid hyk
    have Hin' := hid hin
    have Hbef' := hid hbef
    have Hcnt' := hid hcnt
    have Hpath' := hid hpath
    have Hol' := hid hol
    have HG := hid hG
    have HD := hid hD
    have HW := hid hW
    have HE := hid hE
    clear hyk hin hbef hcnt hpath hol hG hD hW hE
    by_cases hlt : y < HN
    · have hltI : (y : Int) < HN := by omega
      have Hy := hid hlt
      clear hlt hy
      go_wp2
      go_loopw [4, 5, 7] (fun v4 v5 v7 wr => ∃ (x k b4 o4 c4 : Nat) (f : Nat → Nat → Bool) (m4 m5 : MS) (out : List Dom), x ≤ WN ∧ (y * WN + x) + k = WN * HN ∧ v7 = .int .i64 x ∧ v4 = .slice (some ⟨b4, o4, none⟩) HN c4 ∧ HN ≤ c4 ∧ (∀ x y, f x y = true → x < WN ∧ y < HN) ∧ (∀ i, i < y * WN + x → f (i % WN) (i / WN) = false) ∧ 0 < cntF WN f (WN * HN) 0 0 ∧ out ++ pathF WN f k (y * WN + x) 0 0 = R ∧ out.length ≤ y * WN + x ∧ Grid (gridK f WN HN) (.slice (some ⟨b4, o4, none⟩) HN c4) m4 ∧ Dms out v5 m5 ∧ Has wr (m4 + (m5 + MS.all w)) ∧ Ext w wr) (fun _ _ v _ => WN - (intOf v).toNat)
      case atStart => exact ⟨0, k, b4, o4, c4, f, m4, m5, out, Nat.zero_le _, by have := Hyk.out; omega, rfl, rfl, hc4, Hin'.out, Hbef'.out, Hcnt'.out, Hpath'.out, Hol'.out, HG.out, HD.out, HW.out, HE.out⟩
      case round =>
        clear Hyk Hin' Hbef' Hcnt' Hpath' Hol' HG HD HW HE
        obtain ⟨x, k, b4, o4, c4, f, m4, m5, out, hx, hk, rfl, rfl, hc4, hin, hbef, hcnt, hpath, hol, hG, hD, hW, hE⟩ := hrel
        obtain ⟨A5, c5, rfl, _⟩ := SlR.form hD
        have HG := hid hG
        have HW := hid hW
        have HE := hid hE
        have Hol := hid hol
        have hcell := fun (hxW : x < WN) => Hcell.out wr f b4 o4 c4 m4 hG hW.left x y hxW Hy.out
        obtain ⟨b9, o9, c9, hc9, q0, q9⟩ := Hcell.out wr f b4 o4 c4 m4 hG hW.left 0 y hW1 Hy.out
        by_cases hxW : x < WN
        · obtain ⟨k, rfl⟩ : ∃ k', k = k' + 1 := ⟨k - 1, by
            have h2 := Nat.mul_le_mul_right WN Hy.out
            rw [Nat.succ_mul, Nat.mul_comm HN WN] at h2
            omega⟩
          have hxI : (x : Int) < WN := by omega
          clear q0 q9 hc9
          obtain ⟨b9, o9, c9, hc9, q0, q1⟩ := hcell hxW
          have hn64 : out.length ≤ 64 := by omega
          obtain ⟨no, hno⟩ : ∃ no, no = out.length := ⟨_, rfl⟩
          rw [← hno] at hD hn64 ⊢
          have Hno := hid hno
          have HD := hid hD
          have Hx := hid hxW
          have Hk := hid hk
          clear hcell hx hG hW hE hno hD
          cases hf : f x y with
          | false =>
            rw [hf] at q1
            have hdm := pos_at y hxW
            have hps := path_skip (k := k) (f := f) (W := WN) (at' := y * WN + x) (by rw [hdm.1, hdm.2]; exact hf)
            have Hbef2 := hid (show ∀ i, i < y * WN + (x + 1) → f (i % WN) (i / WN) = false from fun i hi => by
              by_cases e : i = y * WN + x
              · subst e; rw [hdm.1, hdm.2]; exact hf
              · exact hbef i (by omega))
            have Hpath2 := hid (show out ++ pathF WN f k (y * WN + (x + 1)) 0 0 = R by rw [← hpath, hps]; rfl)
            have Hin2 := hid hin
            have Hcnt2 := hid hcnt
            clear hdm hps hk hbef hpath hin hcnt hf hxW hol
            go_wp2
            go_roundw
            case rel => exact ⟨x + 1, k, b4, o4, c4, f, m4, m5, out, Hx.out, by have := Hk.out; omega, by go_num, rfl, hc4, Hin2.out, Hbef2.out, Hcnt2.out, Hpath2.out, by have := Hol.out; omega, HG.out, (by have h := HD.out; rw [Hno.out] at h; rw [Hno.out]; exact h), HW.out, HE.out⟩
            case measure => have := Hx.out; simp [intOf]; omega
          | true =>
            rw [hf] at q1
            cases hfit : fitsB f WN HN x y false with
            | false =>
              have hdm := pos_at y hxW
              have hfirst := cnt_first (k := k) hW1 hin hk hbef (by rw [hdm.1, hdm.2]; exact hf)
              have hpf := path_first (k := k) hW1 hin hk hbef (by rw [hdm.1, hdm.2]; exact hf)
              have htb := fun d => tak_before (W := WN) (f := f) (at' := y * WN + x) d hbef
              rw [hdm.1, hdm.2] at hfirst hpf htb
              have Hbef2' := htb
              have hN0 : cntF WN f (WN * HN) 0 0 = (if fitsB f WN HN x y true then cntF WN (takF f x y true) (WN * HN) 0 0 else 0) := by rw [hfirst, hfit]; simp
              rw [if_neg (fun h => by rw [hfit] at h; exact absurd h.1 (by decide))] at hpf
              have hfd : fitsB f WN HN x y true = true ∧ 0 < cntF WN (takF f x y true) (WN * HN) 0 0 := by
                cases hq : fitsB f WN HN x y true with
                | false => rw [hq] at hN0; simp at hN0; omega
                | true => rw [hq, if_pos rfl] at hN0; exact ⟨rfl, by omega⟩
              have Hcnt2 := hid hfd.2
              have goX := hid (fits_in hfd.1).1
              have goY := hid (fits_in hfd.1).2
              have Hin2 := hid (fun x' y' (h : takF f x y true x' y' = true) => hin x' y' (takF_in h))
              have Hbef2 := hid (show ∀ i, i < y * WN + (x + 1) → takF f x y true (i % WN) (i / WN) = false from fun i hi => htb true i (by omega))
              have Hpath2 := hid (show (out ++ [((x : Int), (y : Int), true)]) ++ pathF WN (takF f x y true) k (y * WN + (x + 1)) 0 0 = R by
                rw [← hpath, hpf, show y * WN + (x + 1) = y * WN + x + 1 by omega]; simp)
              clear hdm hfirst hpf htb Hbef2' hk hbef hpath hin hcnt hf hxW hol hN0 hfd
              obtain ⟨b8, hb8⟩ : ∃ b8, b8 = wr.heap.size := ⟨_, rfl⟩
              have HAb8 := hid (show Has (wr.alloc (.cells #[.int .i64 0, .int .i64 0, .bool false] 40)) (blk b8 #[.int .i64 0, .int .i64 0, .bool false] 40 + (m4 + (m5 + MS.all w))) by rw [hb8]; exact HW.out.alloc _)
              have Hb8 := hid hb8
              clear hb8
              go_wp2_with (first
                | (at_builtin; refine wpList_push rfl (.tmp 58) (.tmp 60) row35 rfl (.slice A5 no c5) rfl _ rfl (by simp) DmR DmR.one DmR.len out ((x : Int), (y : Int), true) m5 0 (m7 + (blk b8 #[.int .i64 (x : Int), .int .i64 (y : Int), .bool true] 40 + (m4 + MS.all w))) HD.out ⟨rfl, rfl⟩ (H34.out.eq (by rw [MS.zero_add]; ac_rfl)) no Hno.out.symm (by omega) (by omega) ?_; intro A35 c35 w35 m9 j4 j5 j6; have D35 := hid j4; have H35 := hid (show Has w35 (m7 + (blk b8 #[.int .i64 (x : Int), .int .i64 (y : Int), .bool true] 40 + (m4 + (m9 + MS.all w)))) from j5.eq (by ac_rfl)); have E35 := hid (E34.out.trans j6); clear j4 j5 j6)
                | (go_at_call 60; refine (Htak.out w33 f b4 o4 c4 m4 HG.out ((H33.out.eq (b := (m4 + (blk b8 #[.int .i64 (x : Int), .int .i64 (y : Int), .bool true] 40 + (m5 + MS.all w)))) (by ac_rfl)).left) x y Hx.out Hy.out true goX.out goY.out).mono ?_; rintro e34 w34 ⟨b7, o7, c7, m7, rfl, hc7, G7, k34, l34⟩; have H34 := hid (k34 _ H33.out); have E34 := hid (E33.out.trans l34); clear k34 l34; clear z0 z1 z2; have z0 := (H34.out.eq (b := (blk b8 #[.int .i64 (x : Int), .int .i64 (y : Int), .bool true] 40 + (m7 + (m4 + (m5 + MS.all w))))) (by ac_rfl)).at_ (i := 0) rfl; have z1 := (H34.out.eq (b := (blk b8 #[.int .i64 (x : Int), .int .i64 (y : Int), .bool true] 40 + (m7 + (m4 + (m5 + MS.all w))))) (by ac_rfl)).at_ (i := 1) rfl; have z2 := (H34.out.eq (b := (blk b8 #[.int .i64 (x : Int), .int .i64 (y : Int), .bool true] 40 + (m7 + (m4 + (m5 + MS.all w))))) (by ac_rfl)).at_ (i := 2) rfl; have G7 := hid G7)
                | (refine wpList_store_blk rfl (.tmp 54) (.const (.bool true)) 4 rfl size4 b8 (2) (.bool true) rfl rfl rfl #[.int .i64 (x : Int), .int .i64 (y : Int), .bool false] 40 (m4 + (m5 + MS.all w)) (H32.out.eq (b := (blk b8 #[.int .i64 (x : Int), .int .i64 (y : Int), .bool false] 40 + (m4 + (m5 + MS.all w)))) (by ac_rfl)) (by simp) ?_; intro w33 j1 j2; have H33 := hid (show Has w33 (blk b8 #[.int .i64 (x : Int), .int .i64 (y : Int), .bool true] 40 + (m4 + (m5 + MS.all w))) from (show Has w33 (blk b8 #[.int .i64 (x : Int), .int .i64 (y : Int), .bool true] 40 + (m4 + (m5 + MS.all w))) from j1).eq (by ac_rfl)); have E33 := hid (E32.out.trans j2); clear j1 j2; clear z0 z1 z2; have z0 := (H33.out.eq (b := (blk b8 #[.int .i64 (x : Int), .int .i64 (y : Int), .bool true] 40 + (m4 + (m5 + MS.all w)))) (by ac_rfl)).at_ (i := 0) rfl; have z1 := (H33.out.eq (b := (blk b8 #[.int .i64 (x : Int), .int .i64 (y : Int), .bool true] 40 + (m4 + (m5 + MS.all w)))) (by ac_rfl)).at_ (i := 1) rfl; have z2 := (H33.out.eq (b := (blk b8 #[.int .i64 (x : Int), .int .i64 (y : Int), .bool true] 40 + (m4 + (m5 + MS.all w)))) (by ac_rfl)).at_ (i := 2) rfl)
                | (go_at_call 59; have hq := Hfits.out w31 f b4 o4 c4 m4 HG.out ((H31.out.eq (b := (m4 + (blk b8 #[.int .i64 (x : Int), .int .i64 (y : Int), .bool false] 40 + (m5 + MS.all w)))) (by ac_rfl)).left) x y Hx.out Hy.out false; rw [hfit] at hq; refine (hq).mono ?_; rintro e32 w32 ⟨rfl, k32⟩; have H32 := hid (k32.1 _ H31.out); have E32 := hid (E31.out.trans k32.2); clear k32; clear hq; clear z0 z1 z2; have z0 := (H32.out.eq (b := (blk b8 #[.int .i64 (x : Int), .int .i64 (y : Int), .bool false] 40 + (m4 + (m5 + MS.all w)))) (by ac_rfl)).at_ (i := 0) rfl; have z1 := (H32.out.eq (b := (blk b8 #[.int .i64 (x : Int), .int .i64 (y : Int), .bool false] 40 + (m4 + (m5 + MS.all w)))) (by ac_rfl)).at_ (i := 1) rfl; have z2 := (H32.out.eq (b := (blk b8 #[.int .i64 (x : Int), .int .i64 (y : Int), .bool false] 40 + (m4 + (m5 + MS.all w)))) (by ac_rfl)).at_ (i := 2) rfl)
                | (rw [← Hb8.out]; refine wpList_store_whole rfl (.tmp 8) (.tmp 42) 40 rfl 3 size40 b8 (.agg #[.int .i64 (x : Int), .int .i64 (y : Int), .bool false]) rfl rfl rfl (by simp [Value.cells, Value.oneCell']) #[.int .i64 0, .int .i64 0, .bool false] 40 _ HAb8.out rfl ?_; intro w31 j1 j2; have H31 := hid (show Has w31 (blk b8 #[.int .i64 (x : Int), .int .i64 (y : Int), .bool false] 40 + (m4 + (m5 + MS.all w))) from j1.eq (by unfold blk; ac_rfl)); have E31 := hid ((HE.out.trans (Ext.alloc _ _)).trans j2); clear j1 j2; have z0 := (H31.out.eq (b := (blk b8 #[.int .i64 (x : Int), .int .i64 (y : Int), .bool false] 40 + (m4 + (m5 + MS.all w)))) (by ac_rfl)).at_ (i := 0) rfl; have z1 := (H31.out.eq (b := (blk b8 #[.int .i64 (x : Int), .int .i64 (y : Int), .bool false] 40 + (m4 + (m5 + MS.all w)))) (by ac_rfl)).at_ (i := 1) rfl; have z2 := (H31.out.eq (b := (blk b8 #[.int .i64 (x : Int), .int .i64 (y : Int), .bool false] 40 + (m4 + (m5 + MS.all w)))) (by ac_rfl)).at_ (i := 2) rfl; clear q0 q1))
              try simp only [Act.put]
              go_roundw
              case rel => exact ⟨x + 1, k, b7, o7, c7, _, m7, m9, out ++ [((x : Int), (y : Int), true)], Hx.out, by have := Hk.out; omega, by go_num, rfl, hc7, Hin2.out, Hbef2.out, Hcnt2.out, Hpath2.out, by rw [List.length_append, List.length_singleton]; have := Hol.out; omega, G7.out, D35.out, (H35.out.eq (b := (m7 + (m9 + MS.all w)) + (blk b8 #[.int .i64 (x : Int), .int .i64 (y : Int), .bool true] 40 + m4)) (by ac_rfl)).left, E35.out⟩
              case measure => have := Hx.out; simp [intOf]; omega
            | true =>
              by_cases hC0 : cntF WN (takF f x y false) (WN * HN) 0 0 = 0
              · have hdm := pos_at y hxW
                have hfirst := cnt_first (k := k) hW1 hin hk hbef (by rw [hdm.1, hdm.2]; exact hf)
                have hpf := path_first (k := k) hW1 hin hk hbef (by rw [hdm.1, hdm.2]; exact hf)
                have htb := fun d => tak_before (W := WN) (f := f) (at' := y * WN + x) d hbef
                rw [hdm.1, hdm.2] at hfirst hpf htb
                have Hbef2' := htb
                have hN0 : cntF WN f (WN * HN) 0 0 = (if fitsB f WN HN x y true then cntF WN (takF f x y true) (WN * HN) 0 0 else 0) := by rw [hfirst, hC0]; simp
                rw [if_neg (fun h => by have := h.2; omega)] at hpf
                have hfd : fitsB f WN HN x y true = true ∧ 0 < cntF WN (takF f x y true) (WN * HN) 0 0 := by
                  cases hq : fitsB f WN HN x y true with
                  | false => rw [hq] at hN0; simp at hN0; omega
                  | true => rw [hq, if_pos rfl] at hN0; exact ⟨rfl, by omega⟩
                have Hcnt2 := hid hfd.2
                have goX := hid (fits_in hfd.1).1
                have goY := hid (fits_in hfd.1).2
                have hoX := hid (fits_in hfit).1
                have hoY := hid (fits_in hfit).2
                have HinR := hid (fun x' y' (h : takF f x y false x' y' = true) => hin x' y' (takF_in h))
                have Hin2 := hid (fun x' y' (h : takF f x y true x' y' = true) => hin x' y' (takF_in h))
                have Hbef2 := hid (show ∀ i, i < y * WN + (x + 1) → takF f x y true (i % WN) (i / WN) = false from fun i hi => htb true i (by omega))
                have Hpath2 := hid (show (out ++ [((x : Int), (y : Int), true)]) ++ pathF WN (takF f x y true) k (y * WN + (x + 1)) 0 0 = R by
                  rw [← hpath, hpf, show y * WN + (x + 1) = y * WN + x + 1 by omega]; simp)
                obtain ⟨CR, hCR⟩ : ∃ CR, CR = cntF WN (takF f x y false) (WN * HN) 0 0 := ⟨_, rfl⟩
                have hCRI : (CR : Int) = 0 := by omega
                have HCR := hid hCR
                clear hdm hfirst hpf htb Hbef2' hk hbef hpath hin hcnt hf hxW hol hN0 hfd hC0 hCR
                obtain ⟨b8, hb8⟩ : ∃ b8, b8 = wr.heap.size := ⟨_, rfl⟩
                have HAb8 := hid (show Has (wr.alloc (.cells #[.int .i64 0, .int .i64 0, .bool false] 40)) (blk b8 #[.int .i64 0, .int .i64 0, .bool false] 40 + (m4 + (m5 + MS.all w))) by rw [hb8]; exact HW.out.alloc _)
                have Hb8 := hid hb8
                clear hb8
                go_wp2_with (first
                  | (at_builtin; refine wpList_push rfl (.tmp 58) (.tmp 60) row35 rfl (.slice A5 no c5) rfl _ rfl (by simp) DmR DmR.one DmR.len out ((x : Int), (y : Int), true) m5 0 (m7 + (m6 + (blk b8 #[.int .i64 (x : Int), .int .i64 (y : Int), .bool true] 40 + (m4 + MS.all w)))) HD.out ⟨rfl, rfl⟩ (H36.out.eq (by rw [MS.zero_add]; ac_rfl)) no Hno.out.symm (by omega) (by omega) ?_; intro A37 c37 w37 m9 j4 j5 j6; have D37 := hid j4; have H37 := hid (show Has w37 (m7 + (m6 + (blk b8 #[.int .i64 (x : Int), .int .i64 (y : Int), .bool true] 40 + (m4 + (m9 + MS.all w))))) from j5.eq (by ac_rfl)); have E37 := hid (E36.out.trans j6); clear j4 j5 j6)
                  | (go_at_call 60; refine (Htak.out w35 f b4 o4 c4 m4 HG.out ((H35.out.eq (b := (m4 + (m6 + (blk b8 #[.int .i64 (x : Int), .int .i64 (y : Int), .bool true] 40 + (m5 + MS.all w))))) (by ac_rfl)).left) x y Hx.out Hy.out true goX.out goY.out).mono ?_; rintro e36 w36 ⟨b7, o7, c7, m7, rfl, hc7, G7, k36, l36⟩; have H36 := hid (k36 _ H35.out); have E36 := hid (E35.out.trans l36); clear k36 l36; clear z0 z1 z2; have z0 := (H36.out.eq (b := (blk b8 #[.int .i64 (x : Int), .int .i64 (y : Int), .bool true] 40 + (m7 + (m6 + (m4 + (m5 + MS.all w)))))) (by ac_rfl)).at_ (i := 0) rfl; have z1 := (H36.out.eq (b := (blk b8 #[.int .i64 (x : Int), .int .i64 (y : Int), .bool true] 40 + (m7 + (m6 + (m4 + (m5 + MS.all w)))))) (by ac_rfl)).at_ (i := 1) rfl; have z2 := (H36.out.eq (b := (blk b8 #[.int .i64 (x : Int), .int .i64 (y : Int), .bool true] 40 + (m7 + (m6 + (m4 + (m5 + MS.all w)))))) (by ac_rfl)).at_ (i := 2) rfl; have G7 := hid G7)
                  | (refine wpList_store_blk rfl (.tmp 54) (.const (.bool true)) 4 rfl size4 b8 (2) (.bool true) rfl rfl rfl #[.int .i64 (x : Int), .int .i64 (y : Int), .bool false] 40 (m6 + (m4 + (m5 + MS.all w))) (H34.out.eq (b := (blk b8 #[.int .i64 (x : Int), .int .i64 (y : Int), .bool false] 40 + (m6 + (m4 + (m5 + MS.all w))))) (by ac_rfl)) (by simp) ?_; intro w35 j1 j2; have H35 := hid (show Has w35 (m6 + (blk b8 #[.int .i64 (x : Int), .int .i64 (y : Int), .bool true] 40 + (m4 + (m5 + MS.all w)))) from (show Has w35 (blk b8 #[.int .i64 (x : Int), .int .i64 (y : Int), .bool true] 40 + (m6 + (m4 + (m5 + MS.all w)))) from j1).eq (by ac_rfl)); have E35 := hid (E34.out.trans j2); clear j1 j2; clear z0 z1 z2; have z0 := (H35.out.eq (b := (blk b8 #[.int .i64 (x : Int), .int .i64 (y : Int), .bool true] 40 + (m6 + (m4 + (m5 + MS.all w))))) (by ac_rfl)).at_ (i := 0) rfl; have z1 := (H35.out.eq (b := (blk b8 #[.int .i64 (x : Int), .int .i64 (y : Int), .bool true] 40 + (m6 + (m4 + (m5 + MS.all w))))) (by ac_rfl)).at_ (i := 1) rfl; have z2 := (H35.out.eq (b := (blk b8 #[.int .i64 (x : Int), .int .i64 (y : Int), .bool true] 40 + (m6 + (m4 + (m5 + MS.all w))))) (by ac_rfl)).at_ (i := 2) rfl)
                  | (go_at_call 35; have hq := Hways.out w33 _ HinR.out b6 o6 c6 m6 G6.out (H33.out.eq (b := (m6 + (blk b8 #[.int .i64 (x : Int), .int .i64 (y : Int), .bool false] 40 + (m4 + (m5 + MS.all w))))) (by ac_rfl)).left; rw [← HCR.out] at hq; refine (hq).mono ?_; rintro e34 w34 ⟨rfl, k34⟩; have H34 := hid (k34.1 _ H33.out); have E34 := hid (E33.out.trans k34.2); clear k34; clear hq; clear z0 z1 z2; have z0 := (H34.out.eq (b := (blk b8 #[.int .i64 (x : Int), .int .i64 (y : Int), .bool false] 40 + (m6 + (m4 + (m5 + MS.all w))))) (by ac_rfl)).at_ (i := 0) rfl; have z1 := (H34.out.eq (b := (blk b8 #[.int .i64 (x : Int), .int .i64 (y : Int), .bool false] 40 + (m6 + (m4 + (m5 + MS.all w))))) (by ac_rfl)).at_ (i := 1) rfl; have z2 := (H34.out.eq (b := (blk b8 #[.int .i64 (x : Int), .int .i64 (y : Int), .bool false] 40 + (m6 + (m4 + (m5 + MS.all w))))) (by ac_rfl)).at_ (i := 2) rfl)
                  | (go_at_call 60; refine (Htak.out w32 f b4 o4 c4 m4 HG.out ((H32.out.eq (b := (m4 + (blk b8 #[.int .i64 (x : Int), .int .i64 (y : Int), .bool false] 40 + (m5 + MS.all w)))) (by ac_rfl)).left) x y Hx.out Hy.out false hoX.out hoY.out).mono ?_; rintro e33 w33 ⟨b6, o6, c6, m6, rfl, hc6, G6, k33, l33⟩; have H33 := hid (k33 _ H32.out); have E33 := hid (E32.out.trans l33); clear k33 l33; clear z0 z1 z2; have z0 := (H33.out.eq (b := (blk b8 #[.int .i64 (x : Int), .int .i64 (y : Int), .bool false] 40 + (m6 + (m4 + (m5 + MS.all w))))) (by ac_rfl)).at_ (i := 0) rfl; have z1 := (H33.out.eq (b := (blk b8 #[.int .i64 (x : Int), .int .i64 (y : Int), .bool false] 40 + (m6 + (m4 + (m5 + MS.all w))))) (by ac_rfl)).at_ (i := 1) rfl; have z2 := (H33.out.eq (b := (blk b8 #[.int .i64 (x : Int), .int .i64 (y : Int), .bool false] 40 + (m6 + (m4 + (m5 + MS.all w))))) (by ac_rfl)).at_ (i := 2) rfl; have G6 := hid G6)
                  | (go_at_call 59; have hq := Hfits.out w31 f b4 o4 c4 m4 HG.out ((H31.out.eq (b := (m4 + (blk b8 #[.int .i64 (x : Int), .int .i64 (y : Int), .bool false] 40 + (m5 + MS.all w)))) (by ac_rfl)).left) x y Hx.out Hy.out false; rw [hfit] at hq; refine (hq).mono ?_; rintro e32 w32 ⟨rfl, k32⟩; have H32 := hid (k32.1 _ H31.out); have E32 := hid (E31.out.trans k32.2); clear k32; clear hq; clear z0 z1 z2; have z0 := (H32.out.eq (b := (blk b8 #[.int .i64 (x : Int), .int .i64 (y : Int), .bool false] 40 + (m4 + (m5 + MS.all w)))) (by ac_rfl)).at_ (i := 0) rfl; have z1 := (H32.out.eq (b := (blk b8 #[.int .i64 (x : Int), .int .i64 (y : Int), .bool false] 40 + (m4 + (m5 + MS.all w)))) (by ac_rfl)).at_ (i := 1) rfl; have z2 := (H32.out.eq (b := (blk b8 #[.int .i64 (x : Int), .int .i64 (y : Int), .bool false] 40 + (m4 + (m5 + MS.all w)))) (by ac_rfl)).at_ (i := 2) rfl)
                  | (rw [← Hb8.out]; refine wpList_store_whole rfl (.tmp 8) (.tmp 42) 40 rfl 3 size40 b8 (.agg #[.int .i64 (x : Int), .int .i64 (y : Int), .bool false]) rfl rfl rfl (by simp [Value.cells, Value.oneCell']) #[.int .i64 0, .int .i64 0, .bool false] 40 _ HAb8.out rfl ?_; intro w31 j1 j2; have H31 := hid (show Has w31 (blk b8 #[.int .i64 (x : Int), .int .i64 (y : Int), .bool false] 40 + (m4 + (m5 + MS.all w))) from j1.eq (by unfold blk; ac_rfl)); have E31 := hid ((HE.out.trans (Ext.alloc _ _)).trans j2); clear j1 j2; have z0 := (H31.out.eq (b := (blk b8 #[.int .i64 (x : Int), .int .i64 (y : Int), .bool false] 40 + (m4 + (m5 + MS.all w)))) (by ac_rfl)).at_ (i := 0) rfl; have z1 := (H31.out.eq (b := (blk b8 #[.int .i64 (x : Int), .int .i64 (y : Int), .bool false] 40 + (m4 + (m5 + MS.all w)))) (by ac_rfl)).at_ (i := 1) rfl; have z2 := (H31.out.eq (b := (blk b8 #[.int .i64 (x : Int), .int .i64 (y : Int), .bool false] 40 + (m4 + (m5 + MS.all w)))) (by ac_rfl)).at_ (i := 2) rfl; clear q0 q1))
                try simp only [Act.put]
                go_roundw
                case rel => exact ⟨x + 1, k, b7, o7, c7, _, m7, m9, out ++ [((x : Int), (y : Int), true)], Hx.out, by have := Hk.out; omega, by go_num, rfl, hc7, Hin2.out, Hbef2.out, Hcnt2.out, Hpath2.out, by rw [List.length_append, List.length_singleton]; have := Hol.out; omega, G7.out, D37.out, (H37.out.eq (b := (m7 + (m9 + MS.all w)) + (m6 + (blk b8 #[.int .i64 (x : Int), .int .i64 (y : Int), .bool true] 40 + m4))) (by ac_rfl)).left, E37.out⟩
                case measure => have := Hx.out; simp [intOf]; omega
              · have hdm := pos_at y hxW
                have hfirst := cnt_first (k := k) hW1 hin hk hbef (by rw [hdm.1, hdm.2]; exact hf)
                have hpf := path_first (k := k) hW1 hin hk hbef (by rw [hdm.1, hdm.2]; exact hf)
                have htb := fun d => tak_before (W := WN) (f := f) (at' := y * WN + x) d hbef
                rw [hdm.1, hdm.2] at hfirst hpf htb
                have Hbef2' := htb
                have hfd : fitsB f WN HN x y false = true := hfit
                rw [if_pos ⟨hfit, by omega⟩] at hpf
                have Hcnt2 := hid (show 0 < cntF WN (takF f x y false) (WN * HN) 0 0 by omega)
                have goX := hid (fits_in hfd).1
                have goY := hid (fits_in hfd).2
                have hoX := hid (fits_in hfit).1
                have hoY := hid (fits_in hfit).2
                have HinR := hid (fun x' y' (h : takF f x y false x' y' = true) => hin x' y' (takF_in h))
                have Hin2 := hid (fun x' y' (h : takF f x y false x' y' = true) => hin x' y' (takF_in h))
                have Hbef2 := hid (show ∀ i, i < y * WN + (x + 1) → takF f x y false (i % WN) (i / WN) = false from fun i hi => htb false i (by omega))
                have Hpath2 := hid (show (out ++ [((x : Int), (y : Int), false)]) ++ pathF WN (takF f x y false) k (y * WN + (x + 1)) 0 0 = R by
                  rw [← hpath, hpf, show y * WN + (x + 1) = y * WN + x + 1 by omega]; simp)
                obtain ⟨CR, hCR⟩ : ∃ CR, CR = cntF WN (takF f x y false) (WN * HN) 0 0 := ⟨_, rfl⟩
                have hCRI : ¬ ((CR : Int) = 0) := by omega
                have HCR := hid hCR
                clear hdm hfirst hpf htb Hbef2' hk hbef hpath hin hcnt hf hxW hol hfd hC0 hCR
                obtain ⟨b8, hb8⟩ : ∃ b8, b8 = wr.heap.size := ⟨_, rfl⟩
                have HAb8 := hid (show Has (wr.alloc (.cells #[.int .i64 0, .int .i64 0, .bool false] 40)) (blk b8 #[.int .i64 0, .int .i64 0, .bool false] 40 + (m4 + (m5 + MS.all w))) by rw [hb8]; exact HW.out.alloc _)
                have Hb8 := hid hb8
                clear hb8
                go_wp2_with (first
                  | (at_builtin; refine wpList_push rfl (.tmp 58) (.tmp 60) row35 rfl (.slice A5 no c5) rfl _ rfl (by simp) DmR DmR.one DmR.len out ((x : Int), (y : Int), false) m5 0 (m7 + (m6 + (blk b8 #[.int .i64 (x : Int), .int .i64 (y : Int), .bool false] 40 + (m4 + MS.all w)))) HD.out ⟨rfl, rfl⟩ (H35.out.eq (by rw [MS.zero_add]; ac_rfl)) no Hno.out.symm (by omega) (by omega) ?_; intro A36 c36 w36 m9 j4 j5 j6; have D36 := hid j4; have H36 := hid (show Has w36 (m7 + (m6 + (blk b8 #[.int .i64 (x : Int), .int .i64 (y : Int), .bool false] 40 + (m4 + (m9 + MS.all w))))) from j5.eq (by ac_rfl)); have E36 := hid (E35.out.trans j6); clear j4 j5 j6)
                  | (go_at_call 60; refine (Htak.out w34 f b4 o4 c4 m4 HG.out ((H34.out.eq (b := (m4 + (m6 + (blk b8 #[.int .i64 (x : Int), .int .i64 (y : Int), .bool false] 40 + (m5 + MS.all w))))) (by ac_rfl)).left) x y Hx.out Hy.out false goX.out goY.out).mono ?_; rintro e35 w35 ⟨b7, o7, c7, m7, rfl, hc7, G7, k35, l35⟩; have H35 := hid (k35 _ H34.out); have E35 := hid (E34.out.trans l35); clear k35 l35; clear z0 z1 z2; have z0 := (H35.out.eq (b := (blk b8 #[.int .i64 (x : Int), .int .i64 (y : Int), .bool false] 40 + (m7 + (m6 + (m4 + (m5 + MS.all w)))))) (by ac_rfl)).at_ (i := 0) rfl; have z1 := (H35.out.eq (b := (blk b8 #[.int .i64 (x : Int), .int .i64 (y : Int), .bool false] 40 + (m7 + (m6 + (m4 + (m5 + MS.all w)))))) (by ac_rfl)).at_ (i := 1) rfl; have z2 := (H35.out.eq (b := (blk b8 #[.int .i64 (x : Int), .int .i64 (y : Int), .bool false] 40 + (m7 + (m6 + (m4 + (m5 + MS.all w)))))) (by ac_rfl)).at_ (i := 2) rfl; have G7 := hid G7)
                  | (go_at_call 35; have hq := Hways.out w33 _ HinR.out b6 o6 c6 m6 G6.out (H33.out.eq (b := (m6 + (blk b8 #[.int .i64 (x : Int), .int .i64 (y : Int), .bool false] 40 + (m4 + (m5 + MS.all w))))) (by ac_rfl)).left; rw [← HCR.out] at hq; refine (hq).mono ?_; rintro e34 w34 ⟨rfl, k34⟩; have H34 := hid (k34.1 _ H33.out); have E34 := hid (E33.out.trans k34.2); clear k34; clear hq; clear z0 z1 z2; have z0 := (H34.out.eq (b := (blk b8 #[.int .i64 (x : Int), .int .i64 (y : Int), .bool false] 40 + (m6 + (m4 + (m5 + MS.all w))))) (by ac_rfl)).at_ (i := 0) rfl; have z1 := (H34.out.eq (b := (blk b8 #[.int .i64 (x : Int), .int .i64 (y : Int), .bool false] 40 + (m6 + (m4 + (m5 + MS.all w))))) (by ac_rfl)).at_ (i := 1) rfl; have z2 := (H34.out.eq (b := (blk b8 #[.int .i64 (x : Int), .int .i64 (y : Int), .bool false] 40 + (m6 + (m4 + (m5 + MS.all w))))) (by ac_rfl)).at_ (i := 2) rfl)
                  | (go_at_call 60; refine (Htak.out w32 f b4 o4 c4 m4 HG.out ((H32.out.eq (b := (m4 + (blk b8 #[.int .i64 (x : Int), .int .i64 (y : Int), .bool false] 40 + (m5 + MS.all w)))) (by ac_rfl)).left) x y Hx.out Hy.out false hoX.out hoY.out).mono ?_; rintro e33 w33 ⟨b6, o6, c6, m6, rfl, hc6, G6, k33, l33⟩; have H33 := hid (k33 _ H32.out); have E33 := hid (E32.out.trans l33); clear k33 l33; clear z0 z1 z2; have z0 := (H33.out.eq (b := (blk b8 #[.int .i64 (x : Int), .int .i64 (y : Int), .bool false] 40 + (m6 + (m4 + (m5 + MS.all w))))) (by ac_rfl)).at_ (i := 0) rfl; have z1 := (H33.out.eq (b := (blk b8 #[.int .i64 (x : Int), .int .i64 (y : Int), .bool false] 40 + (m6 + (m4 + (m5 + MS.all w))))) (by ac_rfl)).at_ (i := 1) rfl; have z2 := (H33.out.eq (b := (blk b8 #[.int .i64 (x : Int), .int .i64 (y : Int), .bool false] 40 + (m6 + (m4 + (m5 + MS.all w))))) (by ac_rfl)).at_ (i := 2) rfl; have G6 := hid G6)
                  | (go_at_call 59; have hq := Hfits.out w31 f b4 o4 c4 m4 HG.out ((H31.out.eq (b := (m4 + (blk b8 #[.int .i64 (x : Int), .int .i64 (y : Int), .bool false] 40 + (m5 + MS.all w)))) (by ac_rfl)).left) x y Hx.out Hy.out false; rw [hfit] at hq; refine (hq).mono ?_; rintro e32 w32 ⟨rfl, k32⟩; have H32 := hid (k32.1 _ H31.out); have E32 := hid (E31.out.trans k32.2); clear k32; clear hq; clear z0 z1 z2; have z0 := (H32.out.eq (b := (blk b8 #[.int .i64 (x : Int), .int .i64 (y : Int), .bool false] 40 + (m4 + (m5 + MS.all w)))) (by ac_rfl)).at_ (i := 0) rfl; have z1 := (H32.out.eq (b := (blk b8 #[.int .i64 (x : Int), .int .i64 (y : Int), .bool false] 40 + (m4 + (m5 + MS.all w)))) (by ac_rfl)).at_ (i := 1) rfl; have z2 := (H32.out.eq (b := (blk b8 #[.int .i64 (x : Int), .int .i64 (y : Int), .bool false] 40 + (m4 + (m5 + MS.all w)))) (by ac_rfl)).at_ (i := 2) rfl)
                  | (rw [← Hb8.out]; refine wpList_store_whole rfl (.tmp 8) (.tmp 42) 40 rfl 3 size40 b8 (.agg #[.int .i64 (x : Int), .int .i64 (y : Int), .bool false]) rfl rfl rfl (by simp [Value.cells, Value.oneCell']) #[.int .i64 0, .int .i64 0, .bool false] 40 _ HAb8.out rfl ?_; intro w31 j1 j2; have H31 := hid (show Has w31 (blk b8 #[.int .i64 (x : Int), .int .i64 (y : Int), .bool false] 40 + (m4 + (m5 + MS.all w))) from j1.eq (by unfold blk; ac_rfl)); have E31 := hid ((HE.out.trans (Ext.alloc _ _)).trans j2); clear j1 j2; have z0 := (H31.out.eq (b := (blk b8 #[.int .i64 (x : Int), .int .i64 (y : Int), .bool false] 40 + (m4 + (m5 + MS.all w)))) (by ac_rfl)).at_ (i := 0) rfl; have z1 := (H31.out.eq (b := (blk b8 #[.int .i64 (x : Int), .int .i64 (y : Int), .bool false] 40 + (m4 + (m5 + MS.all w)))) (by ac_rfl)).at_ (i := 1) rfl; have z2 := (H31.out.eq (b := (blk b8 #[.int .i64 (x : Int), .int .i64 (y : Int), .bool false] 40 + (m4 + (m5 + MS.all w)))) (by ac_rfl)).at_ (i := 2) rfl; clear q0 q1))
                try simp only [Act.put]
                go_roundw
                case rel => exact ⟨x + 1, k, b7, o7, c7, _, m7, m9, out ++ [((x : Int), (y : Int), false)], Hx.out, by have := Hk.out; omega, by go_num, rfl, hc7, Hin2.out, Hbef2.out, Hcnt2.out, Hpath2.out, by rw [List.length_append, List.length_singleton]; have := Hol.out; omega, G7.out, D36.out, (H36.out.eq (b := (m7 + (m9 + MS.all w)) + (m6 + (blk b8 #[.int .i64 (x : Int), .int .i64 (y : Int), .bool false] 40 + m4))) (by ac_rfl)).left, E36.out⟩
                case measure => have := Hx.out; simp [intOf]; omega
        · have hxe : x = WN := by omega
          subst hxe
          have HD := hid hD
          clear hxW hx hcell hD
          go_wp2
          go_roundw
          case rel => exact ⟨y + 1, k, b4, o4, c4, f, m4, m5, out, Hy.out, by rw [Nat.succ_mul]; exact hk, by go_num, rfl, hc4, hin, by rw [Nat.succ_mul]; exact hbef, hcnt, by rw [Nat.succ_mul]; exact hpath, by rw [Nat.succ_mul]; exact hol, HG.out, HD.out, HW.out, HE.out⟩
          case measure => have := Hy.out; simp [intOf]; omega
    · have hye : y = HN := by omega
      subst hye
      clear hlt hy
      have hk0 : k = 0 := by have := Hyk.out; rw [Nat.mul_comm WN y] at this; omega
      subst hk0
      have hout : out = R := by have := Hpath'.out; simpa [pathF] using this
      subst hout
      go_wp2
      go_ret2
      exact ⟨_, m5, rfl, HD.out, fun M hM => Has.with_all hM (HW.out.right), HE.out⟩
end Go.Proofs.YtcdhimnmbpllgaaDoor

/-
  The walks of the specification's IsTiling (63) and Is (25) (printed by gen_istil.py).
-/
import Derived.Test.YtcdhimnmbpllgaaDoorTPlain2
import Derived.Test.YtcdhimnmbpllgaaDoorTW1
namespace Go.Proofs.YtcdhimnmbpllgaaDoor
open Go.RowKit
set_option linter.unusedVariables false
set_option linter.unusedSimpArgs false
set_option maxHeartbeats 4000000
set_option maxRecDepth 100000

def RT.dom : RT Dom := ⟨3, fun _ d cs => cs = [.int .i64 d.1, .int .i64 d.2.1, .bool d.2.2], fun _ _ _ h => by rw [h]; rfl, fun _ _ _ _ h => h⟩
theorem DmR.rd : ∀ a cs m, DmR a cs m → RT.dom.rel m a cs := fun _ _ _ h => h.1
theorem Dms.rd {l : List Dom} {v : Value} {m : MS} (h : Dms l v m) : RdS m RT.dom l v := SlR.rd DmR.rd h
theorem RdS.getDom {F : MS} {l : List Dom} {A : Option Addr} {n c : Nat} (h : RdS F RT.dom l (.slice A n c)) {i : Nat} {d : Dom} (ha : l[i]? = some d) :
    ∃ b o, A = some ⟨b, o, none⟩ ∧ F.at b (o + i * 3) (.int .i64 d.1) ∧ F.at b (o + i * 3 + 1) (.int .i64 d.2.1) ∧ F.at b (o + i * 3 + 2) (.bool d.2.2) := by
  obtain ⟨b, o, cs, h1, h2, h3⟩ := h.get ha (by show 0 < 3; omega)
  obtain rfl : cs = [.int .i64 d.1, .int .i64 d.2.1, .bool d.2.2] := h2
  exact ⟨b, o, h1, h3 0 _ rfl, h3 1 _ rfl, h3 2 _ rfl⟩
theorem rd_all_dom {F : MS} {w : World} {l : List Dom} {v : Value} (h : RdS F RT.dom l v) (hH : Has w F) : RdS (MS.all w) RT.dom l v := rd_all (F := F) (T := RT.dom) (fun _ _ h => h) h hH
def prevD (t : List Dom) (i : Nat) : Option Dom := if i = 0 then none else t[i - 1]?
theorem istil_any {F : MS} {p : List ByteArray} {A : Option Addr} {c : Nat} {t : List Dom} {B : Option Addr} {ct : Nat} {w : World} (hr : RdS F RT.str p (.slice A p.length c)) (hp : RegOk p) (ht : RdS F RT.dom t (.slice B t.length ct)) (htl : t.length ≤ 1000) (hH : Has w F) :
    Calls Tryd.prog 63 #[.slice A p.length c, .slice B t.length ct] w fun e w' => e = .returned (.bool (isT (wd p) p.length (hsR p) none t)) ∧ Kp w w' := by
  have Hfree := hid (free_any hr hp hH)
  have hin := fun x y (h : hsR p x y = true) => hsR_in x y h
  have HH := hid hH
  have hW1 := hp.w1
  have hW8 := hp.w8
  have hH1 := hp.h1
  have hH8 := hp.h8
  have htc := ht.cells.2.1
  obtain ⟨hs0, hhs0⟩ : ∃ f, f = hsR p := ⟨_, rfl⟩
  obtain ⟨WN, hWN⟩ : ∃ WN, WN = wd p := ⟨_, rfl⟩
  obtain ⟨HN, hHN⟩ : ∃ HN, HN = p.length := ⟨_, rfl⟩
  rw [← hhs0] at hin Hfree ⊢
  rw [← hWN] at hin Hfree hW1 hW8 ⊢
  rw [← hHN] at hin Hfree hH1 hH8 ⊢
  have Htd := hid (fun (i : Nat) (d : Dom) (h : t[i]? = some d) => ht.getDom h)
  obtain ⟨TN, hTN⟩ : ∃ TN, TN = t.length := ⟨_, rfl⟩
  rw [← hTN] at htl htc ⊢
  have HTN := hid hTN
  obtain ⟨R, hR⟩ : ∃ R, R = isT WN HN hs0 none t := ⟨_, rfl⟩
  rw [← hR]
  have HR := hid hR
  have Hin := hid hin
  have HaF := hid (fun (W : World) (X : MS) (h : Has W (X + MS.all w)) => hH.of_all h)
  clear hr hH ht hp hhs0 hWN hHN hTN hR hin
  have Hfits := hid (fun (W' : World) (f : Nat → Nat → Bool) (b o c : Nat) (m : MS) (hG : Grid (gridK f WN HN) (.slice (some ⟨b, o, none⟩) HN c) m) (h : Has W' m) (X Y : Nat) (hX : X < WN) (hY : Y < HN) (d : Bool) => show Calls Tryd.prog 59 #[.slice (some ⟨b, o, none⟩) HN c, .agg #[.int .i64 (X : Int), .int .i64 (Y : Int), .bool d]] W' fun e w' => e = .returned (.bool (fitsB f WN HN X Y d)) ∧ Kp W' w' from
    fits_any hG.rd (gridK_ok f WN HN) hW8 hH8 hX hY d h)
  have Htak := hid (fun (W' : World) (f : Nat → Nat → Bool) (b o c : Nat) (m : MS) (hG : Grid (gridK f WN HN) (.slice (some ⟨b, o, none⟩) HN c) m) (h : Has W' m) (X Y : Nat) (hX : X < WN) (hY : Y < HN) (d : Bool) (hoX : onX X d < WN) (hoY : onY Y d < HN) => show Calls Tryd.prog 60 #[.slice (some ⟨b, o, none⟩) HN c, .agg #[.int .i64 (X : Int), .int .i64 (Y : Int), .bool d]] W' fun e w' => ∃ b4 o4 c4 m, e = .returned (.slice (some ⟨b4, o4, none⟩) HN c4) ∧ HN ≤ c4 ∧ Grid (gridK (takF f X Y d) WN HN) (.slice (some ⟨b4, o4, none⟩) HN c4) m ∧ (∀ M, Has W' M → Has w' (m + M)) ∧ Ext W' w' from by
    refine (taken_any hG.rd (gridK_ok f WN HN) hW8 hH8 hX hY d hoX hoY h).mono ?_
    rintro e w' ⟨v, m, rfl, h1, h2, h3⟩
    obtain ⟨b4, o4, c4, rfl, h4⟩ := Grid.form h1 hH1
    exact ⟨b4, o4, c4, m, rfl, h4, h1, h2, h3⟩)
  have Hcell := hid (fun (W' : World) (f : Nat → Nat → Bool) (b o c : Nat) (m : MS) (hG : Grid (gridK f WN HN) (.slice (some ⟨b, o, none⟩) HN c) m) (h : Has W' m) (Y : Nat) (hY : Y < HN) => show ∃ b2 o2 c2, WN ≤ c2 ∧ W'.cell? ⟨b, o + Y, none⟩ = some (.slice (some ⟨b2, o2, none⟩) WN c2) ∧ ∀ X, X < WN → W'.cell? ⟨b2, o2 + X, none⟩ = some (.bool (f X Y)) from by
    obtain ⟨b2, o2, c2, z0, z1, z2⟩ := grid_row hG.rd (gridK_ok f WN HN) hW1 hY
    exact ⟨b2, o2, c2, z1, z0.c0 h, fun X hX => (z2 X hX).c0 h⟩)
  have Hform := hid (fun (v : Value) (m : MS) (h : Grid (gridK hs0 WN HN) v m) => Grid.form h hH1)
  have hWI : (WN : Int) ≤ 8 := by omega
  have hHI : (HN : Int) ≤ 8 := by omega
  have hH0I : (0 : Int) < HN := by omega
  have hH0 : 0 < HN := hH1
  have hTI : (TN : Int) ≤ 1000 := by omega
  go_enter Tryd.func63, Tryd.ntmps63
  go_wp2_with (go_at_call 36; refine Hfree.out.mono ?_; rintro e2 w2 ⟨v2, m2, rfl, g2, k2, l2⟩; obtain ⟨b4, o4, c4, rfl, hc4⟩ := Hform.out v2 m2 g2; have G2 := hid g2; have H2 := hid (k2 _ (Has.all w)); have E2 := hid l2; clear k2 l2 g2)
  go_loopw [5, 6] (fun v5 v6 wr => ∃ (i b4 o4 c4 : Nat) (f : Nat → Nat → Bool) (m4 : MS), i ≤ TN ∧ v6 = .int .i64 i ∧ v5 = .slice (some ⟨b4, o4, none⟩) HN c4 ∧ HN ≤ c4 ∧ (∀ x y, f x y = true → x < WN ∧ y < HN) ∧ isT WN HN f (prevD t i) (t.drop i) = R ∧ Grid (gridK f WN HN) (.slice (some ⟨b4, o4, none⟩) HN c4) m4 ∧ Has wr (m4 + MS.all w) ∧ Ext w wr) (fun _ v _ => TN - (intOf v).toNat)
  case atStart => exact ⟨0, b4, o4, c4, hs0, m2, Nat.zero_le _, rfl, rfl, hc4, Hin.out, HR.out.symm, G2.out, H2.out, E2.out⟩
  case round =>
    clear G2 H2 E2 hc4
    obtain ⟨i, b4, o4, c4, f, m4, hi, rfl, rfl, hc4, hin, hR, hG, hW, hE⟩ := hrel
    have HG := hid hG
    have HW := hid hW
    have HE := hid hE
    have HRi := hid hR
    have Hin2 := hid hin
    clear hG hW hE hR hin
    by_cases hlt : i < TN
    · have hltI : (i : Int) < TN := by omega
      have Hlt := hid hlt
      obtain ⟨d, hd⟩ : ∃ d, t[i]? = some d := ⟨_, List.getElem?_eq_getElem (by rw [← HTN.out]; exact hlt)⟩
      obtain ⟨bt, ot, hB, t0, t1, t2⟩ := Htd.out i d hd
      subst hB
      have Hd := hid hd
      have hmore := isT_more (W := WN) (H := HN) (f := f) (prev := prevD t i) hd
      rw [HRi.out] at hmore
      have hprev : prevD t (i + 1) = some d := by unfold prevD; rw [if_neg (by omega), Nat.add_sub_cancel]; exact hd
      obtain ⟨dx, dy, dn⟩ := d
      simp only at t0 t1 t2
      have HaT := hid (fun (W : World) (X : MS) (h : Has W (X + MS.all w)) => show W.cell? ⟨bt, ot + i * 3, none⟩ = some (.int .i64 dx) ∧ W.cell? ⟨bt, ot + i * 3 + 1, none⟩ = some (.int .i64 dy) ∧ W.cell? ⟨bt, ot + i * 3 + 2, none⟩ = some (.bool dn) from ⟨t0.c0 (HaF.out W X h), t1.c0 (HaF.out W X h), t2.c0 (HaF.out W X h)⟩)
      have Hprev := hid hprev
      have Hmore := hid hmore
      obtain ⟨y0, y1, y2⟩ := HaT.out wr _ HW.out
      clear hlt hi hd t0 t1 t2 hmore hprev
      obtain ⟨b7, hb7⟩ : ∃ b7, b7 = wr.heap.size := ⟨_, rfl⟩; have HAb7 := hid (show Has (wr.alloc (.cells #[.int .i64 0, .int .i64 0, .bool false] 40)) (blk b7 #[.int .i64 0, .int .i64 0, .bool false] 40 + (m4 + MS.all w)) by rw [hb7]; exact HW.out.alloc _); have Hb7 := hid hb7; clear hb7
      go_wp2_with (rw [← Hb7.out]; refine wpList_store_whole rfl (.tmp 7) (.tmp 21) 40 rfl 3 size40 b7 (.agg #[.int .i64 dx, .int .i64 dy, .bool dn]) rfl rfl rfl (by simp [Value.cells, Value.oneCell']) #[.int .i64 0, .int .i64 0, .bool false] 40 _ HAb7.out rfl ?_; intro w41 j1 j2; have H41 := hid (show Has w41 (blk b7 #[.int .i64 dx, .int .i64 dy, .bool dn] 40 + (m4 + MS.all w)) from j1.eq (by unfold blk; ac_rfl)); have E41 := hid ((HE.out.trans (Ext.alloc _ _)).trans j2); clear j1 j2)
      by_cases hx0 : dx < 0
      · have hno := hid (show R = false by rw [Hmore.out]; unfold okD; rw [decide_eq_false (by simp only; omega)]; rfl)
        obtain ⟨bz, oz, cz, z0, hcz, _⟩ := grid_row (HG.out.rd) (gridK_ok f WN HN) hW1 hH1
        rw [Nat.add_zero] at z0
        have Z0 := hid z0
        clear z0
        have q0 := (Z0.out).c0 ((H41.out.eq (b := (m4 + (blk b7 #[.int .i64 dx, .int .i64 dy, .bool dn] 40 + MS.all w))) (by ac_rfl)).left)
        have x0 := (H41.out.eq (b := (blk b7 #[.int .i64 dx, .int .i64 dy, .bool dn] 40 + (m4 + MS.all w))) (by ac_rfl)).at_ (i := 0) rfl
        have x1 := (H41.out.eq (b := (blk b7 #[.int .i64 dx, .int .i64 dy, .bool dn] 40 + (m4 + MS.all w))) (by ac_rfl)).at_ (i := 1) rfl
        have x2 := (H41.out.eq (b := (blk b7 #[.int .i64 dx, .int .i64 dy, .bool dn] 40 + (m4 + MS.all w))) (by ac_rfl)).at_ (i := 2) rfl
        have hS : (fun W' : World => W'.cell? ⟨b7, 0, none⟩ = some (.int .i64 dx) ∧ W'.cell? ⟨b7, 1, none⟩ = some (.int .i64 dy) ∧ W'.cell? ⟨b7, 2, none⟩ = some (.bool dn) ∧ W'.cell? ⟨b4, o4, none⟩ = some (.slice (some ⟨bz, oz, none⟩) WN cz)) w41.drew := ⟨x0, x1, x2, q0⟩
        clear x0 x1 x2 q0
        refine wp_region_txt (fun W' => W'.cell? ⟨b7, 0, none⟩ = some (.int .i64 dx) ∧ W'.cell? ⟨b7, 1, none⟩ = some (.int .i64 dy) ∧ W'.cell? ⟨b7, 2, none⟩ = some (.bool dn) ∧ W'.cell? ⟨b4, o4, none⟩ = some (.slice (some ⟨bz, oz, none⟩) WN cz)) none
          [(0, true), (1, true), (2, true), (3, true), (4, true), (5, true), (6, true), (7, true), (8, true), (9, true), (10, true), (11, true), (12, true), (13, true), (14, true), (15, true), (16, true), (17, true), (18, true), (19, true), (20, true), (21, true), (22, true), (23, true), (24, true), (25, true), (26, true), (27, true), (28, true), (29, true)] (by kernel_rfl) rfl (by kernel_rfl) (by kernel_rfl) (by repeat (first | with_reducible refine PanicOk.thn ?_ | with_reducible refine PanicOk.blk ?_ | exact PanicOk.body _ _ _)) ?_
        repeat (first
          | (refine txt_off hS rfl rfl ?_; simp only [Act.put, List.setIfInBounds_toArray, List.set_cons_zero, List.set_cons_succ])
          | (refine txt_quiet ?_ hS rfl rfl (fun W hW => ?_) ?_
             rotate_left 1
             · obtain ⟨hW1, hW2, hW3, hW4⟩ := hW
               go_simp
               exact rfl
             simp only [Act.put, List.setIfInBounds_toArray, List.set_cons_zero, List.set_cons_succ]))
        refine txt_done ?_
        try simp only [Act.put]
        go_wp2
        go_ret
        exact ⟨by first | rfl | (rw [hno.out]; rfl), fun M hM => hM.of_all ((H41.out.eq (b := blk b7 #[.int .i64 dx, .int .i64 dy, .bool dn] 40 + m4 + MS.all w) (by ac_rfl))), E41.out.trans (Ext.drew _)⟩
      by_cases hy0 : dy < 0
      · have hno := hid (show R = false by rw [Hmore.out]; unfold okD; rw [decide_eq_false (by simp only; omega)]; rfl)
        obtain ⟨bz, oz, cz, z0, hcz, _⟩ := grid_row (HG.out.rd) (gridK_ok f WN HN) hW1 hH1
        rw [Nat.add_zero] at z0
        have Z0 := hid z0
        clear z0
        have q0 := (Z0.out).c0 ((H41.out.eq (b := (m4 + (blk b7 #[.int .i64 dx, .int .i64 dy, .bool dn] 40 + MS.all w))) (by ac_rfl)).left)
        have x0 := (H41.out.eq (b := (blk b7 #[.int .i64 dx, .int .i64 dy, .bool dn] 40 + (m4 + MS.all w))) (by ac_rfl)).at_ (i := 0) rfl
        have x1 := (H41.out.eq (b := (blk b7 #[.int .i64 dx, .int .i64 dy, .bool dn] 40 + (m4 + MS.all w))) (by ac_rfl)).at_ (i := 1) rfl
        have x2 := (H41.out.eq (b := (blk b7 #[.int .i64 dx, .int .i64 dy, .bool dn] 40 + (m4 + MS.all w))) (by ac_rfl)).at_ (i := 2) rfl
        have hS : (fun W' : World => W'.cell? ⟨b7, 0, none⟩ = some (.int .i64 dx) ∧ W'.cell? ⟨b7, 1, none⟩ = some (.int .i64 dy) ∧ W'.cell? ⟨b7, 2, none⟩ = some (.bool dn) ∧ W'.cell? ⟨b4, o4, none⟩ = some (.slice (some ⟨bz, oz, none⟩) WN cz)) w41.drew := ⟨x0, x1, x2, q0⟩
        clear x0 x1 x2 q0
        refine wp_region_txt (fun W' => W'.cell? ⟨b7, 0, none⟩ = some (.int .i64 dx) ∧ W'.cell? ⟨b7, 1, none⟩ = some (.int .i64 dy) ∧ W'.cell? ⟨b7, 2, none⟩ = some (.bool dn) ∧ W'.cell? ⟨b4, o4, none⟩ = some (.slice (some ⟨bz, oz, none⟩) WN cz)) none
          [(0, true), (1, true), (2, true), (3, true), (4, true), (5, true), (6, true), (7, true), (8, true), (9, true), (10, true), (11, true), (12, true), (13, true), (14, true), (15, true), (16, true), (17, true), (18, true), (19, true), (20, true), (21, true), (22, true), (23, true), (24, true), (25, true), (26, true), (27, true), (28, true), (29, true)] (by kernel_rfl) rfl (by kernel_rfl) (by kernel_rfl) (by repeat (first | with_reducible refine PanicOk.thn ?_ | with_reducible refine PanicOk.blk ?_ | exact PanicOk.body _ _ _)) ?_
        repeat (first
          | (refine txt_off hS rfl rfl ?_; simp only [Act.put, List.setIfInBounds_toArray, List.set_cons_zero, List.set_cons_succ])
          | (refine txt_quiet ?_ hS rfl rfl (fun W hW => ?_) ?_
             rotate_left 1
             · obtain ⟨hW1, hW2, hW3, hW4⟩ := hW
               go_simp
               exact rfl
             simp only [Act.put, List.setIfInBounds_toArray, List.set_cons_zero, List.set_cons_succ]))
        refine txt_done ?_
        try simp only [Act.put]
        go_wp2
        go_ret
        exact ⟨by first | rfl | (rw [hno.out]; rfl), fun M hM => hM.of_all ((H41.out.eq (b := blk b7 #[.int .i64 dx, .int .i64 dy, .bool dn] 40 + m4 + MS.all w) (by ac_rfl))), E41.out.trans (Ext.drew _)⟩
      by_cases hxW' : (WN : Int) ≤ dx
      · have hno := hid (show R = false by rw [Hmore.out]; unfold okD; rw [decide_eq_false (by simp only; omega)]; rfl)
        obtain ⟨bz, oz, cz, z0, hcz, _⟩ := grid_row (HG.out.rd) (gridK_ok f WN HN) hW1 hH1
        rw [Nat.add_zero] at z0
        have Z0 := hid z0
        clear z0
        have q0 := (Z0.out).c0 ((H41.out.eq (b := (m4 + (blk b7 #[.int .i64 dx, .int .i64 dy, .bool dn] 40 + MS.all w))) (by ac_rfl)).left)
        have x0 := (H41.out.eq (b := (blk b7 #[.int .i64 dx, .int .i64 dy, .bool dn] 40 + (m4 + MS.all w))) (by ac_rfl)).at_ (i := 0) rfl
        have x1 := (H41.out.eq (b := (blk b7 #[.int .i64 dx, .int .i64 dy, .bool dn] 40 + (m4 + MS.all w))) (by ac_rfl)).at_ (i := 1) rfl
        have x2 := (H41.out.eq (b := (blk b7 #[.int .i64 dx, .int .i64 dy, .bool dn] 40 + (m4 + MS.all w))) (by ac_rfl)).at_ (i := 2) rfl
        have hS : (fun W' : World => W'.cell? ⟨b7, 0, none⟩ = some (.int .i64 dx) ∧ W'.cell? ⟨b7, 1, none⟩ = some (.int .i64 dy) ∧ W'.cell? ⟨b7, 2, none⟩ = some (.bool dn) ∧ W'.cell? ⟨b4, o4, none⟩ = some (.slice (some ⟨bz, oz, none⟩) WN cz)) w41.drew := ⟨x0, x1, x2, q0⟩
        clear x0 x1 x2 q0
        refine wp_region_txt (fun W' => W'.cell? ⟨b7, 0, none⟩ = some (.int .i64 dx) ∧ W'.cell? ⟨b7, 1, none⟩ = some (.int .i64 dy) ∧ W'.cell? ⟨b7, 2, none⟩ = some (.bool dn) ∧ W'.cell? ⟨b4, o4, none⟩ = some (.slice (some ⟨bz, oz, none⟩) WN cz)) none
          [(0, true), (1, true), (2, true), (3, true), (4, true), (5, true), (6, true), (7, true), (8, true), (9, true), (10, true), (11, true), (12, true), (13, true), (14, true), (15, true), (16, true), (17, true), (18, true), (19, true), (20, true), (21, true), (22, true), (23, true), (24, true), (25, true), (26, true), (27, true), (28, true), (29, true)] (by kernel_rfl) rfl (by kernel_rfl) (by kernel_rfl) (by repeat (first | with_reducible refine PanicOk.thn ?_ | with_reducible refine PanicOk.blk ?_ | exact PanicOk.body _ _ _)) ?_
        repeat (first
          | (refine txt_off hS rfl rfl ?_; simp only [Act.put, List.setIfInBounds_toArray, List.set_cons_zero, List.set_cons_succ])
          | (refine txt_quiet ?_ hS rfl rfl (fun W hW => ?_) ?_
             rotate_left 1
             · obtain ⟨hW1, hW2, hW3, hW4⟩ := hW
               go_simp
               exact rfl
             simp only [Act.put, List.setIfInBounds_toArray, List.set_cons_zero, List.set_cons_succ]))
        refine txt_done ?_
        try simp only [Act.put]
        go_wp2
        go_ret
        exact ⟨by first | rfl | (rw [hno.out]; rfl), fun M hM => hM.of_all ((H41.out.eq (b := blk b7 #[.int .i64 dx, .int .i64 dy, .bool dn] 40 + m4 + MS.all w) (by ac_rfl))), E41.out.trans (Ext.drew _)⟩
      by_cases hyH' : (HN : Int) ≤ dy
      · have hno := hid (show R = false by rw [Hmore.out]; unfold okD; rw [decide_eq_false (by simp only; omega)]; rfl)
        obtain ⟨bz, oz, cz, z0, hcz, _⟩ := grid_row (HG.out.rd) (gridK_ok f WN HN) hW1 hH1
        rw [Nat.add_zero] at z0
        have Z0 := hid z0
        clear z0
        have q0 := (Z0.out).c0 ((H41.out.eq (b := (m4 + (blk b7 #[.int .i64 dx, .int .i64 dy, .bool dn] 40 + MS.all w))) (by ac_rfl)).left)
        have x0 := (H41.out.eq (b := (blk b7 #[.int .i64 dx, .int .i64 dy, .bool dn] 40 + (m4 + MS.all w))) (by ac_rfl)).at_ (i := 0) rfl
        have x1 := (H41.out.eq (b := (blk b7 #[.int .i64 dx, .int .i64 dy, .bool dn] 40 + (m4 + MS.all w))) (by ac_rfl)).at_ (i := 1) rfl
        have x2 := (H41.out.eq (b := (blk b7 #[.int .i64 dx, .int .i64 dy, .bool dn] 40 + (m4 + MS.all w))) (by ac_rfl)).at_ (i := 2) rfl
        have hS : (fun W' : World => W'.cell? ⟨b7, 0, none⟩ = some (.int .i64 dx) ∧ W'.cell? ⟨b7, 1, none⟩ = some (.int .i64 dy) ∧ W'.cell? ⟨b7, 2, none⟩ = some (.bool dn) ∧ W'.cell? ⟨b4, o4, none⟩ = some (.slice (some ⟨bz, oz, none⟩) WN cz)) w41.drew := ⟨x0, x1, x2, q0⟩
        clear x0 x1 x2 q0
        refine wp_region_txt (fun W' => W'.cell? ⟨b7, 0, none⟩ = some (.int .i64 dx) ∧ W'.cell? ⟨b7, 1, none⟩ = some (.int .i64 dy) ∧ W'.cell? ⟨b7, 2, none⟩ = some (.bool dn) ∧ W'.cell? ⟨b4, o4, none⟩ = some (.slice (some ⟨bz, oz, none⟩) WN cz)) none
          [(0, true), (1, true), (2, true), (3, true), (4, true), (5, true), (6, true), (7, true), (8, true), (9, true), (10, true), (11, true), (12, true), (13, true), (14, true), (15, true), (16, true), (17, true), (18, true), (19, true), (20, true), (21, true), (22, true), (23, true), (24, true), (25, true), (26, true), (27, true), (28, true), (29, true)] (by kernel_rfl) rfl (by kernel_rfl) (by kernel_rfl) (by repeat (first | with_reducible refine PanicOk.thn ?_ | with_reducible refine PanicOk.blk ?_ | exact PanicOk.body _ _ _)) ?_
        repeat (first
          | (refine txt_off hS rfl rfl ?_; simp only [Act.put, List.setIfInBounds_toArray, List.set_cons_zero, List.set_cons_succ])
          | (refine txt_quiet ?_ hS rfl rfl (fun W hW => ?_) ?_
             rotate_left 1
             · obtain ⟨hW1, hW2, hW3, hW4⟩ := hW
               go_simp
               exact rfl
             simp only [Act.put, List.setIfInBounds_toArray, List.set_cons_zero, List.set_cons_succ]))
        refine txt_done ?_
        try simp only [Act.put]
        go_wp2
        go_ret
        exact ⟨by first | rfl | (rw [hno.out]; rfl), fun M hM => hM.of_all ((H41.out.eq (b := blk b7 #[.int .i64 dx, .int .i64 dy, .bool dn] 40 + m4 + MS.all w) (by ac_rfl))), E41.out.trans (Ext.drew _)⟩
      obtain ⟨X, hX⟩ : ∃ X : Nat, dx = X := ⟨dx.toNat, by omega⟩
      obtain ⟨Y, hY⟩ : ∃ Y : Nat, dy = Y := ⟨dy.toNat, by omega⟩
      subst hX; subst hY
      have hXW : X < WN := by omega
      have hYH : Y < HN := by omega
      cases hfit : fitsB f WN HN X Y dn with
      | false =>
        have hno := hid (show R = false by rw [Hmore.out]; unfold okD; simp only [Int.toNat_natCast, hfit]; simp)
        obtain ⟨bz, oz, cz, z0, hcz, _⟩ := grid_row (HG.out.rd) (gridK_ok f WN HN) hW1 hH1
        rw [Nat.add_zero] at z0
        have Z0 := hid z0
        clear z0
        have q0 := (Z0.out).c0 ((H41.out.eq (b := (m4 + (blk b7 #[.int .i64 (X : Int), .int .i64 (Y : Int), .bool dn] 40 + MS.all w))) (by ac_rfl)).left)
        have x0 := (H41.out.eq (b := (blk b7 #[.int .i64 (X : Int), .int .i64 (Y : Int), .bool dn] 40 + (m4 + MS.all w))) (by ac_rfl)).at_ (i := 0) rfl
        have x1 := (H41.out.eq (b := (blk b7 #[.int .i64 (X : Int), .int .i64 (Y : Int), .bool dn] 40 + (m4 + MS.all w))) (by ac_rfl)).at_ (i := 1) rfl
        have x2 := (H41.out.eq (b := (blk b7 #[.int .i64 (X : Int), .int .i64 (Y : Int), .bool dn] 40 + (m4 + MS.all w))) (by ac_rfl)).at_ (i := 2) rfl
        have hS : (fun W' : World => W'.cell? ⟨b7, 0, none⟩ = some (.int .i64 (X : Int)) ∧ W'.cell? ⟨b7, 1, none⟩ = some (.int .i64 (Y : Int)) ∧ W'.cell? ⟨b7, 2, none⟩ = some (.bool dn) ∧ W'.cell? ⟨b4, o4, none⟩ = some (.slice (some ⟨bz, oz, none⟩) WN cz)) w41.drew := ⟨x0, x1, x2, q0⟩
        clear x0 x1 x2 q0
        refine wp_region_txt (fun W' => W'.cell? ⟨b7, 0, none⟩ = some (.int .i64 (X : Int)) ∧ W'.cell? ⟨b7, 1, none⟩ = some (.int .i64 (Y : Int)) ∧ W'.cell? ⟨b7, 2, none⟩ = some (.bool dn) ∧ W'.cell? ⟨b4, o4, none⟩ = some (.slice (some ⟨bz, oz, none⟩) WN cz)) none
          [(0, true), (1, true), (2, true), (3, true), (4, true), (5, true), (6, true), (7, true), (8, true), (9, true), (10, true), (11, true), (12, true), (13, true), (14, true), (15, true), (16, true), (17, true), (18, true), (19, true), (20, true), (21, true), (22, true), (23, true), (24, true), (25, true), (26, true), (27, false), (28, true), (29, true)] (by kernel_rfl) rfl (by kernel_rfl) (by kernel_rfl) (by repeat (first | with_reducible refine PanicOk.thn ?_ | with_reducible refine PanicOk.blk ?_ | exact PanicOk.body _ _ _)) ?_
        repeat (first
          | (refine txt_off hS rfl rfl ?_; simp only [Act.put, List.setIfInBounds_toArray, List.set_cons_zero, List.set_cons_succ])
          | (refine txt_quiet ?_ hS rfl rfl (fun W hW => ?_) ?_
             rotate_left 1
             · obtain ⟨hW1, hW2, hW3, hW4⟩ := hW
               go_simp
               exact rfl
             simp only [Act.put, List.setIfInBounds_toArray, List.set_cons_zero, List.set_cons_succ]))
        refine txt_op rfl rfl ?_
        have hq := Hfits.out w41.drew f b4 o4 c4 m4 HG.out ((H41.out.eq (b := (m4 + (blk b7 #[.int .i64 (X : Int), .int .i64 (Y : Int), .bool dn] 40 + MS.all w))) (by ac_rfl)).left.drew) X Y hXW hYH dn
        rw [hfit] at hq
        refine op_call 59 _ _ (by go_simp) _ hq ?_
        rintro e42 w42 ⟨rfl, k42⟩
        have H42 := hid (k42.1 _ H41.out.drew)
        have E42 := hid ((E41.out.trans (Ext.drew _)).trans k42.2)
        have x0 := (H42.out.eq (b := (blk b7 #[.int .i64 (X : Int), .int .i64 (Y : Int), .bool dn] 40 + (m4 + MS.all w))) (by ac_rfl)).at_ (i := 0) rfl
        have x1 := (H42.out.eq (b := (blk b7 #[.int .i64 (X : Int), .int .i64 (Y : Int), .bool dn] 40 + (m4 + MS.all w))) (by ac_rfl)).at_ (i := 1) rfl
        have x2 := (H42.out.eq (b := (blk b7 #[.int .i64 (X : Int), .int .i64 (Y : Int), .bool dn] 40 + (m4 + MS.all w))) (by ac_rfl)).at_ (i := 2) rfl
        have q0 := (Z0.out).c0 ((H42.out.eq (b := (m4 + (blk b7 #[.int .i64 (X : Int), .int .i64 (Y : Int), .bool dn] 40 + MS.all w))) (by ac_rfl)).left)
        refine ⟨_, rfl, fun _ => ⟨x0, x1, x2, q0⟩, ?_⟩
        simp only [Act.put, List.setIfInBounds_toArray, List.set_cons_zero, List.set_cons_succ]
        clear k42 hq hS
        have hS : (fun W' : World => W'.cell? ⟨b7, 0, none⟩ = some (.int .i64 (X : Int)) ∧ W'.cell? ⟨b7, 1, none⟩ = some (.int .i64 (Y : Int)) ∧ W'.cell? ⟨b7, 2, none⟩ = some (.bool dn) ∧ W'.cell? ⟨b4, o4, none⟩ = some (.slice (some ⟨bz, oz, none⟩) WN cz)) w42 := ⟨x0, x1, x2, q0⟩
        clear x0 x1 x2 q0
        repeat (first
          | (refine txt_off hS rfl rfl ?_; simp only [Act.put, List.setIfInBounds_toArray, List.set_cons_zero, List.set_cons_succ])
          | (refine txt_quiet ?_ hS rfl rfl (fun W hW => ?_) ?_
             rotate_left 1
             · obtain ⟨hW1, hW2, hW3, hW4⟩ := hW
               go_simp
               exact rfl
             simp only [Act.put, List.setIfInBounds_toArray, List.set_cons_zero, List.set_cons_succ]))
        refine txt_done ?_
        try simp only [Act.put]
        go_wp2
        go_ret
        exact ⟨by first | rfl | (rw [hno.out]; rfl), fun M hM => hM.of_all ((H42.out.eq (b := blk b7 #[.int .i64 (X : Int), .int .i64 (Y : Int), .bool dn] 40 + m4 + MS.all w) (by ac_rfl))), E42.out⟩
      | true =>
        have goX := hid (fits_in hfit).1
        have goY := hid (fits_in hfit).2
        obtain ⟨bz, oz, cz, z0, hcz, _⟩ := grid_row (HG.out.rd) (gridK_ok f WN HN) hW1 hH1
        rw [Nat.add_zero] at z0
        have Z0 := hid z0
        clear z0
        have q0 := (Z0.out).c0 ((H41.out.eq (b := (m4 + (blk b7 #[.int .i64 (X : Int), .int .i64 (Y : Int), .bool dn] 40 + MS.all w))) (by ac_rfl)).left)
        have x0 := (H41.out.eq (b := (blk b7 #[.int .i64 (X : Int), .int .i64 (Y : Int), .bool dn] 40 + (m4 + MS.all w))) (by ac_rfl)).at_ (i := 0) rfl
        have x1 := (H41.out.eq (b := (blk b7 #[.int .i64 (X : Int), .int .i64 (Y : Int), .bool dn] 40 + (m4 + MS.all w))) (by ac_rfl)).at_ (i := 1) rfl
        have x2 := (H41.out.eq (b := (blk b7 #[.int .i64 (X : Int), .int .i64 (Y : Int), .bool dn] 40 + (m4 + MS.all w))) (by ac_rfl)).at_ (i := 2) rfl
        have hS : (fun W' : World => W'.cell? ⟨b7, 0, none⟩ = some (.int .i64 (X : Int)) ∧ W'.cell? ⟨b7, 1, none⟩ = some (.int .i64 (Y : Int)) ∧ W'.cell? ⟨b7, 2, none⟩ = some (.bool dn) ∧ W'.cell? ⟨b4, o4, none⟩ = some (.slice (some ⟨bz, oz, none⟩) WN cz)) w41.drew := ⟨x0, x1, x2, q0⟩
        clear x0 x1 x2 q0
        refine wp_region_txt (fun W' => W'.cell? ⟨b7, 0, none⟩ = some (.int .i64 (X : Int)) ∧ W'.cell? ⟨b7, 1, none⟩ = some (.int .i64 (Y : Int)) ∧ W'.cell? ⟨b7, 2, none⟩ = some (.bool dn) ∧ W'.cell? ⟨b4, o4, none⟩ = some (.slice (some ⟨bz, oz, none⟩) WN cz)) none
          [(0, true), (1, true), (2, true), (3, true), (4, true), (5, true), (6, true), (7, true), (8, true), (9, true), (10, true), (11, true), (12, true), (13, true), (14, true), (15, true), (16, true), (17, true), (18, true), (19, true), (20, true), (21, true), (22, true), (23, true), (24, true), (25, true), (26, true), (27, false), (28, true), (29, true)] (by kernel_rfl) rfl (by kernel_rfl) (by kernel_rfl) (by repeat (first | with_reducible refine PanicOk.thn ?_ | with_reducible refine PanicOk.blk ?_ | exact PanicOk.body _ _ _)) ?_
        repeat (first
          | (refine txt_off hS rfl rfl ?_; simp only [Act.put, List.setIfInBounds_toArray, List.set_cons_zero, List.set_cons_succ])
          | (refine txt_quiet ?_ hS rfl rfl (fun W hW => ?_) ?_
             rotate_left 1
             · obtain ⟨hW1, hW2, hW3, hW4⟩ := hW
               go_simp
               exact rfl
             simp only [Act.put, List.setIfInBounds_toArray, List.set_cons_zero, List.set_cons_succ]))
        refine txt_op rfl rfl ?_
        have hq := Hfits.out w41.drew f b4 o4 c4 m4 HG.out ((H41.out.eq (b := (m4 + (blk b7 #[.int .i64 (X : Int), .int .i64 (Y : Int), .bool dn] 40 + MS.all w))) (by ac_rfl)).left.drew) X Y hXW hYH dn
        rw [hfit] at hq
        refine op_call 59 _ _ (by go_simp) _ hq ?_
        rintro e42 w42 ⟨rfl, k42⟩
        have H42 := hid (k42.1 _ H41.out.drew)
        have E42 := hid ((E41.out.trans (Ext.drew _)).trans k42.2)
        have x0 := (H42.out.eq (b := (blk b7 #[.int .i64 (X : Int), .int .i64 (Y : Int), .bool dn] 40 + (m4 + MS.all w))) (by ac_rfl)).at_ (i := 0) rfl
        have x1 := (H42.out.eq (b := (blk b7 #[.int .i64 (X : Int), .int .i64 (Y : Int), .bool dn] 40 + (m4 + MS.all w))) (by ac_rfl)).at_ (i := 1) rfl
        have x2 := (H42.out.eq (b := (blk b7 #[.int .i64 (X : Int), .int .i64 (Y : Int), .bool dn] 40 + (m4 + MS.all w))) (by ac_rfl)).at_ (i := 2) rfl
        have q0 := (Z0.out).c0 ((H42.out.eq (b := (m4 + (blk b7 #[.int .i64 (X : Int), .int .i64 (Y : Int), .bool dn] 40 + MS.all w))) (by ac_rfl)).left)
        refine ⟨_, rfl, fun _ => ⟨x0, x1, x2, q0⟩, ?_⟩
        simp only [Act.put, List.setIfInBounds_toArray, List.set_cons_zero, List.set_cons_succ]
        clear k42 hq hS
        have hS : (fun W' : World => W'.cell? ⟨b7, 0, none⟩ = some (.int .i64 (X : Int)) ∧ W'.cell? ⟨b7, 1, none⟩ = some (.int .i64 (Y : Int)) ∧ W'.cell? ⟨b7, 2, none⟩ = some (.bool dn) ∧ W'.cell? ⟨b4, o4, none⟩ = some (.slice (some ⟨bz, oz, none⟩) WN cz)) w42 := ⟨x0, x1, x2, q0⟩
        clear x0 x1 x2 q0
        repeat (first
          | (refine txt_off hS rfl rfl ?_; simp only [Act.put, List.setIfInBounds_toArray, List.set_cons_zero, List.set_cons_succ])
          | (refine txt_quiet ?_ hS rfl rfl (fun W hW => ?_) ?_
             rotate_left 1
             · obtain ⟨hW1, hW2, hW3, hW4⟩ := hW
               go_simp
               exact rfl
             simp only [Act.put, List.setIfInBounds_toArray, List.set_cons_zero, List.set_cons_succ]))
        refine txt_done ?_
        try simp only [Act.put]
        go_wp2
        by_cases hi0 : i = 0
        · subst hi0
          have hord : ordB (prevD t 0) ((X : Int), (Y : Int), dn) = true := by rfl
          have Hnext := hid (show isT WN HN (takF f X Y dn) (prevD t (0 + 1)) (t.drop (0 + 1)) = R by
            rw [Hprev.out, Hmore.out]
            unfold okD
            rw [decide_eq_true (by simp only; omega)]
            simp only [Int.toNat_natCast, hfit, Bool.true_and]
            rw [hord, Bool.true_and]
            unfold takD
            simp only [Int.toNat_natCast])
          clear hord hfit
          have x0 := (H42.out.eq (b := (blk b7 #[.int .i64 (X : Int), .int .i64 (Y : Int), .bool dn] 40 + (m4 + MS.all w))) (by ac_rfl)).at_ (i := 0) rfl
          have x1 := (H42.out.eq (b := (blk b7 #[.int .i64 (X : Int), .int .i64 (Y : Int), .bool dn] 40 + (m4 + MS.all w))) (by ac_rfl)).at_ (i := 1) rfl
          have hS : (fun W' : World => W'.cell? ⟨b7, 0, none⟩ = some (.int .i64 (X : Int)) ∧ W'.cell? ⟨b7, 1, none⟩ = some (.int .i64 (Y : Int))) w42.drew := ⟨x0, x1⟩
          clear x0 x1
          refine wp_region_txt (fun W' => W'.cell? ⟨b7, 0, none⟩ = some (.int .i64 (X : Int)) ∧ W'.cell? ⟨b7, 1, none⟩ = some (.int .i64 (Y : Int))) none
            [(0, true), (1, true), (2, true), (3, true), (4, true), (5, true), (6, true), (7, true), (8, true), (9, true), (10, true), (11, true), (12, true), (13, true), (14, true), (15, true), (16, true), (17, true), (18, true), (19, true), (20, true), (21, true), (22, true), (23, true), (24, true), (25, true), (26, true), (27, true), (28, true), (29, true), (30, true), (31, true), (32, true), (33, true), (34, true)] (by kernel_rfl) rfl (by kernel_rfl) (by kernel_rfl) (by repeat (first | with_reducible refine PanicOk.thn ?_ | with_reducible refine PanicOk.blk ?_ | exact PanicOk.body _ _ _)) ?_
          repeat (first
            | (refine txt_off hS rfl rfl ?_; simp only [Act.put, List.setIfInBounds_toArray, List.set_cons_zero, List.set_cons_succ])
            | (refine txt_quiet ?_ hS rfl rfl (fun W hW => ?_) ?_
               rotate_left 1
               · obtain ⟨hW1, hW2⟩ := hW
                 go_simp
                 exact rfl
               simp only [Act.put, List.setIfInBounds_toArray, List.set_cons_zero, List.set_cons_succ]))
          refine txt_done ?_
          try simp only [Act.put]
          have HD := hid (show Has w42.drew (blk b7 #[.int .i64 (X : Int), .int .i64 (Y : Int), .bool dn] 40 + (m4 + MS.all w)) from H42.out.drew)
          have ED := hid (E42.out.trans (Ext.drew w42))
          have x0 := (HD.out.eq (b := (blk b7 #[.int .i64 (X : Int), .int .i64 (Y : Int), .bool dn] 40 + (m4 + MS.all w))) (by ac_rfl)).at_ (i := 0) rfl
          have x1 := (HD.out.eq (b := (blk b7 #[.int .i64 (X : Int), .int .i64 (Y : Int), .bool dn] 40 + (m4 + MS.all w))) (by ac_rfl)).at_ (i := 1) rfl
          have x2 := (HD.out.eq (b := (blk b7 #[.int .i64 (X : Int), .int .i64 (Y : Int), .bool dn] 40 + (m4 + MS.all w))) (by ac_rfl)).at_ (i := 2) rfl
          go_wp2_with (go_at_call 60; refine (Htak.out w42.drew f b4 o4 c4 m4 HG.out ((HD.out.eq (b := (m4 + (blk b7 #[.int .i64 (X : Int), .int .i64 (Y : Int), .bool dn] 40 + MS.all w))) (by ac_rfl)).left) X Y hXW hYH dn goX.out goY.out).mono ?_; rintro e61 w61 ⟨b7n, o7, c7, m7, rfl, hc7, G7, k61, l61⟩; have H61 := hid (k61 _ HD.out); have E61 := hid (ED.out.trans l61); clear k61 l61; have G7 := hid G7)
          go_roundw
          case rel => exact ⟨1, b7n, o7, c7, _, m7, Hlt.out, by go_num, rfl, hc7, fun x y h => Hin2.out x y (takF_in h), Hnext.out, G7.out, (H61.out.eq (b := m7 + MS.all w + (blk b7 #[.int .i64 (X : Int), .int .i64 (Y : Int), .bool dn] 40 + m4)) (by ac_rfl)).left, E61.out⟩
          case measure => have := Hlt.out; simp [intOf]; omega
        · obtain ⟨j, rfl⟩ : ∃ j, i = j + 1 := ⟨i - 1, by omega⟩
          obtain ⟨e, he⟩ : ∃ e, t[j]? = some e := ⟨_, List.getElem?_eq_getElem (by have h1 := Hlt.out; have h2 := HTN.out; omega)⟩
          obtain ⟨bt', ot', hB, e0, e1, _⟩ := Htd.out j e he
          injection hB with hB; injection hB with e2 e3
          subst e2; subst e3
          have hpv : prevD t (j + 1) = some e := by unfold prevD; rw [if_neg (by omega), Nat.add_sub_cancel]; exact he
          obtain ⟨ex, ey, en⟩ := e
          simp only at e0 e1
          have Hp := hid (fun (W : World) (X : MS) (h : Has W (X + MS.all w)) => show W.cell? ⟨bt, ot + j * 3, none⟩ = some (.int .i64 ex) ∧ W.cell? ⟨bt, ot + j * 3 + 1, none⟩ = some (.int .i64 ey) from ⟨e0.c0 (HaF.out W X h), e1.c0 (HaF.out W X h)⟩)
          have hjI : (j : Int) < TN := by have := Hlt.out; omega
          have hj1 : (j : Int) ≤ 1000 := by omega
          have hjw : IntKind.i64.wrap (j : Int) = (j : Int) := by rw [IntKind.wrap_i64]; omega
          clear hi0
          by_cases h1 : (Y : Int) < ey
          · have hord : ordB (prevD t (j + 1)) ((X : Int), (Y : Int), dn) = false := by rw [hpv]; unfold ordB; simp only; simp [h1]
            have hno := hid (show R = false by
              rw [Hmore.out]
              unfold okD
              simp only [Int.toNat_natCast, hfit, Bool.true_and]
              rw [hord]; simp)
            clear hord hfit hpv he e0 e1
            have x0 := (H42.out.eq (b := (blk b7 #[.int .i64 (X : Int), .int .i64 (Y : Int), .bool dn] 40 + (m4 + MS.all w))) (by ac_rfl)).at_ (i := 0) rfl
            have x1 := (H42.out.eq (b := (blk b7 #[.int .i64 (X : Int), .int .i64 (Y : Int), .bool dn] 40 + (m4 + MS.all w))) (by ac_rfl)).at_ (i := 1) rfl
            obtain ⟨p0, p1⟩ := Hp.out w42 _ ((H42.out.eq (b := (blk b7 #[.int .i64 (X : Int), .int .i64 (Y : Int), .bool dn] 40 + m4) + MS.all w) (by ac_rfl)))
            have hS : (fun W' : World => W'.cell? ⟨b7, 0, none⟩ = some (.int .i64 (X : Int)) ∧ W'.cell? ⟨b7, 1, none⟩ = some (.int .i64 (Y : Int)) ∧ W'.cell? ⟨bt, ot + j * 3, none⟩ = some (.int .i64 ex) ∧ W'.cell? ⟨bt, ot + j * 3 + 1, none⟩ = some (.int .i64 ey)) w42.drew := ⟨x0, x1, p0, p1⟩
            clear x0 x1 p0 p1
            refine wp_region_txt (fun W' => W'.cell? ⟨b7, 0, none⟩ = some (.int .i64 (X : Int)) ∧ W'.cell? ⟨b7, 1, none⟩ = some (.int .i64 (Y : Int)) ∧ W'.cell? ⟨bt, ot + j * 3, none⟩ = some (.int .i64 ex) ∧ W'.cell? ⟨bt, ot + j * 3 + 1, none⟩ = some (.int .i64 ey)) none
              [(0, true), (1, true), (2, true), (3, true), (4, true), (5, true), (6, true), (7, true), (8, true), (9, true), (10, true), (11, true), (12, true), (13, true), (14, true), (15, true), (16, true), (17, true), (18, true), (19, true), (20, true), (21, true), (22, true), (23, true), (24, true), (25, true), (26, true), (27, true), (28, true), (29, true), (30, true), (31, true), (32, true), (33, true), (34, true)] (by kernel_rfl) rfl (by kernel_rfl) (by kernel_rfl) (by repeat (first | with_reducible refine PanicOk.thn ?_ | with_reducible refine PanicOk.blk ?_ | exact PanicOk.body _ _ _)) ?_
            repeat (first
              | (refine txt_off hS rfl rfl ?_; simp only [Act.put, List.setIfInBounds_toArray, List.set_cons_zero, List.set_cons_succ])
              | (refine txt_quiet ?_ hS rfl rfl (fun W hW => ?_) ?_
                 rotate_left 1
                 · obtain ⟨hW1, hW2, hW3, hW4⟩ := hW
                   go_simp
                   exact rfl
                 simp only [Act.put, List.setIfInBounds_toArray, List.set_cons_zero, List.set_cons_succ]))
            refine txt_done ?_
            try simp only [Act.put]
            go_wp2
            go_ret
            exact ⟨by first | rfl | (rw [hno.out]; rfl), fun M hM => hM.of_all ((H42.out.eq (b := blk b7 #[.int .i64 (X : Int), .int .i64 (Y : Int), .bool dn] 40 + m4 + MS.all w) (by ac_rfl))), E42.out.trans (Ext.drew _)⟩
          · by_cases h2 : ey = (Y : Int)
            · by_cases h3 : (X : Int) ≤ ex
              · have h1n : ¬ (ey > (Y : Int)) := h1
                have hord : ordB (prevD t (j + 1)) ((X : Int), (Y : Int), dn) = false := by rw [hpv]; unfold ordB; simp only; simp [h1, h2, h3]
                have hno := hid (show R = false by
                  rw [Hmore.out]
                  unfold okD
                  simp only [Int.toNat_natCast, hfit, Bool.true_and]
                  rw [hord]; simp)
                clear hord hfit hpv he e0 e1
                have x0 := (H42.out.eq (b := (blk b7 #[.int .i64 (X : Int), .int .i64 (Y : Int), .bool dn] 40 + (m4 + MS.all w))) (by ac_rfl)).at_ (i := 0) rfl
                have x1 := (H42.out.eq (b := (blk b7 #[.int .i64 (X : Int), .int .i64 (Y : Int), .bool dn] 40 + (m4 + MS.all w))) (by ac_rfl)).at_ (i := 1) rfl
                obtain ⟨p0, p1⟩ := Hp.out w42 _ ((H42.out.eq (b := (blk b7 #[.int .i64 (X : Int), .int .i64 (Y : Int), .bool dn] 40 + m4) + MS.all w) (by ac_rfl)))
                have hS : (fun W' : World => W'.cell? ⟨b7, 0, none⟩ = some (.int .i64 (X : Int)) ∧ W'.cell? ⟨b7, 1, none⟩ = some (.int .i64 (Y : Int)) ∧ W'.cell? ⟨bt, ot + j * 3, none⟩ = some (.int .i64 ex) ∧ W'.cell? ⟨bt, ot + j * 3 + 1, none⟩ = some (.int .i64 ey)) w42.drew := ⟨x0, x1, p0, p1⟩
                clear x0 x1 p0 p1
                refine wp_region_txt (fun W' => W'.cell? ⟨b7, 0, none⟩ = some (.int .i64 (X : Int)) ∧ W'.cell? ⟨b7, 1, none⟩ = some (.int .i64 (Y : Int)) ∧ W'.cell? ⟨bt, ot + j * 3, none⟩ = some (.int .i64 ex) ∧ W'.cell? ⟨bt, ot + j * 3 + 1, none⟩ = some (.int .i64 ey)) none
                  [(0, true), (1, true), (2, true), (3, true), (4, true), (5, true), (6, true), (7, true), (8, true), (9, true), (10, true), (11, true), (12, true), (13, true), (14, true), (15, true), (16, true), (17, true), (18, true), (19, true), (20, true), (21, true), (22, true), (23, true), (24, true), (25, true), (26, true), (27, true), (28, true), (29, true), (30, true), (31, true), (32, true), (33, true), (34, true)] (by kernel_rfl) rfl (by kernel_rfl) (by kernel_rfl) (by repeat (first | with_reducible refine PanicOk.thn ?_ | with_reducible refine PanicOk.blk ?_ | exact PanicOk.body _ _ _)) ?_
                repeat (first
                  | (refine txt_off hS rfl rfl ?_; simp only [Act.put, List.setIfInBounds_toArray, List.set_cons_zero, List.set_cons_succ])
                  | (refine txt_quiet ?_ hS rfl rfl (fun W hW => ?_) ?_
                     rotate_left 1
                     · obtain ⟨hW1, hW2, hW3, hW4⟩ := hW
                       go_simp
                       exact rfl
                     simp only [Act.put, List.setIfInBounds_toArray, List.set_cons_zero, List.set_cons_succ]))
                refine txt_done ?_
                try simp only [Act.put]
                go_wp2
                go_ret
                exact ⟨by first | rfl | (rw [hno.out]; rfl), fun M hM => hM.of_all ((H42.out.eq (b := blk b7 #[.int .i64 (X : Int), .int .i64 (Y : Int), .bool dn] 40 + m4 + MS.all w) (by ac_rfl))), E42.out.trans (Ext.drew _)⟩
              · have h1n : ¬ (ey > (Y : Int)) := h1
                have hord : ordB (prevD t (j + 1)) ((X : Int), (Y : Int), dn) = true := by rw [hpv]; unfold ordB; simp only; simp [h1, h2, h3]
                have Hnext := hid (show isT WN HN (takF f X Y dn) (prevD t ((j + 1) + 1)) (t.drop ((j + 1) + 1)) = R by
                  rw [Hprev.out, Hmore.out]
                  unfold okD
                  rw [decide_eq_true (by simp only; omega)]
                  simp only [Int.toNat_natCast, hfit, Bool.true_and]
                  rw [hord, Bool.true_and]
                  unfold takD
                  simp only [Int.toNat_natCast])
                clear hord hfit hpv he e0 e1
                have x0 := (H42.out.eq (b := (blk b7 #[.int .i64 (X : Int), .int .i64 (Y : Int), .bool dn] 40 + (m4 + MS.all w))) (by ac_rfl)).at_ (i := 0) rfl
                have x1 := (H42.out.eq (b := (blk b7 #[.int .i64 (X : Int), .int .i64 (Y : Int), .bool dn] 40 + (m4 + MS.all w))) (by ac_rfl)).at_ (i := 1) rfl
                obtain ⟨p0, p1⟩ := Hp.out w42 _ ((H42.out.eq (b := (blk b7 #[.int .i64 (X : Int), .int .i64 (Y : Int), .bool dn] 40 + m4) + MS.all w) (by ac_rfl)))
                have hS : (fun W' : World => W'.cell? ⟨b7, 0, none⟩ = some (.int .i64 (X : Int)) ∧ W'.cell? ⟨b7, 1, none⟩ = some (.int .i64 (Y : Int)) ∧ W'.cell? ⟨bt, ot + j * 3, none⟩ = some (.int .i64 ex) ∧ W'.cell? ⟨bt, ot + j * 3 + 1, none⟩ = some (.int .i64 ey)) w42.drew := ⟨x0, x1, p0, p1⟩
                clear x0 x1 p0 p1
                refine wp_region_txt (fun W' => W'.cell? ⟨b7, 0, none⟩ = some (.int .i64 (X : Int)) ∧ W'.cell? ⟨b7, 1, none⟩ = some (.int .i64 (Y : Int)) ∧ W'.cell? ⟨bt, ot + j * 3, none⟩ = some (.int .i64 ex) ∧ W'.cell? ⟨bt, ot + j * 3 + 1, none⟩ = some (.int .i64 ey)) none
                  [(0, true), (1, true), (2, true), (3, true), (4, true), (5, true), (6, true), (7, true), (8, true), (9, true), (10, true), (11, true), (12, true), (13, true), (14, true), (15, true), (16, true), (17, true), (18, true), (19, true), (20, true), (21, true), (22, true), (23, true), (24, true), (25, true), (26, true), (27, true), (28, true), (29, true), (30, true), (31, true), (32, true), (33, true), (34, true)] (by kernel_rfl) rfl (by kernel_rfl) (by kernel_rfl) (by repeat (first | with_reducible refine PanicOk.thn ?_ | with_reducible refine PanicOk.blk ?_ | exact PanicOk.body _ _ _)) ?_
                repeat (first
                  | (refine txt_off hS rfl rfl ?_; simp only [Act.put, List.setIfInBounds_toArray, List.set_cons_zero, List.set_cons_succ])
                  | (refine txt_quiet ?_ hS rfl rfl (fun W hW => ?_) ?_
                     rotate_left 1
                     · obtain ⟨hW1, hW2, hW3, hW4⟩ := hW
                       go_simp
                       exact rfl
                     simp only [Act.put, List.setIfInBounds_toArray, List.set_cons_zero, List.set_cons_succ]))
                refine txt_done ?_
                try simp only [Act.put]
                have HD := hid (show Has w42.drew (blk b7 #[.int .i64 (X : Int), .int .i64 (Y : Int), .bool dn] 40 + (m4 + MS.all w)) from H42.out.drew)
                have ED := hid (E42.out.trans (Ext.drew w42))
                have x0 := (HD.out.eq (b := (blk b7 #[.int .i64 (X : Int), .int .i64 (Y : Int), .bool dn] 40 + (m4 + MS.all w))) (by ac_rfl)).at_ (i := 0) rfl
                have x1 := (HD.out.eq (b := (blk b7 #[.int .i64 (X : Int), .int .i64 (Y : Int), .bool dn] 40 + (m4 + MS.all w))) (by ac_rfl)).at_ (i := 1) rfl
                have x2 := (HD.out.eq (b := (blk b7 #[.int .i64 (X : Int), .int .i64 (Y : Int), .bool dn] 40 + (m4 + MS.all w))) (by ac_rfl)).at_ (i := 2) rfl
                go_wp2_with (go_at_call 60; refine (Htak.out w42.drew f b4 o4 c4 m4 HG.out ((HD.out.eq (b := (m4 + (blk b7 #[.int .i64 (X : Int), .int .i64 (Y : Int), .bool dn] 40 + MS.all w))) (by ac_rfl)).left) X Y hXW hYH dn goX.out goY.out).mono ?_; rintro e61 w61 ⟨b7n, o7, c7, m7, rfl, hc7, G7, k61, l61⟩; have H61 := hid (k61 _ HD.out); have E61 := hid (ED.out.trans l61); clear k61 l61; have G7 := hid G7)
                go_roundw
                case rel => exact ⟨(j + 1) + 1, b7n, o7, c7, _, m7, Hlt.out, by go_num, rfl, hc7, fun x y h => Hin2.out x y (takF_in h), Hnext.out, G7.out, (H61.out.eq (b := m7 + MS.all w + (blk b7 #[.int .i64 (X : Int), .int .i64 (Y : Int), .bool dn] 40 + m4)) (by ac_rfl)).left, E61.out⟩
                case measure => have := Hlt.out; simp [intOf]; omega
            · have h2b : (ey == (Y : Int)) = false := by rw [beq_eq_false_iff_ne]; exact h2
              have hord : ordB (prevD t (j + 1)) ((X : Int), (Y : Int), dn) = true := by rw [hpv]; unfold ordB; simp only; rw [decide_eq_false h1, decide_eq_false (fun h => h2 h.symm)]; rfl
              have Hnext := hid (show isT WN HN (takF f X Y dn) (prevD t ((j + 1) + 1)) (t.drop ((j + 1) + 1)) = R by
                rw [Hprev.out, Hmore.out]
                unfold okD
                rw [decide_eq_true (by simp only; omega)]
                simp only [Int.toNat_natCast, hfit, Bool.true_and]
                rw [hord, Bool.true_and]
                unfold takD
                simp only [Int.toNat_natCast])
              clear hord hfit hpv he e0 e1
              have x0 := (H42.out.eq (b := (blk b7 #[.int .i64 (X : Int), .int .i64 (Y : Int), .bool dn] 40 + (m4 + MS.all w))) (by ac_rfl)).at_ (i := 0) rfl
              have x1 := (H42.out.eq (b := (blk b7 #[.int .i64 (X : Int), .int .i64 (Y : Int), .bool dn] 40 + (m4 + MS.all w))) (by ac_rfl)).at_ (i := 1) rfl
              obtain ⟨p0, p1⟩ := Hp.out w42 _ ((H42.out.eq (b := (blk b7 #[.int .i64 (X : Int), .int .i64 (Y : Int), .bool dn] 40 + m4) + MS.all w) (by ac_rfl)))
              have hS : (fun W' : World => W'.cell? ⟨b7, 0, none⟩ = some (.int .i64 (X : Int)) ∧ W'.cell? ⟨b7, 1, none⟩ = some (.int .i64 (Y : Int)) ∧ W'.cell? ⟨bt, ot + j * 3, none⟩ = some (.int .i64 ex) ∧ W'.cell? ⟨bt, ot + j * 3 + 1, none⟩ = some (.int .i64 ey)) w42.drew := ⟨x0, x1, p0, p1⟩
              clear x0 x1 p0 p1
              refine wp_region_txt (fun W' => W'.cell? ⟨b7, 0, none⟩ = some (.int .i64 (X : Int)) ∧ W'.cell? ⟨b7, 1, none⟩ = some (.int .i64 (Y : Int)) ∧ W'.cell? ⟨bt, ot + j * 3, none⟩ = some (.int .i64 ex) ∧ W'.cell? ⟨bt, ot + j * 3 + 1, none⟩ = some (.int .i64 ey)) none
                [(0, true), (1, true), (2, true), (3, true), (4, true), (5, true), (6, true), (7, true), (8, true), (9, true), (10, true), (11, true), (12, true), (13, true), (14, true), (15, true), (16, true), (17, true), (18, true), (19, true), (20, true), (21, true), (22, true), (23, true), (24, true), (25, true), (26, true), (27, true), (28, true), (29, true), (30, true), (31, true), (32, true), (33, true), (34, true)] (by kernel_rfl) rfl (by kernel_rfl) (by kernel_rfl) (by repeat (first | with_reducible refine PanicOk.thn ?_ | with_reducible refine PanicOk.blk ?_ | exact PanicOk.body _ _ _)) ?_
              repeat (first
                | (refine txt_off hS rfl rfl ?_; simp only [Act.put, List.setIfInBounds_toArray, List.set_cons_zero, List.set_cons_succ])
                | (refine txt_quiet ?_ hS rfl rfl (fun W hW => ?_) ?_
                   rotate_left 1
                   · obtain ⟨hW1, hW2, hW3, hW4⟩ := hW
                     go_simp
                     exact rfl
                   simp only [Act.put, List.setIfInBounds_toArray, List.set_cons_zero, List.set_cons_succ]))
              refine txt_done ?_
              try simp only [Act.put]
              have HD := hid (show Has w42.drew (blk b7 #[.int .i64 (X : Int), .int .i64 (Y : Int), .bool dn] 40 + (m4 + MS.all w)) from H42.out.drew)
              have ED := hid (E42.out.trans (Ext.drew w42))
              have x0 := (HD.out.eq (b := (blk b7 #[.int .i64 (X : Int), .int .i64 (Y : Int), .bool dn] 40 + (m4 + MS.all w))) (by ac_rfl)).at_ (i := 0) rfl
              have x1 := (HD.out.eq (b := (blk b7 #[.int .i64 (X : Int), .int .i64 (Y : Int), .bool dn] 40 + (m4 + MS.all w))) (by ac_rfl)).at_ (i := 1) rfl
              have x2 := (HD.out.eq (b := (blk b7 #[.int .i64 (X : Int), .int .i64 (Y : Int), .bool dn] 40 + (m4 + MS.all w))) (by ac_rfl)).at_ (i := 2) rfl
              go_wp2_with (go_at_call 60; refine (Htak.out w42.drew f b4 o4 c4 m4 HG.out ((HD.out.eq (b := (m4 + (blk b7 #[.int .i64 (X : Int), .int .i64 (Y : Int), .bool dn] 40 + MS.all w))) (by ac_rfl)).left) X Y hXW hYH dn goX.out goY.out).mono ?_; rintro e61 w61 ⟨b7n, o7, c7, m7, rfl, hc7, G7, k61, l61⟩; have H61 := hid (k61 _ HD.out); have E61 := hid (ED.out.trans l61); clear k61 l61; have G7 := hid G7)
              go_roundw
              case rel => exact ⟨(j + 1) + 1, b7n, o7, c7, _, m7, Hlt.out, by go_num, rfl, hc7, fun x y h => Hin2.out x y (takF_in h), Hnext.out, G7.out, (H61.out.eq (b := m7 + MS.all w + (blk b7 #[.int .i64 (X : Int), .int .i64 (Y : Int), .bool dn] 40 + m4)) (by ac_rfl)).left, E61.out⟩
              case measure => have := Hlt.out; simp [intOf]; omega
    · have hie : i = TN := by omega
      subst hie
      have hfin : R = decide (allF WN HN f) := by
        rw [← HRi.out, List.drop_eq_nil_iff.2 (by rw [HTN.out]; exact Nat.le_refl _)]; rfl
      have Hfin := hid hfin
      clear hlt hi hfin
      go_wp2
      go_loopw [8] (fun v8 wr => ∃ y : Nat, y ≤ HN ∧ v8 = .int .i64 y ∧ (∀ x' y', x' < WN → y' < y → f x' y' = false) ∧ Has wr (m4 + MS.all w) ∧ Ext w wr) (fun v _ => HN - (intOf v).toNat)
      case atStart => exact ⟨0, Nat.zero_le _, rfl, fun x' y' h h2 => by omega, HW.out, HE.out⟩
      case round =>
        clear HW HE
        obtain ⟨y, hy, rfl, hall, hW, hE⟩ := hrel
        have HW := hid hW
        have HE := hid hE
        have Hall := hid hall
        clear hW hE hall
        by_cases hly : y < HN
        · have hlyI : (y : Int) < HN := by omega
          have Hy := hid hly
          obtain ⟨b2, o2, c2, hc2, q0, q1⟩ := Hcell.out wr f b4 o4 c4 m4 HG.out HW.out.left y hly
          clear hly hy
          go_wp2
          go_loopw [9] (fun v9 wq => ∃ x : Nat, x ≤ WN ∧ v9 = .int .i64 x ∧ (∀ x', x' < x → f x' y = false) ∧ wq = wr) (fun v _ => WN - (intOf v).toNat)
          case atStart => exact ⟨0, Nat.zero_le _, rfl, fun x' h => by omega, rfl⟩
          case round =>
            obtain ⟨x, hx, rfl, hrow, rfl⟩ := hrel
            have Hrow := hid hrow
            clear hrow
            by_cases hlx : x < WN
            · have hlxI : (x : Int) < WN := by omega
              have Hx := hid hlx
              have q2 := q1 x hlx
              clear hlx hx
              cases hf : f x y with
              | true =>
                rw [hf] at q2
                have hno := hid (show R = false by rw [Hfin.out]; exact decide_eq_false fun h => by rw [h x y Hx.out Hy.out] at hf; cases hf)
                clear hf
                go_wp2
                go_ret
                exact ⟨by rw [hno.out]; rfl, fun M hM => hM.of_all HW.out, HE.out⟩
              | false =>
                rw [hf] at q2
                have Hrow2 := hid (fun x' (h : x' < x + 1) => show f x' y = false from by
                  by_cases e : x' = x
                  · subst e; exact hf
                  · exact Hrow.out x' (by omega))
                clear hf
                go_wp2
                go_roundw
                case rel => exact ⟨x + 1, Hx.out, by go_num, Hrow2.out, by first | rfl | trivial⟩
                case measure => have := Hx.out; simp [intOf]; omega
            · have hxe : x = WN := by omega
              subst hxe
              have Hall2 := hid (fun x' y' (h1 : x' < x) (h2 : y' < y + 1) => show f x' y' = false from by
                by_cases e : y' = y
                · subst e; exact Hrow.out x' h1
                · exact Hall.out x' y' h1 (by omega))
              clear hlx hx
              go_wp2
              go_roundw
              case rel => exact ⟨y + 1, Hy.out, by go_num, Hall2.out, HW.out, HE.out⟩
              case measure => have := Hy.out; simp [intOf]; omega
        · have hye : y = HN := by omega
          subst hye
          have hyes := hid (show R = true by rw [Hfin.out]; exact decide_eq_true fun x' y' h1 h2 => Hall.out x' y' h1 h2)
          clear hly hy
          go_wp2
          go_ret
          exact ⟨by rw [hyes.out]; rfl, fun M hM => hM.of_all HW.out, HE.out⟩
theorem refis_any {F : MS} {p : List ByteArray} {A : Option Addr} {c : Nat} {t : List Dom} {B : Option Addr} {ct : Nat} {w : World} (hr : RdS F RT.str p (.slice A p.length c)) (hl : p.length ≤ 1000) (hs : ∀ s ∈ p, s.size ≤ 1000000) (ht : RdS F RT.dom t (.slice B t.length ct)) (htl : t.length ≤ 1000) (hH : Has w F) :
    Calls Tryd.prog 25 #[.slice A p.length c, .slice B t.length ct] w fun e w' => e = .returned (.tuple #[.bool (isReg p && isT (wd p) p.length (hsR p) none t), .int .i64 (cntE p)]) ∧ Kp w w' := by
  have Hreg := hid (region_kp hr hl hs hH)
  cases hq : isReg p with
  | false =>
    rw [hq] at Hreg
    have HC := hid (show cntE p = 2 by unfold cntE; rw [hq]; rfl)
    rw [HC.out]
    clear hl hs hr hH hq ht htl
    go_enter Tryd.func25, Tryd.ntmps25
    go_wp2_with (go_at_call 28; refine Hreg.out.mono ?_; rintro e1 w1 ⟨rfl, k1⟩; have K1 := hid k1; clear k1)
    go_ret2
    exact ⟨rfl, K1.out⟩
  | true =>
    rw [hq] at Hreg
    have HC := hid (show cntE p = 0 by unfold cntE; rw [hq]; rfl)
    rw [HC.out]
    have HH := hid hH
    have Hist := hid (fun (W : World) (h : Has W F) => istil_any hr (isReg.ok hq).1 ht htl h)
    clear hl hs hr hH hq ht htl
    go_enter Tryd.func25, Tryd.ntmps25
    go_wp2_with (first
      | (go_at_call 28; refine Hreg.out.mono ?_; rintro e1 w1 ⟨rfl, k1⟩; have K1 := hid k1; clear k1)
      | (go_at_call 63; refine (Hist.out w1 (K1.out.1 _ HH.out)).mono ?_; rintro e2 w2 ⟨rfl, k2⟩; have K2 := hid (K1.out.trans k2); clear k2))
    go_ret2
    exact ⟨by rw [Bool.true_and]; rfl, K2.out⟩
end Go.Proofs.YtcdhimnmbpllgaaDoor

/-
  Lists of dominoes, read. The walk of Is (24) (printed by gen_is.py).
-/
import Derived.Test.YtcdhimnmbpllgaaDoorTPlain2
import Derived.Test.YtcdhimnmbpllgaaDoorTW1
import Derived.Test.YtcdhimnmbpllgaaDoorPair66
namespace Go.Proofs.YtcdhimnmbpllgaaDoor
open Go.RowKit
set_option linter.unusedVariables false
set_option linter.unusedSimpArgs false
set_option maxHeartbeats 4000000
set_option maxRecDepth 100000

def RT.dom : RT Dom := ⟨3, fun _ d cs => cs = [.int .i64 d.1, .int .i64 d.2.1, .bool d.2.2], fun _ _ _ h => by rw [h]; rfl, fun _ _ _ _ h => h⟩
theorem DmR.rd : ∀ a cs m, DmR a cs m → RT.dom.rel m a cs := fun _ _ _ h => h.1
theorem Dms.rd {l : List Dom} {v : Value} {m : MS} (h : Dms l v m) : RdS m RT.dom l v := SlR.rd DmR.rd h
theorem RdS.getDom {F : MS} {l : List Dom} {A : Option Addr} {n c : Nat} (h : RdS F RT.dom l (.slice A n c)) {i : Nat} {d : Dom} (ha : l[i]? = some d) :
    ∃ b o, A = some ⟨b, o, none⟩ ∧ F.at b (o + i * 3) (.int .i64 d.1) ∧ F.at b (o + i * 3 + 1) (.int .i64 d.2.1) ∧ F.at b (o + i * 3 + 2) (.bool d.2.2) := by
  obtain ⟨b, o, cs, h1, h2, h3⟩ := h.get ha (by show 0 < 3; omega)
  obtain rfl : cs = [.int .i64 d.1, .int .i64 d.2.1, .bool d.2.2] := h2
  exact ⟨b, o, h1, h3 0 _ rfl, h3 1 _ rfl, h3 2 _ rfl⟩
theorem rd_all_dom {F : MS} {w : World} {l : List Dom} {v : Value} (h : RdS F RT.dom l v) (hH : Has w F) : RdS (MS.all w) RT.dom l v := rd_all (F := F) (T := RT.dom) (fun _ _ h => h) h hH
def prevD (t : List Dom) (i : Nat) : Option Dom := if i = 0 then none else t[i - 1]?
end Go.Proofs.YtcdhimnmbpllgaaDoor

namespace Go.Proofs.YtcdhimnmbpllgaaDoor
open Go.RowKit Go.MapKept Go.ChangeMaps
set_option linter.unusedVariables false
set_option linter.unusedSimpArgs false
set_option maxHeartbeats 4000000
set_option maxRecDepth 100000

/-- What a map says of covered cells. -/
def CovOk (hs f : Nat → Nat → Bool) (S : Ents) : Prop := ∀ x y : Nat, hs x y = true → lkM S ((x : Int), (y : Int)) = if f x y then none else some (.bool true)
theorem cov_tak {hs f : Nat → Nat → Bool} {S : Ents} {X Y : Nat} {dn : Bool} {ox oy : Int} (h : CovOk hs f S) (hx : ox = otX (X : Int) dn) (hy : oy = otY (Y : Int) dn) : CovOk hs (takF f X Y dn) (ptM (ptM S ((X : Int), (Y : Int)) (.bool true)) (ox, oy) (.bool true)) := fun x y hxy => by
  rw [lkM_ptM, lkM_ptM]
  subst hx; subst hy
  rw [otX_n, otY_n]
  by_cases h1 : x = onX X dn ∧ y = onY Y dn
  · rw [if_pos (by rw [h1.1, h1.2])]
    unfold takF
    rw [h1.1, h1.2, offF_eq]; rfl
  · rw [if_neg (fun e => h1 (by injection e with e1 e2; exact ⟨by omega, by omega⟩))]
    unfold takF
    rw [offF_ne h1]
    by_cases h2 : x = X ∧ y = Y
    · rw [if_pos (by rw [h2.1, h2.2]), h2.1, h2.2, offF_eq]; rfl
    · rw [if_neg (fun e => h2 (by injection e with e1 e2; exact ⟨by omega, by omega⟩)), offF_ne h2]
      exact h x y hxy
theorem is_no {F : MS} {p : List ByteArray} {A : Option Addr} {c : Nat} {t : List Dom} {B : Option Addr} {ct : Nat} {w : World} (hr : RdS F RT.str p (.slice A p.length c)) (hl : p.length ≤ 1000) (hs : ∀ s ∈ p, s.size ≤ 1000000) (hH : Has w F) (hq : isReg p = false) :
    Calls Tryd.prog 24 #[.slice A p.length c, .slice B t.length ct] w fun e w' => e = .returned (.tuple #[.bool false, .int .i64 2]) ∧ Kp w w' := by
  have Hof := hid (of_any hr hl hs hH)
  clear hl hs hr hH
  have hv : regV p A c = noReg := by unfold regV; rw [hq]; rfl
  rw [hq, hv] at Hof
  clear hq hv
  go_enter Tryd.func24, Tryd.ntmps24
  go_wp2_with (first
    | (go_at_call 32; refine Hof.out.mono ?_; rintro e1 w1 ⟨rfl, k1⟩; have K1 := hid (k1.1 _ (Has.all w)); have E1 := hid k1.2; have KA := hid ((K1.out).alloc (.cells #[.int .i64 0, .int .i64 0, .slice none 0 0] 51)); have EA := hid (E1.out.trans (Ext.alloc _ (.cells #[.int .i64 0, .int .i64 0, .slice none 0 0] 51))); clear k1)
    | (refine wpList_store_whole rfl (.tmp 6) (.tmp 16) 51 rfl 3 size51 w1.heap.size noReg rfl rfl rfl (by simp [noReg, Value.cells, Value.oneCell']) #[.int .i64 0, .int .i64 0, .slice none 0 0] 51 _ KA.out rfl ?_; intro w6 j1 j2; have HW6 := hid (show Has w6 (blk w1.heap.size #[.int .i64 0, .int .i64 0, .slice none 0 0] 51 + MS.all w) from j1); have HE6 := hid (EA.out.trans j2); clear j1 j2))
  go_ret2
  exact ⟨rfl, fun M hM => hM.of_all HW6.out, HE6.out⟩
theorem is_yes {F : MS} {p : List ByteArray} {A : Option Addr} {c : Nat} {t : List Dom} {B : Option Addr} {ct : Nat} {w : World} (hr : RdS F RT.str p (.slice A p.length c)) (hl : p.length ≤ 1000) (hs : ∀ s ∈ p, s.size ≤ 1000000) (ht : RdS F RT.dom t (.slice B t.length ct)) (htl : t.length ≤ 1000) (hH : Has w F) (hq : isReg p = true) :
    Calls Tryd.prog 24 #[.slice A p.length c, .slice B t.length ct] w fun e w' => e = .returned (.tuple #[.bool (isT (wd p) p.length (hsR p) none t), .int .i64 0]) ∧ Kp w w' := by
  have Hof := hid (of_any hr hl hs hH)
  have hv : regV p A c = rgV p A c := by unfold regV; rw [hq]; rfl
  rw [hq, hv] at Hof
  have hp := (isReg.ok hq).1
  have hra := rd_all_str hr hH
  have Hhas := hid (fun (W : World) (h : Has W (MS.all w)) (x y : Int) => show Calls Tryd.prog 47 #[.agg #[.int .i64 (wd p), .int .i64 p.length, .slice A p.length c], .int .i64 x, .int .i64 y] W fun e w' => e = .returned (.bool (hsI p x y)) ∧ Kp W w' from has_any hra hp h x y)
  have Hcells := hid (fun (W : World) (h : Has W (MS.all w)) => show Calls Tryd.prog 37 #[.agg #[.int .i64 (wd p), .int .i64 p.length, .slice A p.length c]] W fun e w' => ∃ v m, e = .returned v ∧ Cls (cellsL p) v m ∧ (∀ M, Has W M → Has w' (m + M)) ∧ Ext W w' from cells_any hra hp h)
  have Hcl := hid (cells_len p hp.w1)
  have HasI := hid (fun (x y : Int) (h : hsI p x y = true) => show ∃ X Y : Nat, x = X ∧ y = Y ∧ X < wd p ∧ Y < p.length ∧ hsR p X Y = true from by
    have h' := h
    unfold hsI at h
    simp only [Bool.and_eq_true, decide_eq_true_eq] at h
    refine ⟨x.toNat, y.toNat, by omega, by omega, by omega, by omega, ?_⟩
    unfold hsR
    rw [show ((x.toNat : Nat) : Int) = x by omega, show ((y.toNat : Nat) : Int) = y by omega]
    exact h')
  have HasN := hid (fun (X Y : Nat) => show hsI p (X : Int) (Y : Int) = hsR p X Y from rfl)
  have hin := fun x y (h : hsR p x y = true) => hsR_in x y h
  have hW1 := hp.w1
  have hW8 := hp.w8
  have hH1 := hp.h1
  have hH8 := hp.h8
  have htc := ht.cells.2.1
  unfold rgV at Hof
  obtain ⟨hs0, hhs0⟩ : ∃ f, f = hsR p := ⟨_, rfl⟩
  obtain ⟨WN, hWN⟩ : ∃ WN, WN = wd p := ⟨_, rfl⟩
  obtain ⟨HN, hHN⟩ : ∃ HN, HN = p.length := ⟨_, rfl⟩
  rw [← hhs0] at hin Hcl HasI HasN ⊢
  rw [← hWN] at hin Hof Hhas Hcells Hcl HasI hW1 hW8 ⊢
  rw [← hHN] at hin Hof Hhas Hcells Hcl HasI hH1 hH8 ⊢
  have Htd := hid (fun (i : Nat) (d : Dom) (h : t[i]? = some d) => ht.getDom h)
  obtain ⟨TN, hTN⟩ : ∃ TN, TN = t.length := ⟨_, rfl⟩
  rw [← hTN] at htl htc ⊢
  have HTN := hid hTN
  obtain ⟨R, hR⟩ : ∃ R, R = isT WN HN hs0 none t := ⟨_, rfl⟩
  rw [← hR]
  have HR := hid hR
  have Hin := hid hin
  have HaF := hid (fun (W : World) (X : MS) (h : Has W (X + MS.all w)) => hH.of_all h)
  have H0 := hid (Has.all w)
  have E0 := hid (Ext.refl w)
  have hTI : (TN : Int) ≤ 1000 := by omega
  clear hr hl hs hH ht hp hhs0 hWN hHN hTN hR hin hq hv hra
  go_enter Tryd.func24, Tryd.ntmps24
  go_wp2_with (first
    | (refine wpList_run rfl _ _ (ex_makeMap rfl) ?_; obtain ⟨g, hg⟩ : ∃ g, g = w2.heap.size := ⟨_, rfl⟩; have HM := hid (show Has (w2.alloc (.map #[] 0)) (pts g (.map #[] 0) + (blk b6 #[.int .i64 (WN : Int), .int .i64 (HN : Int), .slice A HN c] 51 + MS.all w)) by rw [hg]; exact H2.out.alloc _); have EM := hid (E2.out.trans (Ext.alloc _ (.map #[] 0))); rw [← hg]; generalize w2.alloc (.map #[] 0) = wm at *; clear hg)
    | (rw [← Hb6.out]; refine wpList_store_whole rfl (.tmp 6) (.tmp 16) 51 rfl 3 size51 b6 (.agg #[.int .i64 (WN : Int), .int .i64 (HN : Int), .slice A HN c]) rfl rfl rfl (by simp [Value.cells, Value.oneCell']) #[.int .i64 0, .int .i64 0, .slice none 0 0] 51 _ HAb6.out rfl ?_; intro w2 j1 j2; have H2 := hid (show Has w2 (blk b6 #[.int .i64 (WN : Int), .int .i64 (HN : Int), .slice A HN c] 51 + MS.all w) from j1.eq (by unfold blk; ac_rfl)); have E2 := hid ((E1.out.trans (Ext.alloc _ _)).trans j2); clear j1 j2)
    | (go_at_call 32; refine (Hof.out).mono ?_; rintro e1 w1 ⟨rfl, k1⟩; have H1 := hid (k1.1 _ H0.out); have E1 := hid (E0.out.trans k1.2); clear k1; obtain ⟨b6, hb6⟩ : ∃ b6, b6 = w1.heap.size := ⟨_, rfl⟩; have HAb6 := hid (show Has (w1.alloc (.cells #[.int .i64 0, .int .i64 0, .slice none 0 0] 51)) (blk b6 #[.int .i64 0, .int .i64 0, .slice none 0 0] 51 + MS.all w) by rw [hb6]; exact H1.out.alloc _); have Hb6 := hid hb6; clear hb6))
  clear H0 E0 H1 E1 HAb6
  go_loopw [23] (fun v23 wr => ∃ (i : Nat) (f : Nat → Nat → Bool) (S : Ents) (es : Array MapEntry) (clock : Nat), i ≤ TN ∧ v23 = .int .i64 i ∧ (∀ x y, f x y = true → hs0 x y = true) ∧ isT WN HN f (prevD t i) (t.drop i) = R ∧ EntsAre S es clock ∧ S.length = 2 * i ∧ cellN WN HN f + 2 * i = cellN WN HN hs0 ∧ CovOk hs0 f S ∧ Has wr (pts g (.map es clock) + (blk b6 #[.int .i64 (WN : Int), .int .i64 (HN : Int), .slice A HN c] 51 + MS.all w)) ∧ Ext w wr) (fun v _ => TN - (intOf v).toNat)
  case atStart => exact ⟨0, hs0, [], #[], 0, Nat.zero_le _, rfl, fun x y h => h, HR.out.symm, EntsAre.none, rfl, rfl, fun x y h => by rw [h]; rfl, HM.out, EM.out⟩
  case round =>
    clear HM EM H2 E2
    obtain ⟨i, f, S, es, clock, hi, rfl, hfs, hR, hS, hSl, hcn, hcov, hW, hE⟩ := hrel
    have HW := hid hW
    have HE := hid hE
    have HRi := hid hR
    have Hfs := hid hfs
    have HS := hid hS
    have HSl := hid hSl
    have Hcn := hid hcn
    have Hcov := hid hcov
    clear hW hE hR hfs hS hSl hcn hcov
    by_cases hlt : i < TN
    · have hltI : (i : Int) < TN := by omega
      have Hlt := hid hlt
      obtain ⟨d, hd⟩ : ∃ d, t[i]? = some d := ⟨_, List.getElem?_eq_getElem (by rw [← HTN.out]; exact hlt)⟩
      obtain ⟨bt, ot, hB, t0, t1, t2⟩ := Htd.out i d hd
      subst hB
      have Hd := hid hd
      have hmore := isT_more (W := WN) (H := HN) (f := f) (prev := prevD t i) hd
      rw [HRi.out] at hmore
      have hprev : prevD t (i + 1) = some d := by unfold prevD; rw [if_neg (by omega), Nat.add_sub_cancel]; exact hd
      obtain ⟨dx, dy, dn⟩ := d
      simp only at t0 t1 t2
      have HaT := hid (fun (W : World) (X : MS) (h : Has W (X + MS.all w)) => show W.cell? ⟨bt, ot + i * 3, none⟩ = some (.int .i64 dx) ∧ W.cell? ⟨bt, ot + i * 3 + 1, none⟩ = some (.int .i64 dy) ∧ W.cell? ⟨bt, ot + i * 3 + 2, none⟩ = some (.bool dn) from ⟨t0.c0 (HaF.out W X h), t1.c0 (HaF.out W X h), t2.c0 (HaF.out W X h)⟩)
      have Hprev := hid hprev
      have Hmore := hid hmore
      obtain ⟨y0, y1, y2⟩ := HaT.out wr (pts g (.map es clock) + blk b6 #[.int .i64 (WN : Int), .int .i64 (HN : Int), .slice A HN c] 51) (HW.out.eq (by ac_rfl))
      clear hlt hi hd t0 t1 t2 hmore hprev
      obtain ⟨b10, hb10⟩ : ∃ b10, b10 = wr.heap.size := ⟨_, rfl⟩; have HAb10 := hid (show Has (wr.alloc (.cells #[.int .i64 0, .int .i64 0, .bool false] 40)) (blk b10 #[.int .i64 0, .int .i64 0, .bool false] 40 + (pts g (.map es clock) + (blk b6 #[.int .i64 (WN : Int), .int .i64 (HN : Int), .slice A HN c] 51 + MS.all w))) by rw [hb10]; exact HW.out.alloc _); have Hb10 := hid hb10; clear hb10
      go_wp2_with (first
        | (rw [← Hb11.out]; refine wpList_store_whole rfl (.tmp 11) (.tmp 32) 66 rfl 2 size66 b11 (.agg #[.int .i64 dx, .int .i64 dy]) rfl rfl rfl (by simp [Value.cells, Value.oneCell']) #[.int .i64 0, .int .i64 0] 66 _ HAb11.out rfl ?_; intro w42 j1 j2; have H42 := hid (show Has w42 (blk b11 #[.int .i64 dx, .int .i64 dy] 66 + (blk b10 #[.int .i64 dx, .int .i64 dy, .bool dn] 40 + (pts g (.map es clock) + (blk b6 #[.int .i64 (WN : Int), .int .i64 (HN : Int), .slice A HN c] 51 + MS.all w)))) from j1.eq (by unfold blk; ac_rfl)); have E42 := hid ((E41.out.trans (Ext.alloc _ _)).trans j2); clear j1 j2)
        | (rw [← Hb10.out]; refine wpList_store_whole rfl (.tmp 10) (.tmp 27) 40 rfl 3 size40 b10 (.agg #[.int .i64 dx, .int .i64 dy, .bool dn]) rfl rfl rfl (by simp [Value.cells, Value.oneCell']) #[.int .i64 0, .int .i64 0, .bool false] 40 _ HAb10.out rfl ?_; intro w41 j1 j2; have H41 := hid (show Has w41 (blk b10 #[.int .i64 dx, .int .i64 dy, .bool dn] 40 + (pts g (.map es clock) + (blk b6 #[.int .i64 (WN : Int), .int .i64 (HN : Int), .slice A HN c] 51 + MS.all w))) from j1.eq (by unfold blk; ac_rfl)); have E41 := hid ((HE.out.trans (Ext.alloc _ _)).trans j2); clear j1 j2; have z0 := (H41.out.eq (b := (blk b10 #[.int .i64 dx, .int .i64 dy, .bool dn] 40 + (pts g (.map es clock) + (blk b6 #[.int .i64 (WN : Int), .int .i64 (HN : Int), .slice A HN c] 51 + MS.all w)))) (by ac_rfl)).at_ (i := 0) rfl; have z1 := (H41.out.eq (b := (blk b10 #[.int .i64 dx, .int .i64 dy, .bool dn] 40 + (pts g (.map es clock) + (blk b6 #[.int .i64 (WN : Int), .int .i64 (HN : Int), .slice A HN c] 51 + MS.all w)))) (by ac_rfl)).at_ (i := 1) rfl; obtain ⟨b11, hb11⟩ : ∃ b11, b11 = w41.heap.size := ⟨_, rfl⟩; have HAb11 := hid (show Has (w41.alloc (.cells #[.int .i64 0, .int .i64 0] 66)) (blk b11 #[.int .i64 0, .int .i64 0] 66 + (blk b10 #[.int .i64 dx, .int .i64 dy, .bool dn] 40 + (pts g (.map es clock) + (blk b6 #[.int .i64 (WN : Int), .int .i64 (HN : Int), .slice A HN c] 51 + MS.all w)))) by rw [hb11]; exact H41.out.alloc _); have Hb11 := hid hb11; clear hb11))
      cases hha : hsI p dx dy with
      | false =>
        have hno := hid (show R = false by
          rw [Hmore.out]
          unfold okD fitsB
          cases hdec : decide (0 ≤ (dx, dy, dn).1 ∧ (dx, dy, dn).1 < (WN : Int) ∧ 0 ≤ (dx, dy, dn).2.1 ∧ (dx, dy, dn).2.1 < (HN : Int)) with
          | false => rfl
          | true =>
            rw [decide_eq_true_eq] at hdec
            simp only at hdec
            have h0 : f dx.toNat dy.toNat = false := by
              cases h : f dx.toNat dy.toNat with
              | false => rfl
              | true =>
                have h2 := Hfs.out _ _ h
                rw [← HasN.out, show ((dx.toNat : Nat) : Int) = dx by omega, show ((dy.toNat : Nat) : Int) = dy by omega, hha] at h2
                cases h2
            simp only [h0]
            simp)
        have hS : (fun W' : World => W'.cell? ⟨b6, 0, none⟩ = some (.int .i64 (WN : Int)) ∧ W'.cell? ⟨b6, 1, none⟩ = some (.int .i64 (HN : Int)) ∧ W'.cell? ⟨b6, 2, none⟩ = some (.slice A HN c) ∧ W'.cell? ⟨b11, 0, none⟩ = some (.int .i64 dx) ∧ W'.cell? ⟨b11, 1, none⟩ = some (.int .i64 dy) ∧ W'.cell? ⟨b10, 0, none⟩ = some (.int .i64 dx) ∧ W'.cell? ⟨b10, 1, none⟩ = some (.int .i64 dy) ∧ W'.heap[g]? = some (.map es clock)) w42.drew := ⟨(H42.out.eq (b := (blk b6 #[.int .i64 (WN : Int), .int .i64 (HN : Int), .slice A HN c] 51 + (blk b11 #[.int .i64 dx, .int .i64 dy] 66 + (blk b10 #[.int .i64 dx, .int .i64 dy, .bool dn] 40 + (pts g (.map es clock) + MS.all w))))) (by ac_rfl)).at_ (i := 0) rfl,
            (H42.out.eq (b := (blk b6 #[.int .i64 (WN : Int), .int .i64 (HN : Int), .slice A HN c] 51 + (blk b11 #[.int .i64 dx, .int .i64 dy] 66 + (blk b10 #[.int .i64 dx, .int .i64 dy, .bool dn] 40 + (pts g (.map es clock) + MS.all w))))) (by ac_rfl)).at_ (i := 1) rfl,
            (H42.out.eq (b := (blk b6 #[.int .i64 (WN : Int), .int .i64 (HN : Int), .slice A HN c] 51 + (blk b11 #[.int .i64 dx, .int .i64 dy] 66 + (blk b10 #[.int .i64 dx, .int .i64 dy, .bool dn] 40 + (pts g (.map es clock) + MS.all w))))) (by ac_rfl)).at_ (i := 2) rfl,
            (H42.out.eq (b := (blk b11 #[.int .i64 dx, .int .i64 dy] 66 + (blk b10 #[.int .i64 dx, .int .i64 dy, .bool dn] 40 + (pts g (.map es clock) + (blk b6 #[.int .i64 (WN : Int), .int .i64 (HN : Int), .slice A HN c] 51 + MS.all w))))) (by ac_rfl)).at_ (i := 0) rfl,
            (H42.out.eq (b := (blk b11 #[.int .i64 dx, .int .i64 dy] 66 + (blk b10 #[.int .i64 dx, .int .i64 dy, .bool dn] 40 + (pts g (.map es clock) + (blk b6 #[.int .i64 (WN : Int), .int .i64 (HN : Int), .slice A HN c] 51 + MS.all w))))) (by ac_rfl)).at_ (i := 1) rfl,
            (H42.out.eq (b := (blk b10 #[.int .i64 dx, .int .i64 dy, .bool dn] 40 + (blk b11 #[.int .i64 dx, .int .i64 dy] 66 + (pts g (.map es clock) + (blk b6 #[.int .i64 (WN : Int), .int .i64 (HN : Int), .slice A HN c] 51 + MS.all w))))) (by ac_rfl)).at_ (i := 0) rfl,
            (H42.out.eq (b := (blk b10 #[.int .i64 dx, .int .i64 dy, .bool dn] 40 + (blk b11 #[.int .i64 dx, .int .i64 dy] 66 + (pts g (.map es clock) + (blk b6 #[.int .i64 (WN : Int), .int .i64 (HN : Int), .slice A HN c] 51 + MS.all w))))) (by ac_rfl)).at_ (i := 1) rfl,
            (H42.out.eq (b := (pts g (.map es clock) + (blk b11 #[.int .i64 dx, .int .i64 dy] 66 + (blk b10 #[.int .i64 dx, .int .i64 dy, .bool dn] 40 + (blk b6 #[.int .i64 (WN : Int), .int .i64 (HN : Int), .slice A HN c] 51 + MS.all w))))) (by ac_rfl)).get⟩
        refine wp_region_txt (fun W' => W'.cell? ⟨b6, 0, none⟩ = some (.int .i64 (WN : Int)) ∧ W'.cell? ⟨b6, 1, none⟩ = some (.int .i64 (HN : Int)) ∧ W'.cell? ⟨b6, 2, none⟩ = some (.slice A HN c) ∧ W'.cell? ⟨b11, 0, none⟩ = some (.int .i64 dx) ∧ W'.cell? ⟨b11, 1, none⟩ = some (.int .i64 dy) ∧ W'.cell? ⟨b10, 0, none⟩ = some (.int .i64 dx) ∧ W'.cell? ⟨b10, 1, none⟩ = some (.int .i64 dy) ∧ W'.heap[g]? = some (.map es clock)) none
          [(0, true), (1, true), (2, true), (3, true), (4, true), (5, false), (6, true), (7, true), (8, true), (9, true), (10, true), (11, true), (12, true), (13, true), (14, true), (15, true), (16, true), (17, true), (18, true), (19, true), (20, true), (21, true), (22, true), (23, true), (24, true), (25, true), (26, true), (27, true), (28, true), (29, true), (30, true), (31, true), (32, true), (33, true), (34, true), (35, true), (36, true), (37, true), (38, true), (39, true), (40, true), (41, true), (42, true), (43, true), (44, true), (45, true), (46, true), (47, true), (48, true)] (by kernel_rfl) rfl (by kernel_rfl) (by kernel_rfl) (by repeat (first | with_reducible refine PanicOk.thn ?_ | with_reducible refine PanicOk.blk ?_ | exact PanicOk.body _ _ _)) ?_
        repeat (first
          | (refine txt_off hS rfl rfl ?_; simp only [Act.put, List.setIfInBounds_toArray, List.set_cons_zero, List.set_cons_succ])
          | (refine txt_quiet ?_ hS rfl rfl (fun W hW => ?_) ?_
             rotate_left 1
             · obtain ⟨hW1, hW2, hW3, hW4, hW5, hW6, hW7, hW8⟩ := hW
               go_simp
               exact rfl
             simp only [Act.put, List.setIfInBounds_toArray, List.set_cons_zero, List.set_cons_succ]))
        refine txt_op rfl rfl ?_
        have hq := Hhas.out w42.drew ((H42.out.eq (b := ((blk b11 #[.int .i64 dx, .int .i64 dy] 66 + (blk b10 #[.int .i64 dx, .int .i64 dy, .bool dn] 40 + (pts g (.map es clock) + blk b6 #[.int .i64 (WN : Int), .int .i64 (HN : Int), .slice A HN c] 51))) + MS.all w)) (by ac_rfl)).right) dx dy
        rw [hha] at hq
        refine op_call 47 _ _ (by go_simp) _ hq ?_
        rintro e43 w43 ⟨rfl, k43⟩
        have H43 := hid (k43.1 _ H42.out.drew)
        have E43 := hid ((E42.out.trans (Ext.drew _)).trans k43.2)
        clear hS
        have hS : (fun W' : World => W'.cell? ⟨b6, 0, none⟩ = some (.int .i64 (WN : Int)) ∧ W'.cell? ⟨b6, 1, none⟩ = some (.int .i64 (HN : Int)) ∧ W'.cell? ⟨b6, 2, none⟩ = some (.slice A HN c) ∧ W'.cell? ⟨b11, 0, none⟩ = some (.int .i64 dx) ∧ W'.cell? ⟨b11, 1, none⟩ = some (.int .i64 dy) ∧ W'.cell? ⟨b10, 0, none⟩ = some (.int .i64 dx) ∧ W'.cell? ⟨b10, 1, none⟩ = some (.int .i64 dy) ∧ W'.heap[g]? = some (.map es clock)) w43 := ⟨(H43.out.eq (b := (blk b6 #[.int .i64 (WN : Int), .int .i64 (HN : Int), .slice A HN c] 51 + (blk b11 #[.int .i64 dx, .int .i64 dy] 66 + (blk b10 #[.int .i64 dx, .int .i64 dy, .bool dn] 40 + (pts g (.map es clock) + MS.all w))))) (by ac_rfl)).at_ (i := 0) rfl,
            (H43.out.eq (b := (blk b6 #[.int .i64 (WN : Int), .int .i64 (HN : Int), .slice A HN c] 51 + (blk b11 #[.int .i64 dx, .int .i64 dy] 66 + (blk b10 #[.int .i64 dx, .int .i64 dy, .bool dn] 40 + (pts g (.map es clock) + MS.all w))))) (by ac_rfl)).at_ (i := 1) rfl,
            (H43.out.eq (b := (blk b6 #[.int .i64 (WN : Int), .int .i64 (HN : Int), .slice A HN c] 51 + (blk b11 #[.int .i64 dx, .int .i64 dy] 66 + (blk b10 #[.int .i64 dx, .int .i64 dy, .bool dn] 40 + (pts g (.map es clock) + MS.all w))))) (by ac_rfl)).at_ (i := 2) rfl,
            (H43.out.eq (b := (blk b11 #[.int .i64 dx, .int .i64 dy] 66 + (blk b10 #[.int .i64 dx, .int .i64 dy, .bool dn] 40 + (pts g (.map es clock) + (blk b6 #[.int .i64 (WN : Int), .int .i64 (HN : Int), .slice A HN c] 51 + MS.all w))))) (by ac_rfl)).at_ (i := 0) rfl,
            (H43.out.eq (b := (blk b11 #[.int .i64 dx, .int .i64 dy] 66 + (blk b10 #[.int .i64 dx, .int .i64 dy, .bool dn] 40 + (pts g (.map es clock) + (blk b6 #[.int .i64 (WN : Int), .int .i64 (HN : Int), .slice A HN c] 51 + MS.all w))))) (by ac_rfl)).at_ (i := 1) rfl,
            (H43.out.eq (b := (blk b10 #[.int .i64 dx, .int .i64 dy, .bool dn] 40 + (blk b11 #[.int .i64 dx, .int .i64 dy] 66 + (pts g (.map es clock) + (blk b6 #[.int .i64 (WN : Int), .int .i64 (HN : Int), .slice A HN c] 51 + MS.all w))))) (by ac_rfl)).at_ (i := 0) rfl,
            (H43.out.eq (b := (blk b10 #[.int .i64 dx, .int .i64 dy, .bool dn] 40 + (blk b11 #[.int .i64 dx, .int .i64 dy] 66 + (pts g (.map es clock) + (blk b6 #[.int .i64 (WN : Int), .int .i64 (HN : Int), .slice A HN c] 51 + MS.all w))))) (by ac_rfl)).at_ (i := 1) rfl,
            (H43.out.eq (b := (pts g (.map es clock) + (blk b11 #[.int .i64 dx, .int .i64 dy] 66 + (blk b10 #[.int .i64 dx, .int .i64 dy, .bool dn] 40 + (blk b6 #[.int .i64 (WN : Int), .int .i64 (HN : Int), .slice A HN c] 51 + MS.all w))))) (by ac_rfl)).get⟩
        refine ⟨_, rfl, fun _ => hS, ?_⟩
        simp only [Act.put, List.setIfInBounds_toArray, List.set_cons_zero, List.set_cons_succ]
        clear k43 hq
        repeat (first
          | (refine txt_off hS rfl rfl ?_; simp only [Act.put, List.setIfInBounds_toArray, List.set_cons_zero, List.set_cons_succ])
          | (refine txt_quiet ?_ hS rfl rfl (fun W hW => ?_) ?_
             rotate_left 1
             · obtain ⟨hW1, hW2, hW3, hW4, hW5, hW6, hW7, hW8⟩ := hW
               go_simp
               exact rfl
             simp only [Act.put, List.setIfInBounds_toArray, List.set_cons_zero, List.set_cons_succ]))
        refine txt_done ?_
        try simp only [Act.put]
        clear hS
        go_wp2
        go_ret2
        exact ⟨by first | rfl | (rw [hno.out]; rfl), fun M hM => hM.of_all (H43.out.eq (b := ((blk b11 #[.int .i64 dx, .int .i64 dy] 66 + (blk b10 #[.int .i64 dx, .int .i64 dy, .bool dn] 40 + (pts g (.map es clock) + blk b6 #[.int .i64 (WN : Int), .int .i64 (HN : Int), .slice A HN c] 51))) + MS.all w)) (by ac_rfl)), E43.out⟩
      | true =>
        obtain ⟨X, Y, hdx, hdy, hXW, hYH, hhs⟩ := HasI.out dx dy hha
        subst hdx; subst hdy
        have Hsm := hid (show small ((X : Int), (Y : Int)) from by unfold small; simp only; omega)
        obtain ⟨ox, hox⟩ : ∃ ox, ox = otX (X : Int) dn := ⟨_, rfl⟩
        obtain ⟨oy, hoy⟩ : ∃ oy, oy = otY (Y : Int) dn := ⟨_, rfl⟩
        have Hoth := hid (fun (W : World) => show Calls Tryd.prog 62 #[.agg #[.int .i64 (X : Int), .int .i64 (Y : Int), .bool dn]] W fun e w' => e = .returned (.agg #[.int .i64 ox, .int .i64 oy]) ∧ Kp W w' from by
          have h := other_any (X : Int) (Y : Int) dn (by omega) (by omega) W
          rw [← hox, ← hoy] at h
          exact h)
        have Hox := hid hox
        have Hoy := hid hoy
        clear hox hoy
        cases hfa : f X Y with
        | false =>
          have hlk := Hcov.out X Y hhs
          rw [hfa, if_neg (by decide)] at hlk
          have hlk : (lkM S ((X : Int), (Y : Int))).getD (.bool false) = .bool true := by rw [hlk]; rfl
          have hno := hid (show R = false by
            rw [Hmore.out]
            unfold okD fitsB
            simp only [Int.toNat_natCast, hfa]; simp)
          have hS : (fun W' : World => W'.cell? ⟨b6, 0, none⟩ = some (.int .i64 (WN : Int)) ∧ W'.cell? ⟨b6, 1, none⟩ = some (.int .i64 (HN : Int)) ∧ W'.cell? ⟨b6, 2, none⟩ = some (.slice A HN c) ∧ W'.cell? ⟨b11, 0, none⟩ = some (.int .i64 (X : Int)) ∧ W'.cell? ⟨b11, 1, none⟩ = some (.int .i64 (Y : Int)) ∧ W'.cell? ⟨b10, 0, none⟩ = some (.int .i64 (X : Int)) ∧ W'.cell? ⟨b10, 1, none⟩ = some (.int .i64 (Y : Int)) ∧ W'.heap[g]? = some (.map es clock)) w42.drew := ⟨(H42.out.eq (b := (blk b6 #[.int .i64 (WN : Int), .int .i64 (HN : Int), .slice A HN c] 51 + (blk b11 #[.int .i64 (X : Int), .int .i64 (Y : Int)] 66 + (blk b10 #[.int .i64 (X : Int), .int .i64 (Y : Int), .bool dn] 40 + (pts g (.map es clock) + MS.all w))))) (by ac_rfl)).at_ (i := 0) rfl,
              (H42.out.eq (b := (blk b6 #[.int .i64 (WN : Int), .int .i64 (HN : Int), .slice A HN c] 51 + (blk b11 #[.int .i64 (X : Int), .int .i64 (Y : Int)] 66 + (blk b10 #[.int .i64 (X : Int), .int .i64 (Y : Int), .bool dn] 40 + (pts g (.map es clock) + MS.all w))))) (by ac_rfl)).at_ (i := 1) rfl,
              (H42.out.eq (b := (blk b6 #[.int .i64 (WN : Int), .int .i64 (HN : Int), .slice A HN c] 51 + (blk b11 #[.int .i64 (X : Int), .int .i64 (Y : Int)] 66 + (blk b10 #[.int .i64 (X : Int), .int .i64 (Y : Int), .bool dn] 40 + (pts g (.map es clock) + MS.all w))))) (by ac_rfl)).at_ (i := 2) rfl,
              (H42.out.eq (b := (blk b11 #[.int .i64 (X : Int), .int .i64 (Y : Int)] 66 + (blk b10 #[.int .i64 (X : Int), .int .i64 (Y : Int), .bool dn] 40 + (pts g (.map es clock) + (blk b6 #[.int .i64 (WN : Int), .int .i64 (HN : Int), .slice A HN c] 51 + MS.all w))))) (by ac_rfl)).at_ (i := 0) rfl,
              (H42.out.eq (b := (blk b11 #[.int .i64 (X : Int), .int .i64 (Y : Int)] 66 + (blk b10 #[.int .i64 (X : Int), .int .i64 (Y : Int), .bool dn] 40 + (pts g (.map es clock) + (blk b6 #[.int .i64 (WN : Int), .int .i64 (HN : Int), .slice A HN c] 51 + MS.all w))))) (by ac_rfl)).at_ (i := 1) rfl,
              (H42.out.eq (b := (blk b10 #[.int .i64 (X : Int), .int .i64 (Y : Int), .bool dn] 40 + (blk b11 #[.int .i64 (X : Int), .int .i64 (Y : Int)] 66 + (pts g (.map es clock) + (blk b6 #[.int .i64 (WN : Int), .int .i64 (HN : Int), .slice A HN c] 51 + MS.all w))))) (by ac_rfl)).at_ (i := 0) rfl,
              (H42.out.eq (b := (blk b10 #[.int .i64 (X : Int), .int .i64 (Y : Int), .bool dn] 40 + (blk b11 #[.int .i64 (X : Int), .int .i64 (Y : Int)] 66 + (pts g (.map es clock) + (blk b6 #[.int .i64 (WN : Int), .int .i64 (HN : Int), .slice A HN c] 51 + MS.all w))))) (by ac_rfl)).at_ (i := 1) rfl,
              (H42.out.eq (b := (pts g (.map es clock) + (blk b11 #[.int .i64 (X : Int), .int .i64 (Y : Int)] 66 + (blk b10 #[.int .i64 (X : Int), .int .i64 (Y : Int), .bool dn] 40 + (blk b6 #[.int .i64 (WN : Int), .int .i64 (HN : Int), .slice A HN c] 51 + MS.all w))))) (by ac_rfl)).get⟩
          refine wp_region_txt (fun W' => W'.cell? ⟨b6, 0, none⟩ = some (.int .i64 (WN : Int)) ∧ W'.cell? ⟨b6, 1, none⟩ = some (.int .i64 (HN : Int)) ∧ W'.cell? ⟨b6, 2, none⟩ = some (.slice A HN c) ∧ W'.cell? ⟨b11, 0, none⟩ = some (.int .i64 (X : Int)) ∧ W'.cell? ⟨b11, 1, none⟩ = some (.int .i64 (Y : Int)) ∧ W'.cell? ⟨b10, 0, none⟩ = some (.int .i64 (X : Int)) ∧ W'.cell? ⟨b10, 1, none⟩ = some (.int .i64 (Y : Int)) ∧ W'.heap[g]? = some (.map es clock)) none
            [(0, true), (1, true), (2, true), (3, true), (4, true), (5, false), (6, true), (7, true), (8, true), (9, true), (10, true), (11, true), (12, true), (13, true), (14, true), (15, true), (16, true), (17, true), (18, true), (19, true), (20, true), (21, true), (22, true), (23, true), (24, true), (25, true), (26, true), (27, true), (28, true), (29, true), (30, true), (31, true), (32, true), (33, true), (34, true), (35, true), (36, true), (37, true), (38, true), (39, true), (40, true), (41, true), (42, true), (43, true), (44, true), (45, true), (46, true), (47, true), (48, true)] (by kernel_rfl) rfl (by kernel_rfl) (by kernel_rfl) (by repeat (first | with_reducible refine PanicOk.thn ?_ | with_reducible refine PanicOk.blk ?_ | exact PanicOk.body _ _ _)) ?_
          repeat (first
            | (refine txt_off hS rfl rfl ?_; simp only [Act.put, List.setIfInBounds_toArray, List.set_cons_zero, List.set_cons_succ])
            | (refine txt_quiet ?_ hS rfl rfl (fun W hW => ?_) ?_
               rotate_left 1
               · obtain ⟨hW1, hW2, hW3, hW4, hW5, hW6, hW7, hW8⟩ := hW
                 go_simp
                 exact rfl
               simp only [Act.put, List.setIfInBounds_toArray, List.set_cons_zero, List.set_cons_succ]))
          refine txt_op rfl rfl ?_
          have hq := Hhas.out w42.drew ((H42.out.eq (b := ((blk b11 #[.int .i64 (X : Int), .int .i64 (Y : Int)] 66 + (blk b10 #[.int .i64 (X : Int), .int .i64 (Y : Int), .bool dn] 40 + (pts g (.map es clock) + blk b6 #[.int .i64 (WN : Int), .int .i64 (HN : Int), .slice A HN c] 51))) + MS.all w)) (by ac_rfl)).right) (X : Int) (Y : Int)
          rw [hha] at hq
          refine op_call 47 _ _ (by go_simp) _ hq ?_
          rintro e44 w44 ⟨rfl, k44⟩
          have H44 := hid (k44.1 _ H42.out.drew)
          have E44 := hid ((E42.out.trans (Ext.drew _)).trans k44.2)
          clear hS
          have hS : (fun W' : World => W'.cell? ⟨b6, 0, none⟩ = some (.int .i64 (WN : Int)) ∧ W'.cell? ⟨b6, 1, none⟩ = some (.int .i64 (HN : Int)) ∧ W'.cell? ⟨b6, 2, none⟩ = some (.slice A HN c) ∧ W'.cell? ⟨b11, 0, none⟩ = some (.int .i64 (X : Int)) ∧ W'.cell? ⟨b11, 1, none⟩ = some (.int .i64 (Y : Int)) ∧ W'.cell? ⟨b10, 0, none⟩ = some (.int .i64 (X : Int)) ∧ W'.cell? ⟨b10, 1, none⟩ = some (.int .i64 (Y : Int)) ∧ W'.heap[g]? = some (.map es clock)) w44 := ⟨(H44.out.eq (b := (blk b6 #[.int .i64 (WN : Int), .int .i64 (HN : Int), .slice A HN c] 51 + (blk b11 #[.int .i64 (X : Int), .int .i64 (Y : Int)] 66 + (blk b10 #[.int .i64 (X : Int), .int .i64 (Y : Int), .bool dn] 40 + (pts g (.map es clock) + MS.all w))))) (by ac_rfl)).at_ (i := 0) rfl,
              (H44.out.eq (b := (blk b6 #[.int .i64 (WN : Int), .int .i64 (HN : Int), .slice A HN c] 51 + (blk b11 #[.int .i64 (X : Int), .int .i64 (Y : Int)] 66 + (blk b10 #[.int .i64 (X : Int), .int .i64 (Y : Int), .bool dn] 40 + (pts g (.map es clock) + MS.all w))))) (by ac_rfl)).at_ (i := 1) rfl,
              (H44.out.eq (b := (blk b6 #[.int .i64 (WN : Int), .int .i64 (HN : Int), .slice A HN c] 51 + (blk b11 #[.int .i64 (X : Int), .int .i64 (Y : Int)] 66 + (blk b10 #[.int .i64 (X : Int), .int .i64 (Y : Int), .bool dn] 40 + (pts g (.map es clock) + MS.all w))))) (by ac_rfl)).at_ (i := 2) rfl,
              (H44.out.eq (b := (blk b11 #[.int .i64 (X : Int), .int .i64 (Y : Int)] 66 + (blk b10 #[.int .i64 (X : Int), .int .i64 (Y : Int), .bool dn] 40 + (pts g (.map es clock) + (blk b6 #[.int .i64 (WN : Int), .int .i64 (HN : Int), .slice A HN c] 51 + MS.all w))))) (by ac_rfl)).at_ (i := 0) rfl,
              (H44.out.eq (b := (blk b11 #[.int .i64 (X : Int), .int .i64 (Y : Int)] 66 + (blk b10 #[.int .i64 (X : Int), .int .i64 (Y : Int), .bool dn] 40 + (pts g (.map es clock) + (blk b6 #[.int .i64 (WN : Int), .int .i64 (HN : Int), .slice A HN c] 51 + MS.all w))))) (by ac_rfl)).at_ (i := 1) rfl,
              (H44.out.eq (b := (blk b10 #[.int .i64 (X : Int), .int .i64 (Y : Int), .bool dn] 40 + (blk b11 #[.int .i64 (X : Int), .int .i64 (Y : Int)] 66 + (pts g (.map es clock) + (blk b6 #[.int .i64 (WN : Int), .int .i64 (HN : Int), .slice A HN c] 51 + MS.all w))))) (by ac_rfl)).at_ (i := 0) rfl,
              (H44.out.eq (b := (blk b10 #[.int .i64 (X : Int), .int .i64 (Y : Int), .bool dn] 40 + (blk b11 #[.int .i64 (X : Int), .int .i64 (Y : Int)] 66 + (pts g (.map es clock) + (blk b6 #[.int .i64 (WN : Int), .int .i64 (HN : Int), .slice A HN c] 51 + MS.all w))))) (by ac_rfl)).at_ (i := 1) rfl,
              (H44.out.eq (b := (pts g (.map es clock) + (blk b11 #[.int .i64 (X : Int), .int .i64 (Y : Int)] 66 + (blk b10 #[.int .i64 (X : Int), .int .i64 (Y : Int), .bool dn] 40 + (blk b6 #[.int .i64 (WN : Int), .int .i64 (HN : Int), .slice A HN c] 51 + MS.all w))))) (by ac_rfl)).get⟩
          refine ⟨_, rfl, fun _ => hS, ?_⟩
          simp only [Act.put, List.setIfInBounds_toArray, List.set_cons_zero, List.set_cons_succ]
          clear k44 hq
          iterate 4
            (refine txt_quiet ?_ hS rfl rfl (fun W hW => ?_) ?_
             rotate_left 1
             · obtain ⟨hW1, hW2, hW3, hW4, hW5, hW6, hW7, hW8⟩ := hW
               go_simp
               exact rfl
             simp only [Act.put, List.setIfInBounds_toArray, List.set_cons_zero, List.set_cons_succ])
          refine txt_quiet (.bool true) hS rfl rfl (fun W hW => ?_) ?_
          · obtain ⟨hW1, hW2, hW3, hW4, hW5, hW6, hW7, hW8⟩ := hW
            refine ex_look rfl ?_
            have h := HS.out.look1 pair66 und83 (zero4 W) hW8 (q := ((X : Int), (Y : Int))) Hsm.out
            rw [hlk] at h
            exact h
          simp only [Act.put, List.setIfInBounds_toArray, List.set_cons_zero, List.set_cons_succ]
          repeat (first
            | (refine txt_off hS rfl rfl ?_; simp only [Act.put, List.setIfInBounds_toArray, List.set_cons_zero, List.set_cons_succ])
            | (refine txt_quiet ?_ hS rfl rfl (fun W hW => ?_) ?_
               rotate_left 1
               · obtain ⟨hW1, hW2, hW3, hW4, hW5, hW6, hW7, hW8⟩ := hW
                 go_simp
                 exact rfl
               simp only [Act.put, List.setIfInBounds_toArray, List.set_cons_zero, List.set_cons_succ]))
          refine txt_done ?_
          try simp only [Act.put]
          clear hS
          go_wp2
          go_ret2
          exact ⟨by first | rfl | (rw [hno.out]; rfl), fun M hM => hM.of_all (H44.out.eq (b := ((blk b11 #[.int .i64 (X : Int), .int .i64 (Y : Int)] 66 + (blk b10 #[.int .i64 (X : Int), .int .i64 (Y : Int), .bool dn] 40 + (pts g (.map es clock) + blk b6 #[.int .i64 (WN : Int), .int .i64 (HN : Int), .slice A HN c] 51))) + MS.all w)) (by ac_rfl)), E44.out⟩
        | true =>
          have hlk := Hcov.out X Y hhs
          rw [hfa, if_pos rfl] at hlk
          have hlk : (lkM S ((X : Int), (Y : Int))).getD (.bool false) = .bool false := by rw [hlk]; rfl
          by_cases hi0 : i = 0
          · subst hi0
            have hord : ordB (prevD t 0) ((X : Int), (Y : Int), dn) = true := by rfl
            have hS : (fun W' : World => W'.cell? ⟨b6, 0, none⟩ = some (.int .i64 (WN : Int)) ∧ W'.cell? ⟨b6, 1, none⟩ = some (.int .i64 (HN : Int)) ∧ W'.cell? ⟨b6, 2, none⟩ = some (.slice A HN c) ∧ W'.cell? ⟨b11, 0, none⟩ = some (.int .i64 (X : Int)) ∧ W'.cell? ⟨b11, 1, none⟩ = some (.int .i64 (Y : Int)) ∧ W'.cell? ⟨b10, 0, none⟩ = some (.int .i64 (X : Int)) ∧ W'.cell? ⟨b10, 1, none⟩ = some (.int .i64 (Y : Int)) ∧ W'.heap[g]? = some (.map es clock)) w42.drew := ⟨(H42.out.eq (b := (blk b6 #[.int .i64 (WN : Int), .int .i64 (HN : Int), .slice A HN c] 51 + (blk b11 #[.int .i64 (X : Int), .int .i64 (Y : Int)] 66 + (blk b10 #[.int .i64 (X : Int), .int .i64 (Y : Int), .bool dn] 40 + (pts g (.map es clock) + MS.all w))))) (by ac_rfl)).at_ (i := 0) rfl,
                (H42.out.eq (b := (blk b6 #[.int .i64 (WN : Int), .int .i64 (HN : Int), .slice A HN c] 51 + (blk b11 #[.int .i64 (X : Int), .int .i64 (Y : Int)] 66 + (blk b10 #[.int .i64 (X : Int), .int .i64 (Y : Int), .bool dn] 40 + (pts g (.map es clock) + MS.all w))))) (by ac_rfl)).at_ (i := 1) rfl,
                (H42.out.eq (b := (blk b6 #[.int .i64 (WN : Int), .int .i64 (HN : Int), .slice A HN c] 51 + (blk b11 #[.int .i64 (X : Int), .int .i64 (Y : Int)] 66 + (blk b10 #[.int .i64 (X : Int), .int .i64 (Y : Int), .bool dn] 40 + (pts g (.map es clock) + MS.all w))))) (by ac_rfl)).at_ (i := 2) rfl,
                (H42.out.eq (b := (blk b11 #[.int .i64 (X : Int), .int .i64 (Y : Int)] 66 + (blk b10 #[.int .i64 (X : Int), .int .i64 (Y : Int), .bool dn] 40 + (pts g (.map es clock) + (blk b6 #[.int .i64 (WN : Int), .int .i64 (HN : Int), .slice A HN c] 51 + MS.all w))))) (by ac_rfl)).at_ (i := 0) rfl,
                (H42.out.eq (b := (blk b11 #[.int .i64 (X : Int), .int .i64 (Y : Int)] 66 + (blk b10 #[.int .i64 (X : Int), .int .i64 (Y : Int), .bool dn] 40 + (pts g (.map es clock) + (blk b6 #[.int .i64 (WN : Int), .int .i64 (HN : Int), .slice A HN c] 51 + MS.all w))))) (by ac_rfl)).at_ (i := 1) rfl,
                (H42.out.eq (b := (blk b10 #[.int .i64 (X : Int), .int .i64 (Y : Int), .bool dn] 40 + (blk b11 #[.int .i64 (X : Int), .int .i64 (Y : Int)] 66 + (pts g (.map es clock) + (blk b6 #[.int .i64 (WN : Int), .int .i64 (HN : Int), .slice A HN c] 51 + MS.all w))))) (by ac_rfl)).at_ (i := 0) rfl,
                (H42.out.eq (b := (blk b10 #[.int .i64 (X : Int), .int .i64 (Y : Int), .bool dn] 40 + (blk b11 #[.int .i64 (X : Int), .int .i64 (Y : Int)] 66 + (pts g (.map es clock) + (blk b6 #[.int .i64 (WN : Int), .int .i64 (HN : Int), .slice A HN c] 51 + MS.all w))))) (by ac_rfl)).at_ (i := 1) rfl,
                (H42.out.eq (b := (pts g (.map es clock) + (blk b11 #[.int .i64 (X : Int), .int .i64 (Y : Int)] 66 + (blk b10 #[.int .i64 (X : Int), .int .i64 (Y : Int), .bool dn] 40 + (blk b6 #[.int .i64 (WN : Int), .int .i64 (HN : Int), .slice A HN c] 51 + MS.all w))))) (by ac_rfl)).get⟩
            refine wp_region_txt (fun W' => W'.cell? ⟨b6, 0, none⟩ = some (.int .i64 (WN : Int)) ∧ W'.cell? ⟨b6, 1, none⟩ = some (.int .i64 (HN : Int)) ∧ W'.cell? ⟨b6, 2, none⟩ = some (.slice A HN c) ∧ W'.cell? ⟨b11, 0, none⟩ = some (.int .i64 (X : Int)) ∧ W'.cell? ⟨b11, 1, none⟩ = some (.int .i64 (Y : Int)) ∧ W'.cell? ⟨b10, 0, none⟩ = some (.int .i64 (X : Int)) ∧ W'.cell? ⟨b10, 1, none⟩ = some (.int .i64 (Y : Int)) ∧ W'.heap[g]? = some (.map es clock)) none
              [(0, true), (1, true), (2, true), (3, true), (4, true), (5, false), (6, true), (7, true), (8, true), (9, true), (10, true), (11, true), (12, true), (13, true), (14, true), (15, true), (16, true), (17, true), (18, true), (19, true), (20, true), (21, true), (22, true), (23, true), (24, true), (25, true), (26, true), (27, true), (28, true), (29, true), (30, true), (31, true), (32, true), (33, true), (34, true), (35, true), (36, true), (37, true), (38, true), (39, true), (40, true), (41, true), (42, true), (43, true), (44, true), (45, true), (46, true), (47, true), (48, true)] (by kernel_rfl) rfl (by kernel_rfl) (by kernel_rfl) (by repeat (first | with_reducible refine PanicOk.thn ?_ | with_reducible refine PanicOk.blk ?_ | exact PanicOk.body _ _ _)) ?_
            repeat (first
              | (refine txt_off hS rfl rfl ?_; simp only [Act.put, List.setIfInBounds_toArray, List.set_cons_zero, List.set_cons_succ])
              | (refine txt_quiet ?_ hS rfl rfl (fun W hW => ?_) ?_
                 rotate_left 1
                 · obtain ⟨hW1, hW2, hW3, hW4, hW5, hW6, hW7, hW8⟩ := hW
                   go_simp
                   exact rfl
                 simp only [Act.put, List.setIfInBounds_toArray, List.set_cons_zero, List.set_cons_succ]))
            refine txt_op rfl rfl ?_
            have hq := Hhas.out w42.drew ((H42.out.eq (b := ((blk b11 #[.int .i64 (X : Int), .int .i64 (Y : Int)] 66 + (blk b10 #[.int .i64 (X : Int), .int .i64 (Y : Int), .bool dn] 40 + (pts g (.map es clock) + blk b6 #[.int .i64 (WN : Int), .int .i64 (HN : Int), .slice A HN c] 51))) + MS.all w)) (by ac_rfl)).right) (X : Int) (Y : Int)
            rw [hha] at hq
            refine op_call 47 _ _ (by go_simp) _ hq ?_
            rintro e45 w45 ⟨rfl, k45⟩
            have H45 := hid (k45.1 _ H42.out.drew)
            have E45 := hid ((E42.out.trans (Ext.drew _)).trans k45.2)
            clear hS
            have hS : (fun W' : World => W'.cell? ⟨b6, 0, none⟩ = some (.int .i64 (WN : Int)) ∧ W'.cell? ⟨b6, 1, none⟩ = some (.int .i64 (HN : Int)) ∧ W'.cell? ⟨b6, 2, none⟩ = some (.slice A HN c) ∧ W'.cell? ⟨b11, 0, none⟩ = some (.int .i64 (X : Int)) ∧ W'.cell? ⟨b11, 1, none⟩ = some (.int .i64 (Y : Int)) ∧ W'.cell? ⟨b10, 0, none⟩ = some (.int .i64 (X : Int)) ∧ W'.cell? ⟨b10, 1, none⟩ = some (.int .i64 (Y : Int)) ∧ W'.heap[g]? = some (.map es clock)) w45 := ⟨(H45.out.eq (b := (blk b6 #[.int .i64 (WN : Int), .int .i64 (HN : Int), .slice A HN c] 51 + (blk b11 #[.int .i64 (X : Int), .int .i64 (Y : Int)] 66 + (blk b10 #[.int .i64 (X : Int), .int .i64 (Y : Int), .bool dn] 40 + (pts g (.map es clock) + MS.all w))))) (by ac_rfl)).at_ (i := 0) rfl,
                (H45.out.eq (b := (blk b6 #[.int .i64 (WN : Int), .int .i64 (HN : Int), .slice A HN c] 51 + (blk b11 #[.int .i64 (X : Int), .int .i64 (Y : Int)] 66 + (blk b10 #[.int .i64 (X : Int), .int .i64 (Y : Int), .bool dn] 40 + (pts g (.map es clock) + MS.all w))))) (by ac_rfl)).at_ (i := 1) rfl,
                (H45.out.eq (b := (blk b6 #[.int .i64 (WN : Int), .int .i64 (HN : Int), .slice A HN c] 51 + (blk b11 #[.int .i64 (X : Int), .int .i64 (Y : Int)] 66 + (blk b10 #[.int .i64 (X : Int), .int .i64 (Y : Int), .bool dn] 40 + (pts g (.map es clock) + MS.all w))))) (by ac_rfl)).at_ (i := 2) rfl,
                (H45.out.eq (b := (blk b11 #[.int .i64 (X : Int), .int .i64 (Y : Int)] 66 + (blk b10 #[.int .i64 (X : Int), .int .i64 (Y : Int), .bool dn] 40 + (pts g (.map es clock) + (blk b6 #[.int .i64 (WN : Int), .int .i64 (HN : Int), .slice A HN c] 51 + MS.all w))))) (by ac_rfl)).at_ (i := 0) rfl,
                (H45.out.eq (b := (blk b11 #[.int .i64 (X : Int), .int .i64 (Y : Int)] 66 + (blk b10 #[.int .i64 (X : Int), .int .i64 (Y : Int), .bool dn] 40 + (pts g (.map es clock) + (blk b6 #[.int .i64 (WN : Int), .int .i64 (HN : Int), .slice A HN c] 51 + MS.all w))))) (by ac_rfl)).at_ (i := 1) rfl,
                (H45.out.eq (b := (blk b10 #[.int .i64 (X : Int), .int .i64 (Y : Int), .bool dn] 40 + (blk b11 #[.int .i64 (X : Int), .int .i64 (Y : Int)] 66 + (pts g (.map es clock) + (blk b6 #[.int .i64 (WN : Int), .int .i64 (HN : Int), .slice A HN c] 51 + MS.all w))))) (by ac_rfl)).at_ (i := 0) rfl,
                (H45.out.eq (b := (blk b10 #[.int .i64 (X : Int), .int .i64 (Y : Int), .bool dn] 40 + (blk b11 #[.int .i64 (X : Int), .int .i64 (Y : Int)] 66 + (pts g (.map es clock) + (blk b6 #[.int .i64 (WN : Int), .int .i64 (HN : Int), .slice A HN c] 51 + MS.all w))))) (by ac_rfl)).at_ (i := 1) rfl,
                (H45.out.eq (b := (pts g (.map es clock) + (blk b11 #[.int .i64 (X : Int), .int .i64 (Y : Int)] 66 + (blk b10 #[.int .i64 (X : Int), .int .i64 (Y : Int), .bool dn] 40 + (blk b6 #[.int .i64 (WN : Int), .int .i64 (HN : Int), .slice A HN c] 51 + MS.all w))))) (by ac_rfl)).get⟩
            refine ⟨_, rfl, fun _ => hS, ?_⟩
            simp only [Act.put, List.setIfInBounds_toArray, List.set_cons_zero, List.set_cons_succ]
            clear k45 hq
            iterate 4
              (refine txt_quiet ?_ hS rfl rfl (fun W hW => ?_) ?_
               rotate_left 1
               · obtain ⟨hW1, hW2, hW3, hW4, hW5, hW6, hW7, hW8⟩ := hW
                 go_simp
                 exact rfl
               simp only [Act.put, List.setIfInBounds_toArray, List.set_cons_zero, List.set_cons_succ])
            refine txt_quiet (.bool false) hS rfl rfl (fun W hW => ?_) ?_
            · obtain ⟨hW1, hW2, hW3, hW4, hW5, hW6, hW7, hW8⟩ := hW
              refine ex_look rfl ?_
              have h := HS.out.look1 pair66 und83 (zero4 W) hW8 (q := ((X : Int), (Y : Int))) Hsm.out
              rw [hlk] at h
              exact h
            simp only [Act.put, List.setIfInBounds_toArray, List.set_cons_zero, List.set_cons_succ]
            repeat (first
              | (refine txt_off hS rfl rfl ?_; simp only [Act.put, List.setIfInBounds_toArray, List.set_cons_zero, List.set_cons_succ])
              | (refine txt_quiet ?_ hS rfl rfl (fun W hW => ?_) ?_
                 rotate_left 1
                 · obtain ⟨hW1, hW2, hW3, hW4, hW5, hW6, hW7, hW8⟩ := hW
                   go_simp
                   exact rfl
                 simp only [Act.put, List.setIfInBounds_toArray, List.set_cons_zero, List.set_cons_succ]))
            refine txt_done ?_
            try simp only [Act.put]
            clear hS
            have v0 := (H45.out.eq (b := (blk b10 #[.int .i64 (X : Int), .int .i64 (Y : Int), .bool dn] 40 + (blk b11 #[.int .i64 (X : Int), .int .i64 (Y : Int)] 66 + (pts g (.map es clock) + (blk b6 #[.int .i64 (WN : Int), .int .i64 (HN : Int), .slice A HN c] 51 + MS.all w))))) (by ac_rfl)).at_ (i := 0) rfl
            have v1 := (H45.out.eq (b := (blk b10 #[.int .i64 (X : Int), .int .i64 (Y : Int), .bool dn] 40 + (blk b11 #[.int .i64 (X : Int), .int .i64 (Y : Int)] 66 + (pts g (.map es clock) + (blk b6 #[.int .i64 (WN : Int), .int .i64 (HN : Int), .slice A HN c] 51 + MS.all w))))) (by ac_rfl)).at_ (i := 1) rfl
            have v2 := (H45.out.eq (b := (blk b10 #[.int .i64 (X : Int), .int .i64 (Y : Int), .bool dn] 40 + (blk b11 #[.int .i64 (X : Int), .int .i64 (Y : Int)] 66 + (pts g (.map es clock) + (blk b6 #[.int .i64 (WN : Int), .int .i64 (HN : Int), .slice A HN c] 51 + MS.all w))))) (by ac_rfl)).at_ (i := 2) rfl
            clear hlk
            cases hhb : hsI p ox oy with
            | false =>
              have hno := hid (show R = false by
                rw [Hmore.out]
                unfold okD fitsB
                simp only [Int.toNat_natCast]
                have h0 : (decide (onY Y dn < HN) && (decide (onX X dn < WN) && (f X Y && f (onX X dn) (onY Y dn)))) = false := by
                  cases h : f (onX X dn) (onY Y dn) with
                  | false => simp
                  | true =>
                    have h2 := Hfs.out _ _ h
                    rw [← HasN.out, ← otX_n, ← otY_n, ← Hox.out, ← Hoy.out, hhb] at h2
                    cases h2
                rw [h0]; simp)
              go_wp2_with (first
                | (go_at_call 47; refine (hq).mono ?_; rintro e91 w91 ⟨rfl, k91⟩; have H91 := hid (k91.1 _ H82.out); have E91 := hid (E82.out.trans k91.2); clear k91; clear hq; clear v0 v1 u0 u1 u2)
                | (rw [← Hb12.out]; refine wpList_store_whole rfl (.tmp 12) (.tmp 83) 66 rfl 2 size66 b12 (.agg #[.int .i64 ox, .int .i64 oy]) rfl rfl rfl (by simp [Value.cells, Value.oneCell']) #[.int .i64 0, .int .i64 0] 66 _ HAb12.out rfl ?_; intro w82 j1 j2; have H82 := hid (show Has w82 (blk b12 #[.int .i64 ox, .int .i64 oy] 66 + (blk b11 #[.int .i64 (X : Int), .int .i64 (Y : Int)] 66 + (blk b10 #[.int .i64 (X : Int), .int .i64 (Y : Int), .bool dn] 40 + (pts g (.map es clock) + (blk b6 #[.int .i64 (WN : Int), .int .i64 (HN : Int), .slice A HN c] 51 + MS.all w))))) from j1.eq (by unfold blk; ac_rfl)); have E82 := hid ((E81.out.trans (Ext.alloc _ _)).trans j2); clear j1 j2; have u0 := (H82.out.eq (b := (blk b6 #[.int .i64 (WN : Int), .int .i64 (HN : Int), .slice A HN c] 51 + (blk b12 #[.int .i64 ox, .int .i64 oy] 66 + (blk b11 #[.int .i64 (X : Int), .int .i64 (Y : Int)] 66 + (blk b10 #[.int .i64 (X : Int), .int .i64 (Y : Int), .bool dn] 40 + (pts g (.map es clock) + MS.all w)))))) (by ac_rfl)).at_ (i := 0) rfl; have u1 := (H82.out.eq (b := (blk b6 #[.int .i64 (WN : Int), .int .i64 (HN : Int), .slice A HN c] 51 + (blk b12 #[.int .i64 ox, .int .i64 oy] 66 + (blk b11 #[.int .i64 (X : Int), .int .i64 (Y : Int)] 66 + (blk b10 #[.int .i64 (X : Int), .int .i64 (Y : Int), .bool dn] 40 + (pts g (.map es clock) + MS.all w)))))) (by ac_rfl)).at_ (i := 1) rfl; have u2 := (H82.out.eq (b := (blk b6 #[.int .i64 (WN : Int), .int .i64 (HN : Int), .slice A HN c] 51 + (blk b12 #[.int .i64 ox, .int .i64 oy] 66 + (blk b11 #[.int .i64 (X : Int), .int .i64 (Y : Int)] 66 + (blk b10 #[.int .i64 (X : Int), .int .i64 (Y : Int), .bool dn] 40 + (pts g (.map es clock) + MS.all w)))))) (by ac_rfl)).at_ (i := 2) rfl; have v0 := (H82.out.eq (b := (blk b12 #[.int .i64 ox, .int .i64 oy] 66 + (blk b11 #[.int .i64 (X : Int), .int .i64 (Y : Int)] 66 + (blk b10 #[.int .i64 (X : Int), .int .i64 (Y : Int), .bool dn] 40 + (pts g (.map es clock) + (blk b6 #[.int .i64 (WN : Int), .int .i64 (HN : Int), .slice A HN c] 51 + MS.all w)))))) (by ac_rfl)).at_ (i := 0) rfl; have v1 := (H82.out.eq (b := (blk b12 #[.int .i64 ox, .int .i64 oy] 66 + (blk b11 #[.int .i64 (X : Int), .int .i64 (Y : Int)] 66 + (blk b10 #[.int .i64 (X : Int), .int .i64 (Y : Int), .bool dn] 40 + (pts g (.map es clock) + (blk b6 #[.int .i64 (WN : Int), .int .i64 (HN : Int), .slice A HN c] 51 + MS.all w)))))) (by ac_rfl)).at_ (i := 1) rfl; have hq := Hhas.out w82 ((H82.out.eq (b := ((blk b12 #[.int .i64 ox, .int .i64 oy] 66 + (blk b11 #[.int .i64 (X : Int), .int .i64 (Y : Int)] 66 + (blk b10 #[.int .i64 (X : Int), .int .i64 (Y : Int), .bool dn] 40 + (pts g (.map es clock) + blk b6 #[.int .i64 (WN : Int), .int .i64 (HN : Int), .slice A HN c] 51)))) + MS.all w)) (by ac_rfl)).right) ox oy; rw [hhb] at hq)
                | (go_at_call 62; refine (Hoth.out w45).mono ?_; rintro e81 w81 ⟨rfl, k81⟩; have H81 := hid (k81.1 _ H45.out); have E81 := hid (E45.out.trans k81.2); clear k81; clear v0 v1 v2; obtain ⟨b12, hb12⟩ : ∃ b12, b12 = w81.heap.size := ⟨_, rfl⟩; have HAb12 := hid (show Has (w81.alloc (.cells #[.int .i64 0, .int .i64 0] 66)) (blk b12 #[.int .i64 0, .int .i64 0] 66 + (blk b11 #[.int .i64 (X : Int), .int .i64 (Y : Int)] 66 + (blk b10 #[.int .i64 (X : Int), .int .i64 (Y : Int), .bool dn] 40 + (pts g (.map es clock) + (blk b6 #[.int .i64 (WN : Int), .int .i64 (HN : Int), .slice A HN c] 51 + MS.all w))))) by rw [hb12]; exact H81.out.alloc _); have Hb12 := hid hb12; clear hb12))
              go_wp2
              go_ret2
              exact ⟨by first | rfl | (rw [hno.out]; rfl), fun M hM => hM.of_all (H91.out.eq (b := ((blk b12 #[.int .i64 ox, .int .i64 oy] 66 + (blk b11 #[.int .i64 (X : Int), .int .i64 (Y : Int)] 66 + (blk b10 #[.int .i64 (X : Int), .int .i64 (Y : Int), .bool dn] 40 + (pts g (.map es clock) + blk b6 #[.int .i64 (WN : Int), .int .i64 (HN : Int), .slice A HN c] 51)))) + MS.all w)) (by ac_rfl)), E91.out⟩
            | true =>
              have hb := hhb
              rw [Hox.out, Hoy.out, otX_n, otY_n, HasN.out] at hb
              have hlb := Hcov.out _ _ hb
              have hbin := Hin.out _ _ hb
              have Hsm2 := hid (show small (ox, oy) from by rw [Hox.out, Hoy.out, otX_n, otY_n]; unfold small; simp only; omega)
              rw [← otX_n, ← otY_n, ← Hox.out, ← Hoy.out] at hlb
              have Hox2 := hid (show ((onX X dn : Nat)) = onX X dn from rfl)
              have Hoy2 := hid (show ((onY Y dn : Nat)) = onY Y dn from rfl)
              cases hfb : f (onX X dn) (onY Y dn) with
              | false =>
                rw [hfb, if_neg (by decide)] at hlb
                have Hlk2 := hid (show (lkM S (ox, oy)).getD (.bool false) = .bool true by rw [hlb]; rfl)
                have hno := hid (show R = false by
                  rw [Hmore.out]
                  unfold okD fitsB
                  simp only [Int.toNat_natCast, hfb]
                  simp)
                go_wp2_with (first
                  | (go_at_call 47; refine (hq).mono ?_; rintro e91 w91 ⟨rfl, k91⟩; have H91 := hid (k91.1 _ H82.out); have E91 := hid (E82.out.trans k91.2); clear k91; clear hq; have hlk2 := HS.out.look1 pair66 und83 (zero4 w91) ((H91.out.eq (b := (pts g (.map es clock) + (blk b12 #[.int .i64 ox, .int .i64 oy] 66 + (blk b11 #[.int .i64 (X : Int), .int .i64 (Y : Int)] 66 + (blk b10 #[.int .i64 (X : Int), .int .i64 (Y : Int), .bool dn] 40 + (blk b6 #[.int .i64 (WN : Int), .int .i64 (HN : Int), .slice A HN c] 51 + MS.all w)))))) (by ac_rfl)).get) (q := (ox, oy)) Hsm2.out; rw [Hlk2.out] at hlk2; have hlk2 : (Instr.lookup 83 (.map (some g)) (.agg #[.int .i64 ox, .int .i64 oy]) false).run Tryd.prog w91 = .ok (.bool true) w91 := hlk2; clear v0 v1 u0 u1 u2; have v0 := (H91.out.eq (b := (blk b12 #[.int .i64 ox, .int .i64 oy] 66 + (blk b11 #[.int .i64 (X : Int), .int .i64 (Y : Int)] 66 + (blk b10 #[.int .i64 (X : Int), .int .i64 (Y : Int), .bool dn] 40 + (pts g (.map es clock) + (blk b6 #[.int .i64 (WN : Int), .int .i64 (HN : Int), .slice A HN c] 51 + MS.all w)))))) (by ac_rfl)).at_ (i := 0) rfl; have v1 := (H91.out.eq (b := (blk b12 #[.int .i64 ox, .int .i64 oy] 66 + (blk b11 #[.int .i64 (X : Int), .int .i64 (Y : Int)] 66 + (blk b10 #[.int .i64 (X : Int), .int .i64 (Y : Int), .bool dn] 40 + (pts g (.map es clock) + (blk b6 #[.int .i64 (WN : Int), .int .i64 (HN : Int), .slice A HN c] 51 + MS.all w)))))) (by ac_rfl)).at_ (i := 1) rfl)
                  | (rw [← Hb12.out]; refine wpList_store_whole rfl (.tmp 12) (.tmp 83) 66 rfl 2 size66 b12 (.agg #[.int .i64 ox, .int .i64 oy]) rfl rfl rfl (by simp [Value.cells, Value.oneCell']) #[.int .i64 0, .int .i64 0] 66 _ HAb12.out rfl ?_; intro w82 j1 j2; have H82 := hid (show Has w82 (blk b12 #[.int .i64 ox, .int .i64 oy] 66 + (blk b11 #[.int .i64 (X : Int), .int .i64 (Y : Int)] 66 + (blk b10 #[.int .i64 (X : Int), .int .i64 (Y : Int), .bool dn] 40 + (pts g (.map es clock) + (blk b6 #[.int .i64 (WN : Int), .int .i64 (HN : Int), .slice A HN c] 51 + MS.all w))))) from j1.eq (by unfold blk; ac_rfl)); have E82 := hid ((E81.out.trans (Ext.alloc _ _)).trans j2); clear j1 j2; have u0 := (H82.out.eq (b := (blk b6 #[.int .i64 (WN : Int), .int .i64 (HN : Int), .slice A HN c] 51 + (blk b12 #[.int .i64 ox, .int .i64 oy] 66 + (blk b11 #[.int .i64 (X : Int), .int .i64 (Y : Int)] 66 + (blk b10 #[.int .i64 (X : Int), .int .i64 (Y : Int), .bool dn] 40 + (pts g (.map es clock) + MS.all w)))))) (by ac_rfl)).at_ (i := 0) rfl; have u1 := (H82.out.eq (b := (blk b6 #[.int .i64 (WN : Int), .int .i64 (HN : Int), .slice A HN c] 51 + (blk b12 #[.int .i64 ox, .int .i64 oy] 66 + (blk b11 #[.int .i64 (X : Int), .int .i64 (Y : Int)] 66 + (blk b10 #[.int .i64 (X : Int), .int .i64 (Y : Int), .bool dn] 40 + (pts g (.map es clock) + MS.all w)))))) (by ac_rfl)).at_ (i := 1) rfl; have u2 := (H82.out.eq (b := (blk b6 #[.int .i64 (WN : Int), .int .i64 (HN : Int), .slice A HN c] 51 + (blk b12 #[.int .i64 ox, .int .i64 oy] 66 + (blk b11 #[.int .i64 (X : Int), .int .i64 (Y : Int)] 66 + (blk b10 #[.int .i64 (X : Int), .int .i64 (Y : Int), .bool dn] 40 + (pts g (.map es clock) + MS.all w)))))) (by ac_rfl)).at_ (i := 2) rfl; have v0 := (H82.out.eq (b := (blk b12 #[.int .i64 ox, .int .i64 oy] 66 + (blk b11 #[.int .i64 (X : Int), .int .i64 (Y : Int)] 66 + (blk b10 #[.int .i64 (X : Int), .int .i64 (Y : Int), .bool dn] 40 + (pts g (.map es clock) + (blk b6 #[.int .i64 (WN : Int), .int .i64 (HN : Int), .slice A HN c] 51 + MS.all w)))))) (by ac_rfl)).at_ (i := 0) rfl; have v1 := (H82.out.eq (b := (blk b12 #[.int .i64 ox, .int .i64 oy] 66 + (blk b11 #[.int .i64 (X : Int), .int .i64 (Y : Int)] 66 + (blk b10 #[.int .i64 (X : Int), .int .i64 (Y : Int), .bool dn] 40 + (pts g (.map es clock) + (blk b6 #[.int .i64 (WN : Int), .int .i64 (HN : Int), .slice A HN c] 51 + MS.all w)))))) (by ac_rfl)).at_ (i := 1) rfl; have hq := Hhas.out w82 ((H82.out.eq (b := ((blk b12 #[.int .i64 ox, .int .i64 oy] 66 + (blk b11 #[.int .i64 (X : Int), .int .i64 (Y : Int)] 66 + (blk b10 #[.int .i64 (X : Int), .int .i64 (Y : Int), .bool dn] 40 + (pts g (.map es clock) + blk b6 #[.int .i64 (WN : Int), .int .i64 (HN : Int), .slice A HN c] 51)))) + MS.all w)) (by ac_rfl)).right) ox oy; rw [hhb] at hq)
                  | (go_at_call 62; refine (Hoth.out w45).mono ?_; rintro e81 w81 ⟨rfl, k81⟩; have H81 := hid (k81.1 _ H45.out); have E81 := hid (E45.out.trans k81.2); clear k81; clear v0 v1 v2; obtain ⟨b12, hb12⟩ : ∃ b12, b12 = w81.heap.size := ⟨_, rfl⟩; have HAb12 := hid (show Has (w81.alloc (.cells #[.int .i64 0, .int .i64 0] 66)) (blk b12 #[.int .i64 0, .int .i64 0] 66 + (blk b11 #[.int .i64 (X : Int), .int .i64 (Y : Int)] 66 + (blk b10 #[.int .i64 (X : Int), .int .i64 (Y : Int), .bool dn] 40 + (pts g (.map es clock) + (blk b6 #[.int .i64 (WN : Int), .int .i64 (HN : Int), .slice A HN c] 51 + MS.all w))))) by rw [hb12]; exact H81.out.alloc _); have Hb12 := hid hb12; clear hb12))
                go_wp2
                go_ret2
                exact ⟨by first | rfl | (rw [hno.out]; rfl), fun M hM => hM.of_all (H91.out.eq (b := ((blk b12 #[.int .i64 ox, .int .i64 oy] 66 + (blk b11 #[.int .i64 (X : Int), .int .i64 (Y : Int)] 66 + (blk b10 #[.int .i64 (X : Int), .int .i64 (Y : Int), .bool dn] 40 + (pts g (.map es clock) + blk b6 #[.int .i64 (WN : Int), .int .i64 (HN : Int), .slice A HN c] 51)))) + MS.all w)) (by ac_rfl)), E91.out⟩
              | true =>
                rw [hfb, if_pos rfl] at hlb
                have Hlk2 := hid (show (lkM S (ox, oy)).getD (.bool false) = .bool false by rw [hlb]; rfl)
                have hfit : fitsB f WN HN X Y dn = true := by
                  unfold fitsB
                  rw [hfa, hfb, decide_eq_true hbin.2, decide_eq_true hbin.1]; rfl
                have Hnext := hid (show isT WN HN (takF f X Y dn) (prevD t (0 + 1)) (t.drop (0 + 1)) = R by
                  rw [Hprev.out, Hmore.out]
                  unfold okD
                  rw [decide_eq_true (by simp only; omega)]
                  simp only [Int.toNat_natCast, hfit, Bool.true_and]
                  rw [hord, Bool.true_and]
                  unfold takD
                  simp only [Int.toNat_natCast])
                have hne : ((X : Int), (Y : Int)) ≠ (ox, oy) := by
                  rw [Hox.out, Hoy.out]
                  intro h
                  injection h with h1 h2
                  unfold otX at h1
                  unfold otY at h2
                  cases dn <;> simp at h1 h2 <;> omega
                have hla := Hcov.out X Y hhs
                rw [hfa, if_pos rfl] at hla
                have Hlen5 := hid (show (ptM (ptM S ((X : Int), (Y : Int)) (.bool true)) (ox, oy) (.bool true)).length = 2 * (0 + 1) by
                  have h1 := ptM_new hla (.bool true)
                  have h2 : lkM (ptM S ((X : Int), (Y : Int)) (.bool true)) (ox, oy) = none := by rw [lkM_ptM, if_neg hne]; exact hlb
                  rw [ptM_new h2, h1, List.length_append, List.length_append, HSl.out]
                  simp only [List.length_singleton] <;> omega)
                have Hcn5 := hid (show cellN WN HN (takF f X Y dn) + 2 * (0 + 1) = cellN WN HN hs0 by
                  have h1 := cellN_tak hXW hYH hfit
                  have h2 := Hcn.out
                  omega)
                have Hcov5 := hid (show CovOk hs0 (takF f X Y dn) (ptM (ptM S ((X : Int), (Y : Int)) (.bool true)) (ox, oy) (.bool true)) from cov_tak Hcov.out Hox.out Hoy.out)
                clear hb hlb hbin hfit hne hla hfb hord hfa hhs
                go_wp2_with (first
                  | (go_at_call 47; refine (hq).mono ?_; rintro e91 w91 ⟨rfl, k91⟩; have H91 := hid (k91.1 _ H82.out); have E91 := hid (E82.out.trans k91.2); clear k91; clear hq; have hlk2 := HS.out.look1 pair66 und83 (zero4 w91) ((H91.out.eq (b := (pts g (.map es clock) + (blk b12 #[.int .i64 ox, .int .i64 oy] 66 + (blk b11 #[.int .i64 (X : Int), .int .i64 (Y : Int)] 66 + (blk b10 #[.int .i64 (X : Int), .int .i64 (Y : Int), .bool dn] 40 + (blk b6 #[.int .i64 (WN : Int), .int .i64 (HN : Int), .slice A HN c] 51 + MS.all w)))))) (by ac_rfl)).get) (q := (ox, oy)) Hsm2.out; rw [Hlk2.out] at hlk2; have hlk2 : (Instr.lookup 83 (.map (some g)) (.agg #[.int .i64 ox, .int .i64 oy]) false).run Tryd.prog w91 = .ok (.bool false) w91 := hlk2; clear v0 v1 u0 u1 u2; have v0 := (H91.out.eq (b := (blk b12 #[.int .i64 ox, .int .i64 oy] 66 + (blk b11 #[.int .i64 (X : Int), .int .i64 (Y : Int)] 66 + (blk b10 #[.int .i64 (X : Int), .int .i64 (Y : Int), .bool dn] 40 + (pts g (.map es clock) + (blk b6 #[.int .i64 (WN : Int), .int .i64 (HN : Int), .slice A HN c] 51 + MS.all w)))))) (by ac_rfl)).at_ (i := 0) rfl; have v1 := (H91.out.eq (b := (blk b12 #[.int .i64 ox, .int .i64 oy] 66 + (blk b11 #[.int .i64 (X : Int), .int .i64 (Y : Int)] 66 + (blk b10 #[.int .i64 (X : Int), .int .i64 (Y : Int), .bool dn] 40 + (pts g (.map es clock) + (blk b6 #[.int .i64 (WN : Int), .int .i64 (HN : Int), .slice A HN c] 51 + MS.all w)))))) (by ac_rfl)).at_ (i := 1) rfl)
                  | (rw [← Hb12.out]; refine wpList_store_whole rfl (.tmp 12) (.tmp 83) 66 rfl 2 size66 b12 (.agg #[.int .i64 ox, .int .i64 oy]) rfl rfl rfl (by simp [Value.cells, Value.oneCell']) #[.int .i64 0, .int .i64 0] 66 _ HAb12.out rfl ?_; intro w82 j1 j2; have H82 := hid (show Has w82 (blk b12 #[.int .i64 ox, .int .i64 oy] 66 + (blk b11 #[.int .i64 (X : Int), .int .i64 (Y : Int)] 66 + (blk b10 #[.int .i64 (X : Int), .int .i64 (Y : Int), .bool dn] 40 + (pts g (.map es clock) + (blk b6 #[.int .i64 (WN : Int), .int .i64 (HN : Int), .slice A HN c] 51 + MS.all w))))) from j1.eq (by unfold blk; ac_rfl)); have E82 := hid ((E81.out.trans (Ext.alloc _ _)).trans j2); clear j1 j2; have u0 := (H82.out.eq (b := (blk b6 #[.int .i64 (WN : Int), .int .i64 (HN : Int), .slice A HN c] 51 + (blk b12 #[.int .i64 ox, .int .i64 oy] 66 + (blk b11 #[.int .i64 (X : Int), .int .i64 (Y : Int)] 66 + (blk b10 #[.int .i64 (X : Int), .int .i64 (Y : Int), .bool dn] 40 + (pts g (.map es clock) + MS.all w)))))) (by ac_rfl)).at_ (i := 0) rfl; have u1 := (H82.out.eq (b := (blk b6 #[.int .i64 (WN : Int), .int .i64 (HN : Int), .slice A HN c] 51 + (blk b12 #[.int .i64 ox, .int .i64 oy] 66 + (blk b11 #[.int .i64 (X : Int), .int .i64 (Y : Int)] 66 + (blk b10 #[.int .i64 (X : Int), .int .i64 (Y : Int), .bool dn] 40 + (pts g (.map es clock) + MS.all w)))))) (by ac_rfl)).at_ (i := 1) rfl; have u2 := (H82.out.eq (b := (blk b6 #[.int .i64 (WN : Int), .int .i64 (HN : Int), .slice A HN c] 51 + (blk b12 #[.int .i64 ox, .int .i64 oy] 66 + (blk b11 #[.int .i64 (X : Int), .int .i64 (Y : Int)] 66 + (blk b10 #[.int .i64 (X : Int), .int .i64 (Y : Int), .bool dn] 40 + (pts g (.map es clock) + MS.all w)))))) (by ac_rfl)).at_ (i := 2) rfl; have v0 := (H82.out.eq (b := (blk b12 #[.int .i64 ox, .int .i64 oy] 66 + (blk b11 #[.int .i64 (X : Int), .int .i64 (Y : Int)] 66 + (blk b10 #[.int .i64 (X : Int), .int .i64 (Y : Int), .bool dn] 40 + (pts g (.map es clock) + (blk b6 #[.int .i64 (WN : Int), .int .i64 (HN : Int), .slice A HN c] 51 + MS.all w)))))) (by ac_rfl)).at_ (i := 0) rfl; have v1 := (H82.out.eq (b := (blk b12 #[.int .i64 ox, .int .i64 oy] 66 + (blk b11 #[.int .i64 (X : Int), .int .i64 (Y : Int)] 66 + (blk b10 #[.int .i64 (X : Int), .int .i64 (Y : Int), .bool dn] 40 + (pts g (.map es clock) + (blk b6 #[.int .i64 (WN : Int), .int .i64 (HN : Int), .slice A HN c] 51 + MS.all w)))))) (by ac_rfl)).at_ (i := 1) rfl; have hq := Hhas.out w82 ((H82.out.eq (b := ((blk b12 #[.int .i64 ox, .int .i64 oy] 66 + (blk b11 #[.int .i64 (X : Int), .int .i64 (Y : Int)] 66 + (blk b10 #[.int .i64 (X : Int), .int .i64 (Y : Int), .bool dn] 40 + (pts g (.map es clock) + blk b6 #[.int .i64 (WN : Int), .int .i64 (HN : Int), .slice A HN c] 51)))) + MS.all w)) (by ac_rfl)).right) ox oy; rw [hhb] at hq)
                  | (go_at_call 62; refine (Hoth.out w45).mono ?_; rintro e81 w81 ⟨rfl, k81⟩; have H81 := hid (k81.1 _ H45.out); have E81 := hid (E45.out.trans k81.2); clear k81; clear v0 v1 v2; obtain ⟨b12, hb12⟩ : ∃ b12, b12 = w81.heap.size := ⟨_, rfl⟩; have HAb12 := hid (show Has (w81.alloc (.cells #[.int .i64 0, .int .i64 0] 66)) (blk b12 #[.int .i64 0, .int .i64 0] 66 + (blk b11 #[.int .i64 (X : Int), .int .i64 (Y : Int)] 66 + (blk b10 #[.int .i64 (X : Int), .int .i64 (Y : Int), .bool dn] 40 + (pts g (.map es clock) + (blk b6 #[.int .i64 (WN : Int), .int .i64 (HN : Int), .slice A HN c] 51 + MS.all w))))) by rw [hb12]; exact H81.out.alloc _); have Hb12 := hid hb12; clear hb12))
                clear hlk2 v0 v1
                have hS : (fun W' : World => W'.cell? ⟨b11, 0, none⟩ = some (.int .i64 (X : Int)) ∧ W'.cell? ⟨b11, 1, none⟩ = some (.int .i64 (Y : Int)) ∧ W'.cell? ⟨b12, 0, none⟩ = some (.int .i64 ox) ∧ W'.cell? ⟨b12, 1, none⟩ = some (.int .i64 oy)) w91.drew := ⟨(H91.out.eq (b := (blk b11 #[.int .i64 (X : Int), .int .i64 (Y : Int)] 66 + (blk b12 #[.int .i64 ox, .int .i64 oy] 66 + (blk b10 #[.int .i64 (X : Int), .int .i64 (Y : Int), .bool dn] 40 + (pts g (.map es clock) + (blk b6 #[.int .i64 (WN : Int), .int .i64 (HN : Int), .slice A HN c] 51 + MS.all w)))))) (by ac_rfl)).at_ (i := 0) rfl, (H91.out.eq (b := (blk b11 #[.int .i64 (X : Int), .int .i64 (Y : Int)] 66 + (blk b12 #[.int .i64 ox, .int .i64 oy] 66 + (blk b10 #[.int .i64 (X : Int), .int .i64 (Y : Int), .bool dn] 40 + (pts g (.map es clock) + (blk b6 #[.int .i64 (WN : Int), .int .i64 (HN : Int), .slice A HN c] 51 + MS.all w)))))) (by ac_rfl)).at_ (i := 1) rfl, (H91.out.eq (b := (blk b12 #[.int .i64 ox, .int .i64 oy] 66 + (blk b11 #[.int .i64 (X : Int), .int .i64 (Y : Int)] 66 + (blk b10 #[.int .i64 (X : Int), .int .i64 (Y : Int), .bool dn] 40 + (pts g (.map es clock) + (blk b6 #[.int .i64 (WN : Int), .int .i64 (HN : Int), .slice A HN c] 51 + MS.all w)))))) (by ac_rfl)).at_ (i := 0) rfl, (H91.out.eq (b := (blk b12 #[.int .i64 ox, .int .i64 oy] 66 + (blk b11 #[.int .i64 (X : Int), .int .i64 (Y : Int)] 66 + (blk b10 #[.int .i64 (X : Int), .int .i64 (Y : Int), .bool dn] 40 + (pts g (.map es clock) + (blk b6 #[.int .i64 (WN : Int), .int .i64 (HN : Int), .slice A HN c] 51 + MS.all w)))))) (by ac_rfl)).at_ (i := 1) rfl⟩
                refine wp_region_txt (fun W' => W'.cell? ⟨b11, 0, none⟩ = some (.int .i64 (X : Int)) ∧ W'.cell? ⟨b11, 1, none⟩ = some (.int .i64 (Y : Int)) ∧ W'.cell? ⟨b12, 0, none⟩ = some (.int .i64 ox) ∧ W'.cell? ⟨b12, 1, none⟩ = some (.int .i64 oy)) (some 5)
                  [(0, true), (1, true), (2, true), (3, true), (4, false), (5, false)] (by kernel_rfl) rfl (by kernel_rfl) (by kernel_rfl) (by repeat (first | with_reducible refine PanicOk.thn ?_ | with_reducible refine PanicOk.blk ?_ | exact PanicOk.body _ _ _)) ?_
                repeat (first
                  | (refine txt_off hS rfl rfl ?_; simp only [Act.put, List.setIfInBounds_toArray, List.set_cons_zero, List.set_cons_succ])
                  | (refine txt_quiet ?_ hS rfl rfl (fun W hW => ?_) ?_
                     rotate_left 1
                     · obtain ⟨hW1, hW2, hW3, hW4⟩ := hW
                       go_simp
                       exact rfl
                     simp only [Act.put, List.setIfInBounds_toArray, List.set_cons_zero, List.set_cons_succ]))
                refine txt_op rfl rfl ?_
                refine op_putM pair66 und83 (.tmp 96) (.tmp 97) (.const (.bool true)) rfl g rfl ((X : Int), (Y : Int)) rfl (.bool true) rfl HS.out Hsm.out _ ((H91.out.eq (b := (pts g (.map es clock) + (blk b12 #[.int .i64 ox, .int .i64 oy] 66 + (blk b11 #[.int .i64 (X : Int), .int .i64 (Y : Int)] 66 + (blk b10 #[.int .i64 (X : Int), .int .i64 (Y : Int), .bool dn] 40 + (blk b6 #[.int .i64 (WN : Int), .int .i64 (HN : Int), .slice A HN c] 51 + MS.all w)))))) (by ac_rfl)).drew) ?_
                intro es4 clock4 w94 z1 z2 z3
                have S4 := hid z1
                have E94 := hid ((E91.out.trans (Ext.drew _)).trans z3)
                have H94 := hid (show Has w94 (pts g (.map es4 clock4) + (blk b12 #[.int .i64 ox, .int .i64 oy] 66 + (blk b11 #[.int .i64 (X : Int), .int .i64 (Y : Int)] 66 + (blk b10 #[.int .i64 (X : Int), .int .i64 (Y : Int), .bool dn] 40 + (blk b6 #[.int .i64 (WN : Int), .int .i64 (HN : Int), .slice A HN c] 51 + MS.all w))))) from z2)
                clear z1 z2 z3 hS
                have hS : (fun W' : World => W'.cell? ⟨b11, 0, none⟩ = some (.int .i64 (X : Int)) ∧ W'.cell? ⟨b11, 1, none⟩ = some (.int .i64 (Y : Int)) ∧ W'.cell? ⟨b12, 0, none⟩ = some (.int .i64 ox) ∧ W'.cell? ⟨b12, 1, none⟩ = some (.int .i64 oy)) w94 := ⟨(H94.out.eq (b := (blk b11 #[.int .i64 (X : Int), .int .i64 (Y : Int)] 66 + (blk b12 #[.int .i64 ox, .int .i64 oy] 66 + (blk b10 #[.int .i64 (X : Int), .int .i64 (Y : Int), .bool dn] 40 + (pts g (.map es4 clock4) + (blk b6 #[.int .i64 (WN : Int), .int .i64 (HN : Int), .slice A HN c] 51 + MS.all w)))))) (by ac_rfl)).at_ (i := 0) rfl, (H94.out.eq (b := (blk b11 #[.int .i64 (X : Int), .int .i64 (Y : Int)] 66 + (blk b12 #[.int .i64 ox, .int .i64 oy] 66 + (blk b10 #[.int .i64 (X : Int), .int .i64 (Y : Int), .bool dn] 40 + (pts g (.map es4 clock4) + (blk b6 #[.int .i64 (WN : Int), .int .i64 (HN : Int), .slice A HN c] 51 + MS.all w)))))) (by ac_rfl)).at_ (i := 1) rfl, (H94.out.eq (b := (blk b12 #[.int .i64 ox, .int .i64 oy] 66 + (blk b11 #[.int .i64 (X : Int), .int .i64 (Y : Int)] 66 + (blk b10 #[.int .i64 (X : Int), .int .i64 (Y : Int), .bool dn] 40 + (pts g (.map es4 clock4) + (blk b6 #[.int .i64 (WN : Int), .int .i64 (HN : Int), .slice A HN c] 51 + MS.all w)))))) (by ac_rfl)).at_ (i := 0) rfl, (H94.out.eq (b := (blk b12 #[.int .i64 ox, .int .i64 oy] 66 + (blk b11 #[.int .i64 (X : Int), .int .i64 (Y : Int)] 66 + (blk b10 #[.int .i64 (X : Int), .int .i64 (Y : Int), .bool dn] 40 + (pts g (.map es4 clock4) + (blk b6 #[.int .i64 (WN : Int), .int .i64 (HN : Int), .slice A HN c] 51 + MS.all w)))))) (by ac_rfl)).at_ (i := 1) rfl⟩
                refine ⟨fun _ => hS, ?_⟩
                simp only [Act.put, List.setIfInBounds_toArray, List.set_cons_zero, List.set_cons_succ]
                refine txt_op rfl rfl ?_
                refine op_putM pair66 und83 (.tmp 98) (.tmp 99) (.const (.bool true)) rfl g rfl (ox, oy) rfl (.bool true) rfl S4.out Hsm2.out _ (H94.out.eq (b := (pts g (.map es4 clock4) + (blk b12 #[.int .i64 ox, .int .i64 oy] 66 + (blk b11 #[.int .i64 (X : Int), .int .i64 (Y : Int)] 66 + (blk b10 #[.int .i64 (X : Int), .int .i64 (Y : Int), .bool dn] 40 + (blk b6 #[.int .i64 (WN : Int), .int .i64 (HN : Int), .slice A HN c] 51 + MS.all w)))))) (by ac_rfl)) ?_
                intro es5 clock5 w95 z1 z2 z3
                have S5 := hid z1
                have E95 := hid (E94.out.trans z3)
                have H95 := hid (show Has w95 (pts g (.map es5 clock5) + (blk b12 #[.int .i64 ox, .int .i64 oy] 66 + (blk b11 #[.int .i64 (X : Int), .int .i64 (Y : Int)] 66 + (blk b10 #[.int .i64 (X : Int), .int .i64 (Y : Int), .bool dn] 40 + (blk b6 #[.int .i64 (WN : Int), .int .i64 (HN : Int), .slice A HN c] 51 + MS.all w))))) from z2)
                clear z1 z2 z3 hS
                refine ⟨fun h => absurd rfl h, ?_⟩
                refine txt_done ?_
                simp only [Act.put]
                go_wp2
                go_roundw
                case rel => exact ⟨0 + 1, takF f X Y dn, _, es5, clock5, Hlt.out, by go_num, fun x y h => Hfs.out x y (takF_in h), Hnext.out, S5.out, Hlen5.out, Hcn5.out, Hcov5.out, (H95.out.eq (b := ((pts g (.map es5 clock5) + (blk b6 #[.int .i64 (WN : Int), .int .i64 (HN : Int), .slice A HN c] 51 + MS.all w)) + (blk b12 #[.int .i64 ox, .int .i64 oy] 66 + (blk b11 #[.int .i64 (X : Int), .int .i64 (Y : Int)] 66 + blk b10 #[.int .i64 (X : Int), .int .i64 (Y : Int), .bool dn] 40)))) (by ac_rfl)).left, E95.out⟩
                case measure => have := Hlt.out; simp [intOf]; omega
          · obtain ⟨j, rfl⟩ : ∃ j, i = j + 1 := ⟨i - 1, by omega⟩
            obtain ⟨e, he⟩ : ∃ e, t[j]? = some e := ⟨_, List.getElem?_eq_getElem (by have h1 := Hlt.out; have h2 := HTN.out; omega)⟩
            obtain ⟨bt', ot', hB, e0, e1, _⟩ := Htd.out j e he
            injection hB with hB; injection hB with e2 e3
            subst e2; subst e3
            have hpv : prevD t (j + 1) = some e := by unfold prevD; rw [if_neg (by omega), Nat.add_sub_cancel]; exact he
            obtain ⟨ex, ey, en⟩ := e
            simp only at e0 e1
            have Hp := hid (fun (W : World) (X : MS) (h : Has W (X + MS.all w)) => show W.cell? ⟨bt, ot + j * 3, none⟩ = some (.int .i64 ex) ∧ W.cell? ⟨bt, ot + j * 3 + 1, none⟩ = some (.int .i64 ey) from ⟨e0.c0 (HaF.out W X h), e1.c0 (HaF.out W X h)⟩)
            have hjI : (j : Int) < TN := by have := Hlt.out; omega
            have hj1 : (j : Int) ≤ 1000 := by omega
            have hjw : IntKind.i64.wrap (j : Int) = (j : Int) := by rw [IntKind.wrap_i64]; omega
            clear hi0
            by_cases h1 : (Y : Int) < ey
            · have hord : ordB (prevD t (j + 1)) ((X : Int), (Y : Int), dn) = false := by rw [hpv]; unfold ordB; simp only; simp [h1]
              have hno := hid (show R = false by
                rw [Hmore.out]
                unfold okD fitsB
                rw [hord]; simp)
              have hS : (fun W' : World => W'.cell? ⟨b6, 0, none⟩ = some (.int .i64 (WN : Int)) ∧ W'.cell? ⟨b6, 1, none⟩ = some (.int .i64 (HN : Int)) ∧ W'.cell? ⟨b6, 2, none⟩ = some (.slice A HN c) ∧ W'.cell? ⟨b11, 0, none⟩ = some (.int .i64 (X : Int)) ∧ W'.cell? ⟨b11, 1, none⟩ = some (.int .i64 (Y : Int)) ∧ W'.cell? ⟨b10, 0, none⟩ = some (.int .i64 (X : Int)) ∧ W'.cell? ⟨b10, 1, none⟩ = some (.int .i64 (Y : Int)) ∧ W'.cell? ⟨bt, ot + j * 3, none⟩ = some (.int .i64 ex) ∧ W'.cell? ⟨bt, ot + j * 3 + 1, none⟩ = some (.int .i64 ey) ∧ W'.heap[g]? = some (.map es clock)) w42.drew := ⟨(H42.out.eq (b := (blk b6 #[.int .i64 (WN : Int), .int .i64 (HN : Int), .slice A HN c] 51 + (blk b11 #[.int .i64 (X : Int), .int .i64 (Y : Int)] 66 + (blk b10 #[.int .i64 (X : Int), .int .i64 (Y : Int), .bool dn] 40 + (pts g (.map es clock) + MS.all w))))) (by ac_rfl)).at_ (i := 0) rfl,
                  (H42.out.eq (b := (blk b6 #[.int .i64 (WN : Int), .int .i64 (HN : Int), .slice A HN c] 51 + (blk b11 #[.int .i64 (X : Int), .int .i64 (Y : Int)] 66 + (blk b10 #[.int .i64 (X : Int), .int .i64 (Y : Int), .bool dn] 40 + (pts g (.map es clock) + MS.all w))))) (by ac_rfl)).at_ (i := 1) rfl,
                  (H42.out.eq (b := (blk b6 #[.int .i64 (WN : Int), .int .i64 (HN : Int), .slice A HN c] 51 + (blk b11 #[.int .i64 (X : Int), .int .i64 (Y : Int)] 66 + (blk b10 #[.int .i64 (X : Int), .int .i64 (Y : Int), .bool dn] 40 + (pts g (.map es clock) + MS.all w))))) (by ac_rfl)).at_ (i := 2) rfl,
                  (H42.out.eq (b := (blk b11 #[.int .i64 (X : Int), .int .i64 (Y : Int)] 66 + (blk b10 #[.int .i64 (X : Int), .int .i64 (Y : Int), .bool dn] 40 + (pts g (.map es clock) + (blk b6 #[.int .i64 (WN : Int), .int .i64 (HN : Int), .slice A HN c] 51 + MS.all w))))) (by ac_rfl)).at_ (i := 0) rfl,
                  (H42.out.eq (b := (blk b11 #[.int .i64 (X : Int), .int .i64 (Y : Int)] 66 + (blk b10 #[.int .i64 (X : Int), .int .i64 (Y : Int), .bool dn] 40 + (pts g (.map es clock) + (blk b6 #[.int .i64 (WN : Int), .int .i64 (HN : Int), .slice A HN c] 51 + MS.all w))))) (by ac_rfl)).at_ (i := 1) rfl,
                  (H42.out.eq (b := (blk b10 #[.int .i64 (X : Int), .int .i64 (Y : Int), .bool dn] 40 + (blk b11 #[.int .i64 (X : Int), .int .i64 (Y : Int)] 66 + (pts g (.map es clock) + (blk b6 #[.int .i64 (WN : Int), .int .i64 (HN : Int), .slice A HN c] 51 + MS.all w))))) (by ac_rfl)).at_ (i := 0) rfl,
                  (H42.out.eq (b := (blk b10 #[.int .i64 (X : Int), .int .i64 (Y : Int), .bool dn] 40 + (blk b11 #[.int .i64 (X : Int), .int .i64 (Y : Int)] 66 + (pts g (.map es clock) + (blk b6 #[.int .i64 (WN : Int), .int .i64 (HN : Int), .slice A HN c] 51 + MS.all w))))) (by ac_rfl)).at_ (i := 1) rfl,
                  (Hp.out w42 _ (H42.out.eq (b := ((blk b11 #[.int .i64 (X : Int), .int .i64 (Y : Int)] 66 + (blk b10 #[.int .i64 (X : Int), .int .i64 (Y : Int), .bool dn] 40 + (pts g (.map es clock) + blk b6 #[.int .i64 (WN : Int), .int .i64 (HN : Int), .slice A HN c] 51))) + MS.all w)) (by ac_rfl))).1,
                  (Hp.out w42 _ (H42.out.eq (b := ((blk b11 #[.int .i64 (X : Int), .int .i64 (Y : Int)] 66 + (blk b10 #[.int .i64 (X : Int), .int .i64 (Y : Int), .bool dn] 40 + (pts g (.map es clock) + blk b6 #[.int .i64 (WN : Int), .int .i64 (HN : Int), .slice A HN c] 51))) + MS.all w)) (by ac_rfl))).2,
                  (H42.out.eq (b := (pts g (.map es clock) + (blk b11 #[.int .i64 (X : Int), .int .i64 (Y : Int)] 66 + (blk b10 #[.int .i64 (X : Int), .int .i64 (Y : Int), .bool dn] 40 + (blk b6 #[.int .i64 (WN : Int), .int .i64 (HN : Int), .slice A HN c] 51 + MS.all w))))) (by ac_rfl)).get⟩
              refine wp_region_txt (fun W' => W'.cell? ⟨b6, 0, none⟩ = some (.int .i64 (WN : Int)) ∧ W'.cell? ⟨b6, 1, none⟩ = some (.int .i64 (HN : Int)) ∧ W'.cell? ⟨b6, 2, none⟩ = some (.slice A HN c) ∧ W'.cell? ⟨b11, 0, none⟩ = some (.int .i64 (X : Int)) ∧ W'.cell? ⟨b11, 1, none⟩ = some (.int .i64 (Y : Int)) ∧ W'.cell? ⟨b10, 0, none⟩ = some (.int .i64 (X : Int)) ∧ W'.cell? ⟨b10, 1, none⟩ = some (.int .i64 (Y : Int)) ∧ W'.cell? ⟨bt, ot + j * 3, none⟩ = some (.int .i64 ex) ∧ W'.cell? ⟨bt, ot + j * 3 + 1, none⟩ = some (.int .i64 ey) ∧ W'.heap[g]? = some (.map es clock)) none
                [(0, true), (1, true), (2, true), (3, true), (4, true), (5, false), (6, true), (7, true), (8, true), (9, true), (10, true), (11, true), (12, true), (13, true), (14, true), (15, true), (16, true), (17, true), (18, true), (19, true), (20, true), (21, true), (22, true), (23, true), (24, true), (25, true), (26, true), (27, true), (28, true), (29, true), (30, true), (31, true), (32, true), (33, true), (34, true), (35, true), (36, true), (37, true), (38, true), (39, true), (40, true), (41, true), (42, true), (43, true), (44, true), (45, true), (46, true), (47, true), (48, true)] (by kernel_rfl) rfl (by kernel_rfl) (by kernel_rfl) (by repeat (first | with_reducible refine PanicOk.thn ?_ | with_reducible refine PanicOk.blk ?_ | exact PanicOk.body _ _ _)) ?_
              repeat (first
                | (refine txt_off hS rfl rfl ?_; simp only [Act.put, List.setIfInBounds_toArray, List.set_cons_zero, List.set_cons_succ])
                | (refine txt_quiet ?_ hS rfl rfl (fun W hW => ?_) ?_
                   rotate_left 1
                   · obtain ⟨hW1, hW2, hW3, hW4, hW5, hW6, hW7, hW8, hW9, hW10⟩ := hW
                     go_simp
                     exact rfl
                   simp only [Act.put, List.setIfInBounds_toArray, List.set_cons_zero, List.set_cons_succ]))
              refine txt_op rfl rfl ?_
              have hq := Hhas.out w42.drew ((H42.out.eq (b := ((blk b11 #[.int .i64 (X : Int), .int .i64 (Y : Int)] 66 + (blk b10 #[.int .i64 (X : Int), .int .i64 (Y : Int), .bool dn] 40 + (pts g (.map es clock) + blk b6 #[.int .i64 (WN : Int), .int .i64 (HN : Int), .slice A HN c] 51))) + MS.all w)) (by ac_rfl)).right) (X : Int) (Y : Int)
              rw [hha] at hq
              refine op_call 47 _ _ (by go_simp) _ hq ?_
              rintro e92 w92 ⟨rfl, k92⟩
              have H92 := hid (k92.1 _ H42.out.drew)
              have E92 := hid ((E42.out.trans (Ext.drew _)).trans k92.2)
              clear hS
              have hS : (fun W' : World => W'.cell? ⟨b6, 0, none⟩ = some (.int .i64 (WN : Int)) ∧ W'.cell? ⟨b6, 1, none⟩ = some (.int .i64 (HN : Int)) ∧ W'.cell? ⟨b6, 2, none⟩ = some (.slice A HN c) ∧ W'.cell? ⟨b11, 0, none⟩ = some (.int .i64 (X : Int)) ∧ W'.cell? ⟨b11, 1, none⟩ = some (.int .i64 (Y : Int)) ∧ W'.cell? ⟨b10, 0, none⟩ = some (.int .i64 (X : Int)) ∧ W'.cell? ⟨b10, 1, none⟩ = some (.int .i64 (Y : Int)) ∧ W'.cell? ⟨bt, ot + j * 3, none⟩ = some (.int .i64 ex) ∧ W'.cell? ⟨bt, ot + j * 3 + 1, none⟩ = some (.int .i64 ey) ∧ W'.heap[g]? = some (.map es clock)) w92 := ⟨(H92.out.eq (b := (blk b6 #[.int .i64 (WN : Int), .int .i64 (HN : Int), .slice A HN c] 51 + (blk b11 #[.int .i64 (X : Int), .int .i64 (Y : Int)] 66 + (blk b10 #[.int .i64 (X : Int), .int .i64 (Y : Int), .bool dn] 40 + (pts g (.map es clock) + MS.all w))))) (by ac_rfl)).at_ (i := 0) rfl,
                  (H92.out.eq (b := (blk b6 #[.int .i64 (WN : Int), .int .i64 (HN : Int), .slice A HN c] 51 + (blk b11 #[.int .i64 (X : Int), .int .i64 (Y : Int)] 66 + (blk b10 #[.int .i64 (X : Int), .int .i64 (Y : Int), .bool dn] 40 + (pts g (.map es clock) + MS.all w))))) (by ac_rfl)).at_ (i := 1) rfl,
                  (H92.out.eq (b := (blk b6 #[.int .i64 (WN : Int), .int .i64 (HN : Int), .slice A HN c] 51 + (blk b11 #[.int .i64 (X : Int), .int .i64 (Y : Int)] 66 + (blk b10 #[.int .i64 (X : Int), .int .i64 (Y : Int), .bool dn] 40 + (pts g (.map es clock) + MS.all w))))) (by ac_rfl)).at_ (i := 2) rfl,
                  (H92.out.eq (b := (blk b11 #[.int .i64 (X : Int), .int .i64 (Y : Int)] 66 + (blk b10 #[.int .i64 (X : Int), .int .i64 (Y : Int), .bool dn] 40 + (pts g (.map es clock) + (blk b6 #[.int .i64 (WN : Int), .int .i64 (HN : Int), .slice A HN c] 51 + MS.all w))))) (by ac_rfl)).at_ (i := 0) rfl,
                  (H92.out.eq (b := (blk b11 #[.int .i64 (X : Int), .int .i64 (Y : Int)] 66 + (blk b10 #[.int .i64 (X : Int), .int .i64 (Y : Int), .bool dn] 40 + (pts g (.map es clock) + (blk b6 #[.int .i64 (WN : Int), .int .i64 (HN : Int), .slice A HN c] 51 + MS.all w))))) (by ac_rfl)).at_ (i := 1) rfl,
                  (H92.out.eq (b := (blk b10 #[.int .i64 (X : Int), .int .i64 (Y : Int), .bool dn] 40 + (blk b11 #[.int .i64 (X : Int), .int .i64 (Y : Int)] 66 + (pts g (.map es clock) + (blk b6 #[.int .i64 (WN : Int), .int .i64 (HN : Int), .slice A HN c] 51 + MS.all w))))) (by ac_rfl)).at_ (i := 0) rfl,
                  (H92.out.eq (b := (blk b10 #[.int .i64 (X : Int), .int .i64 (Y : Int), .bool dn] 40 + (blk b11 #[.int .i64 (X : Int), .int .i64 (Y : Int)] 66 + (pts g (.map es clock) + (blk b6 #[.int .i64 (WN : Int), .int .i64 (HN : Int), .slice A HN c] 51 + MS.all w))))) (by ac_rfl)).at_ (i := 1) rfl,
                  (Hp.out w92 _ (H92.out.eq (b := ((blk b11 #[.int .i64 (X : Int), .int .i64 (Y : Int)] 66 + (blk b10 #[.int .i64 (X : Int), .int .i64 (Y : Int), .bool dn] 40 + (pts g (.map es clock) + blk b6 #[.int .i64 (WN : Int), .int .i64 (HN : Int), .slice A HN c] 51))) + MS.all w)) (by ac_rfl))).1,
                  (Hp.out w92 _ (H92.out.eq (b := ((blk b11 #[.int .i64 (X : Int), .int .i64 (Y : Int)] 66 + (blk b10 #[.int .i64 (X : Int), .int .i64 (Y : Int), .bool dn] 40 + (pts g (.map es clock) + blk b6 #[.int .i64 (WN : Int), .int .i64 (HN : Int), .slice A HN c] 51))) + MS.all w)) (by ac_rfl))).2,
                  (H92.out.eq (b := (pts g (.map es clock) + (blk b11 #[.int .i64 (X : Int), .int .i64 (Y : Int)] 66 + (blk b10 #[.int .i64 (X : Int), .int .i64 (Y : Int), .bool dn] 40 + (blk b6 #[.int .i64 (WN : Int), .int .i64 (HN : Int), .slice A HN c] 51 + MS.all w))))) (by ac_rfl)).get⟩
              refine ⟨_, rfl, fun _ => hS, ?_⟩
              simp only [Act.put, List.setIfInBounds_toArray, List.set_cons_zero, List.set_cons_succ]
              clear k92 hq
              iterate 4
                (refine txt_quiet ?_ hS rfl rfl (fun W hW => ?_) ?_
                 rotate_left 1
                 · obtain ⟨hW1, hW2, hW3, hW4, hW5, hW6, hW7, hW8, hW9, hW10⟩ := hW
                   go_simp
                   exact rfl
                 simp only [Act.put, List.setIfInBounds_toArray, List.set_cons_zero, List.set_cons_succ])
              refine txt_quiet (.bool false) hS rfl rfl (fun W hW => ?_) ?_
              · obtain ⟨hW1, hW2, hW3, hW4, hW5, hW6, hW7, hW8, hW9, hW10⟩ := hW
                refine ex_look rfl ?_
                have h := HS.out.look1 pair66 und83 (zero4 W) hW10 (q := ((X : Int), (Y : Int))) Hsm.out
                rw [hlk] at h
                exact h
              simp only [Act.put, List.setIfInBounds_toArray, List.set_cons_zero, List.set_cons_succ]
              repeat (first
                | (refine txt_off hS rfl rfl ?_; simp only [Act.put, List.setIfInBounds_toArray, List.set_cons_zero, List.set_cons_succ])
                | (refine txt_quiet ?_ hS rfl rfl (fun W hW => ?_) ?_
                   rotate_left 1
                   · obtain ⟨hW1, hW2, hW3, hW4, hW5, hW6, hW7, hW8, hW9, hW10⟩ := hW
                     go_simp
                     exact rfl
                   simp only [Act.put, List.setIfInBounds_toArray, List.set_cons_zero, List.set_cons_succ]))
              refine txt_done ?_
              try simp only [Act.put]
              clear hS
              clear hjw
              go_wp2
              go_ret2
              exact ⟨by first | rfl | (rw [hno.out]; rfl), fun M hM => hM.of_all (H92.out.eq (b := ((blk b11 #[.int .i64 (X : Int), .int .i64 (Y : Int)] 66 + (blk b10 #[.int .i64 (X : Int), .int .i64 (Y : Int), .bool dn] 40 + (pts g (.map es clock) + blk b6 #[.int .i64 (WN : Int), .int .i64 (HN : Int), .slice A HN c] 51))) + MS.all w)) (by ac_rfl)), E92.out⟩
            · by_cases h2 : ey = (Y : Int)
              · by_cases h3 : (X : Int) ≤ ex
                · have h1n : ¬ (ey > (Y : Int)) := h1
                  have hord : ordB (prevD t (j + 1)) ((X : Int), (Y : Int), dn) = false := by rw [hpv]; unfold ordB; simp only; simp [h1, h2, h3]
                  have hno := hid (show R = false by
                    rw [Hmore.out]
                    unfold okD fitsB
                    rw [hord]; simp)
                  have hS : (fun W' : World => W'.cell? ⟨b6, 0, none⟩ = some (.int .i64 (WN : Int)) ∧ W'.cell? ⟨b6, 1, none⟩ = some (.int .i64 (HN : Int)) ∧ W'.cell? ⟨b6, 2, none⟩ = some (.slice A HN c) ∧ W'.cell? ⟨b11, 0, none⟩ = some (.int .i64 (X : Int)) ∧ W'.cell? ⟨b11, 1, none⟩ = some (.int .i64 (Y : Int)) ∧ W'.cell? ⟨b10, 0, none⟩ = some (.int .i64 (X : Int)) ∧ W'.cell? ⟨b10, 1, none⟩ = some (.int .i64 (Y : Int)) ∧ W'.cell? ⟨bt, ot + j * 3, none⟩ = some (.int .i64 ex) ∧ W'.cell? ⟨bt, ot + j * 3 + 1, none⟩ = some (.int .i64 ey) ∧ W'.heap[g]? = some (.map es clock)) w42.drew := ⟨(H42.out.eq (b := (blk b6 #[.int .i64 (WN : Int), .int .i64 (HN : Int), .slice A HN c] 51 + (blk b11 #[.int .i64 (X : Int), .int .i64 (Y : Int)] 66 + (blk b10 #[.int .i64 (X : Int), .int .i64 (Y : Int), .bool dn] 40 + (pts g (.map es clock) + MS.all w))))) (by ac_rfl)).at_ (i := 0) rfl,
                      (H42.out.eq (b := (blk b6 #[.int .i64 (WN : Int), .int .i64 (HN : Int), .slice A HN c] 51 + (blk b11 #[.int .i64 (X : Int), .int .i64 (Y : Int)] 66 + (blk b10 #[.int .i64 (X : Int), .int .i64 (Y : Int), .bool dn] 40 + (pts g (.map es clock) + MS.all w))))) (by ac_rfl)).at_ (i := 1) rfl,
                      (H42.out.eq (b := (blk b6 #[.int .i64 (WN : Int), .int .i64 (HN : Int), .slice A HN c] 51 + (blk b11 #[.int .i64 (X : Int), .int .i64 (Y : Int)] 66 + (blk b10 #[.int .i64 (X : Int), .int .i64 (Y : Int), .bool dn] 40 + (pts g (.map es clock) + MS.all w))))) (by ac_rfl)).at_ (i := 2) rfl,
                      (H42.out.eq (b := (blk b11 #[.int .i64 (X : Int), .int .i64 (Y : Int)] 66 + (blk b10 #[.int .i64 (X : Int), .int .i64 (Y : Int), .bool dn] 40 + (pts g (.map es clock) + (blk b6 #[.int .i64 (WN : Int), .int .i64 (HN : Int), .slice A HN c] 51 + MS.all w))))) (by ac_rfl)).at_ (i := 0) rfl,
                      (H42.out.eq (b := (blk b11 #[.int .i64 (X : Int), .int .i64 (Y : Int)] 66 + (blk b10 #[.int .i64 (X : Int), .int .i64 (Y : Int), .bool dn] 40 + (pts g (.map es clock) + (blk b6 #[.int .i64 (WN : Int), .int .i64 (HN : Int), .slice A HN c] 51 + MS.all w))))) (by ac_rfl)).at_ (i := 1) rfl,
                      (H42.out.eq (b := (blk b10 #[.int .i64 (X : Int), .int .i64 (Y : Int), .bool dn] 40 + (blk b11 #[.int .i64 (X : Int), .int .i64 (Y : Int)] 66 + (pts g (.map es clock) + (blk b6 #[.int .i64 (WN : Int), .int .i64 (HN : Int), .slice A HN c] 51 + MS.all w))))) (by ac_rfl)).at_ (i := 0) rfl,
                      (H42.out.eq (b := (blk b10 #[.int .i64 (X : Int), .int .i64 (Y : Int), .bool dn] 40 + (blk b11 #[.int .i64 (X : Int), .int .i64 (Y : Int)] 66 + (pts g (.map es clock) + (blk b6 #[.int .i64 (WN : Int), .int .i64 (HN : Int), .slice A HN c] 51 + MS.all w))))) (by ac_rfl)).at_ (i := 1) rfl,
                      (Hp.out w42 _ (H42.out.eq (b := ((blk b11 #[.int .i64 (X : Int), .int .i64 (Y : Int)] 66 + (blk b10 #[.int .i64 (X : Int), .int .i64 (Y : Int), .bool dn] 40 + (pts g (.map es clock) + blk b6 #[.int .i64 (WN : Int), .int .i64 (HN : Int), .slice A HN c] 51))) + MS.all w)) (by ac_rfl))).1,
                      (Hp.out w42 _ (H42.out.eq (b := ((blk b11 #[.int .i64 (X : Int), .int .i64 (Y : Int)] 66 + (blk b10 #[.int .i64 (X : Int), .int .i64 (Y : Int), .bool dn] 40 + (pts g (.map es clock) + blk b6 #[.int .i64 (WN : Int), .int .i64 (HN : Int), .slice A HN c] 51))) + MS.all w)) (by ac_rfl))).2,
                      (H42.out.eq (b := (pts g (.map es clock) + (blk b11 #[.int .i64 (X : Int), .int .i64 (Y : Int)] 66 + (blk b10 #[.int .i64 (X : Int), .int .i64 (Y : Int), .bool dn] 40 + (blk b6 #[.int .i64 (WN : Int), .int .i64 (HN : Int), .slice A HN c] 51 + MS.all w))))) (by ac_rfl)).get⟩
                  refine wp_region_txt (fun W' => W'.cell? ⟨b6, 0, none⟩ = some (.int .i64 (WN : Int)) ∧ W'.cell? ⟨b6, 1, none⟩ = some (.int .i64 (HN : Int)) ∧ W'.cell? ⟨b6, 2, none⟩ = some (.slice A HN c) ∧ W'.cell? ⟨b11, 0, none⟩ = some (.int .i64 (X : Int)) ∧ W'.cell? ⟨b11, 1, none⟩ = some (.int .i64 (Y : Int)) ∧ W'.cell? ⟨b10, 0, none⟩ = some (.int .i64 (X : Int)) ∧ W'.cell? ⟨b10, 1, none⟩ = some (.int .i64 (Y : Int)) ∧ W'.cell? ⟨bt, ot + j * 3, none⟩ = some (.int .i64 ex) ∧ W'.cell? ⟨bt, ot + j * 3 + 1, none⟩ = some (.int .i64 ey) ∧ W'.heap[g]? = some (.map es clock)) none
                    [(0, true), (1, true), (2, true), (3, true), (4, true), (5, false), (6, true), (7, true), (8, true), (9, true), (10, true), (11, true), (12, true), (13, true), (14, true), (15, true), (16, true), (17, true), (18, true), (19, true), (20, true), (21, true), (22, true), (23, true), (24, true), (25, true), (26, true), (27, true), (28, true), (29, true), (30, true), (31, true), (32, true), (33, true), (34, true), (35, true), (36, true), (37, true), (38, true), (39, true), (40, true), (41, true), (42, true), (43, true), (44, true), (45, true), (46, true), (47, true), (48, true)] (by kernel_rfl) rfl (by kernel_rfl) (by kernel_rfl) (by repeat (first | with_reducible refine PanicOk.thn ?_ | with_reducible refine PanicOk.blk ?_ | exact PanicOk.body _ _ _)) ?_
                  repeat (first
                    | (refine txt_off hS rfl rfl ?_; simp only [Act.put, List.setIfInBounds_toArray, List.set_cons_zero, List.set_cons_succ])
                    | (refine txt_quiet ?_ hS rfl rfl (fun W hW => ?_) ?_
                       rotate_left 1
                       · obtain ⟨hW1, hW2, hW3, hW4, hW5, hW6, hW7, hW8, hW9, hW10⟩ := hW
                         go_simp
                         exact rfl
                       simp only [Act.put, List.setIfInBounds_toArray, List.set_cons_zero, List.set_cons_succ]))
                  refine txt_op rfl rfl ?_
                  have hq := Hhas.out w42.drew ((H42.out.eq (b := ((blk b11 #[.int .i64 (X : Int), .int .i64 (Y : Int)] 66 + (blk b10 #[.int .i64 (X : Int), .int .i64 (Y : Int), .bool dn] 40 + (pts g (.map es clock) + blk b6 #[.int .i64 (WN : Int), .int .i64 (HN : Int), .slice A HN c] 51))) + MS.all w)) (by ac_rfl)).right) (X : Int) (Y : Int)
                  rw [hha] at hq
                  refine op_call 47 _ _ (by go_simp) _ hq ?_
                  rintro e93 w93 ⟨rfl, k93⟩
                  have H93 := hid (k93.1 _ H42.out.drew)
                  have E93 := hid ((E42.out.trans (Ext.drew _)).trans k93.2)
                  clear hS
                  have hS : (fun W' : World => W'.cell? ⟨b6, 0, none⟩ = some (.int .i64 (WN : Int)) ∧ W'.cell? ⟨b6, 1, none⟩ = some (.int .i64 (HN : Int)) ∧ W'.cell? ⟨b6, 2, none⟩ = some (.slice A HN c) ∧ W'.cell? ⟨b11, 0, none⟩ = some (.int .i64 (X : Int)) ∧ W'.cell? ⟨b11, 1, none⟩ = some (.int .i64 (Y : Int)) ∧ W'.cell? ⟨b10, 0, none⟩ = some (.int .i64 (X : Int)) ∧ W'.cell? ⟨b10, 1, none⟩ = some (.int .i64 (Y : Int)) ∧ W'.cell? ⟨bt, ot + j * 3, none⟩ = some (.int .i64 ex) ∧ W'.cell? ⟨bt, ot + j * 3 + 1, none⟩ = some (.int .i64 ey) ∧ W'.heap[g]? = some (.map es clock)) w93 := ⟨(H93.out.eq (b := (blk b6 #[.int .i64 (WN : Int), .int .i64 (HN : Int), .slice A HN c] 51 + (blk b11 #[.int .i64 (X : Int), .int .i64 (Y : Int)] 66 + (blk b10 #[.int .i64 (X : Int), .int .i64 (Y : Int), .bool dn] 40 + (pts g (.map es clock) + MS.all w))))) (by ac_rfl)).at_ (i := 0) rfl,
                      (H93.out.eq (b := (blk b6 #[.int .i64 (WN : Int), .int .i64 (HN : Int), .slice A HN c] 51 + (blk b11 #[.int .i64 (X : Int), .int .i64 (Y : Int)] 66 + (blk b10 #[.int .i64 (X : Int), .int .i64 (Y : Int), .bool dn] 40 + (pts g (.map es clock) + MS.all w))))) (by ac_rfl)).at_ (i := 1) rfl,
                      (H93.out.eq (b := (blk b6 #[.int .i64 (WN : Int), .int .i64 (HN : Int), .slice A HN c] 51 + (blk b11 #[.int .i64 (X : Int), .int .i64 (Y : Int)] 66 + (blk b10 #[.int .i64 (X : Int), .int .i64 (Y : Int), .bool dn] 40 + (pts g (.map es clock) + MS.all w))))) (by ac_rfl)).at_ (i := 2) rfl,
                      (H93.out.eq (b := (blk b11 #[.int .i64 (X : Int), .int .i64 (Y : Int)] 66 + (blk b10 #[.int .i64 (X : Int), .int .i64 (Y : Int), .bool dn] 40 + (pts g (.map es clock) + (blk b6 #[.int .i64 (WN : Int), .int .i64 (HN : Int), .slice A HN c] 51 + MS.all w))))) (by ac_rfl)).at_ (i := 0) rfl,
                      (H93.out.eq (b := (blk b11 #[.int .i64 (X : Int), .int .i64 (Y : Int)] 66 + (blk b10 #[.int .i64 (X : Int), .int .i64 (Y : Int), .bool dn] 40 + (pts g (.map es clock) + (blk b6 #[.int .i64 (WN : Int), .int .i64 (HN : Int), .slice A HN c] 51 + MS.all w))))) (by ac_rfl)).at_ (i := 1) rfl,
                      (H93.out.eq (b := (blk b10 #[.int .i64 (X : Int), .int .i64 (Y : Int), .bool dn] 40 + (blk b11 #[.int .i64 (X : Int), .int .i64 (Y : Int)] 66 + (pts g (.map es clock) + (blk b6 #[.int .i64 (WN : Int), .int .i64 (HN : Int), .slice A HN c] 51 + MS.all w))))) (by ac_rfl)).at_ (i := 0) rfl,
                      (H93.out.eq (b := (blk b10 #[.int .i64 (X : Int), .int .i64 (Y : Int), .bool dn] 40 + (blk b11 #[.int .i64 (X : Int), .int .i64 (Y : Int)] 66 + (pts g (.map es clock) + (blk b6 #[.int .i64 (WN : Int), .int .i64 (HN : Int), .slice A HN c] 51 + MS.all w))))) (by ac_rfl)).at_ (i := 1) rfl,
                      (Hp.out w93 _ (H93.out.eq (b := ((blk b11 #[.int .i64 (X : Int), .int .i64 (Y : Int)] 66 + (blk b10 #[.int .i64 (X : Int), .int .i64 (Y : Int), .bool dn] 40 + (pts g (.map es clock) + blk b6 #[.int .i64 (WN : Int), .int .i64 (HN : Int), .slice A HN c] 51))) + MS.all w)) (by ac_rfl))).1,
                      (Hp.out w93 _ (H93.out.eq (b := ((blk b11 #[.int .i64 (X : Int), .int .i64 (Y : Int)] 66 + (blk b10 #[.int .i64 (X : Int), .int .i64 (Y : Int), .bool dn] 40 + (pts g (.map es clock) + blk b6 #[.int .i64 (WN : Int), .int .i64 (HN : Int), .slice A HN c] 51))) + MS.all w)) (by ac_rfl))).2,
                      (H93.out.eq (b := (pts g (.map es clock) + (blk b11 #[.int .i64 (X : Int), .int .i64 (Y : Int)] 66 + (blk b10 #[.int .i64 (X : Int), .int .i64 (Y : Int), .bool dn] 40 + (blk b6 #[.int .i64 (WN : Int), .int .i64 (HN : Int), .slice A HN c] 51 + MS.all w))))) (by ac_rfl)).get⟩
                  refine ⟨_, rfl, fun _ => hS, ?_⟩
                  simp only [Act.put, List.setIfInBounds_toArray, List.set_cons_zero, List.set_cons_succ]
                  clear k93 hq
                  iterate 4
                    (refine txt_quiet ?_ hS rfl rfl (fun W hW => ?_) ?_
                     rotate_left 1
                     · obtain ⟨hW1, hW2, hW3, hW4, hW5, hW6, hW7, hW8, hW9, hW10⟩ := hW
                       go_simp
                       exact rfl
                     simp only [Act.put, List.setIfInBounds_toArray, List.set_cons_zero, List.set_cons_succ])
                  refine txt_quiet (.bool false) hS rfl rfl (fun W hW => ?_) ?_
                  · obtain ⟨hW1, hW2, hW3, hW4, hW5, hW6, hW7, hW8, hW9, hW10⟩ := hW
                    refine ex_look rfl ?_
                    have h := HS.out.look1 pair66 und83 (zero4 W) hW10 (q := ((X : Int), (Y : Int))) Hsm.out
                    rw [hlk] at h
                    exact h
                  simp only [Act.put, List.setIfInBounds_toArray, List.set_cons_zero, List.set_cons_succ]
                  repeat (first
                    | (refine txt_off hS rfl rfl ?_; simp only [Act.put, List.setIfInBounds_toArray, List.set_cons_zero, List.set_cons_succ])
                    | (refine txt_quiet ?_ hS rfl rfl (fun W hW => ?_) ?_
                       rotate_left 1
                       · obtain ⟨hW1, hW2, hW3, hW4, hW5, hW6, hW7, hW8, hW9, hW10⟩ := hW
                         go_simp
                         exact rfl
                       simp only [Act.put, List.setIfInBounds_toArray, List.set_cons_zero, List.set_cons_succ]))
                  refine txt_done ?_
                  try simp only [Act.put]
                  clear hS
                  clear hjw
                  go_wp2
                  go_ret2
                  exact ⟨by first | rfl | (rw [hno.out]; rfl), fun M hM => hM.of_all (H93.out.eq (b := ((blk b11 #[.int .i64 (X : Int), .int .i64 (Y : Int)] 66 + (blk b10 #[.int .i64 (X : Int), .int .i64 (Y : Int), .bool dn] 40 + (pts g (.map es clock) + blk b6 #[.int .i64 (WN : Int), .int .i64 (HN : Int), .slice A HN c] 51))) + MS.all w)) (by ac_rfl)), E93.out⟩
                · have h1n : ¬ (ey > (Y : Int)) := h1
                  have hord : ordB (prevD t (j + 1)) ((X : Int), (Y : Int), dn) = true := by rw [hpv]; unfold ordB; simp only; simp [h1, h2, h3]
                  have hS : (fun W' : World => W'.cell? ⟨b6, 0, none⟩ = some (.int .i64 (WN : Int)) ∧ W'.cell? ⟨b6, 1, none⟩ = some (.int .i64 (HN : Int)) ∧ W'.cell? ⟨b6, 2, none⟩ = some (.slice A HN c) ∧ W'.cell? ⟨b11, 0, none⟩ = some (.int .i64 (X : Int)) ∧ W'.cell? ⟨b11, 1, none⟩ = some (.int .i64 (Y : Int)) ∧ W'.cell? ⟨b10, 0, none⟩ = some (.int .i64 (X : Int)) ∧ W'.cell? ⟨b10, 1, none⟩ = some (.int .i64 (Y : Int)) ∧ W'.cell? ⟨bt, ot + j * 3, none⟩ = some (.int .i64 ex) ∧ W'.cell? ⟨bt, ot + j * 3 + 1, none⟩ = some (.int .i64 ey) ∧ W'.heap[g]? = some (.map es clock)) w42.drew := ⟨(H42.out.eq (b := (blk b6 #[.int .i64 (WN : Int), .int .i64 (HN : Int), .slice A HN c] 51 + (blk b11 #[.int .i64 (X : Int), .int .i64 (Y : Int)] 66 + (blk b10 #[.int .i64 (X : Int), .int .i64 (Y : Int), .bool dn] 40 + (pts g (.map es clock) + MS.all w))))) (by ac_rfl)).at_ (i := 0) rfl,
                      (H42.out.eq (b := (blk b6 #[.int .i64 (WN : Int), .int .i64 (HN : Int), .slice A HN c] 51 + (blk b11 #[.int .i64 (X : Int), .int .i64 (Y : Int)] 66 + (blk b10 #[.int .i64 (X : Int), .int .i64 (Y : Int), .bool dn] 40 + (pts g (.map es clock) + MS.all w))))) (by ac_rfl)).at_ (i := 1) rfl,
                      (H42.out.eq (b := (blk b6 #[.int .i64 (WN : Int), .int .i64 (HN : Int), .slice A HN c] 51 + (blk b11 #[.int .i64 (X : Int), .int .i64 (Y : Int)] 66 + (blk b10 #[.int .i64 (X : Int), .int .i64 (Y : Int), .bool dn] 40 + (pts g (.map es clock) + MS.all w))))) (by ac_rfl)).at_ (i := 2) rfl,
                      (H42.out.eq (b := (blk b11 #[.int .i64 (X : Int), .int .i64 (Y : Int)] 66 + (blk b10 #[.int .i64 (X : Int), .int .i64 (Y : Int), .bool dn] 40 + (pts g (.map es clock) + (blk b6 #[.int .i64 (WN : Int), .int .i64 (HN : Int), .slice A HN c] 51 + MS.all w))))) (by ac_rfl)).at_ (i := 0) rfl,
                      (H42.out.eq (b := (blk b11 #[.int .i64 (X : Int), .int .i64 (Y : Int)] 66 + (blk b10 #[.int .i64 (X : Int), .int .i64 (Y : Int), .bool dn] 40 + (pts g (.map es clock) + (blk b6 #[.int .i64 (WN : Int), .int .i64 (HN : Int), .slice A HN c] 51 + MS.all w))))) (by ac_rfl)).at_ (i := 1) rfl,
                      (H42.out.eq (b := (blk b10 #[.int .i64 (X : Int), .int .i64 (Y : Int), .bool dn] 40 + (blk b11 #[.int .i64 (X : Int), .int .i64 (Y : Int)] 66 + (pts g (.map es clock) + (blk b6 #[.int .i64 (WN : Int), .int .i64 (HN : Int), .slice A HN c] 51 + MS.all w))))) (by ac_rfl)).at_ (i := 0) rfl,
                      (H42.out.eq (b := (blk b10 #[.int .i64 (X : Int), .int .i64 (Y : Int), .bool dn] 40 + (blk b11 #[.int .i64 (X : Int), .int .i64 (Y : Int)] 66 + (pts g (.map es clock) + (blk b6 #[.int .i64 (WN : Int), .int .i64 (HN : Int), .slice A HN c] 51 + MS.all w))))) (by ac_rfl)).at_ (i := 1) rfl,
                      (Hp.out w42 _ (H42.out.eq (b := ((blk b11 #[.int .i64 (X : Int), .int .i64 (Y : Int)] 66 + (blk b10 #[.int .i64 (X : Int), .int .i64 (Y : Int), .bool dn] 40 + (pts g (.map es clock) + blk b6 #[.int .i64 (WN : Int), .int .i64 (HN : Int), .slice A HN c] 51))) + MS.all w)) (by ac_rfl))).1,
                      (Hp.out w42 _ (H42.out.eq (b := ((blk b11 #[.int .i64 (X : Int), .int .i64 (Y : Int)] 66 + (blk b10 #[.int .i64 (X : Int), .int .i64 (Y : Int), .bool dn] 40 + (pts g (.map es clock) + blk b6 #[.int .i64 (WN : Int), .int .i64 (HN : Int), .slice A HN c] 51))) + MS.all w)) (by ac_rfl))).2,
                      (H42.out.eq (b := (pts g (.map es clock) + (blk b11 #[.int .i64 (X : Int), .int .i64 (Y : Int)] 66 + (blk b10 #[.int .i64 (X : Int), .int .i64 (Y : Int), .bool dn] 40 + (blk b6 #[.int .i64 (WN : Int), .int .i64 (HN : Int), .slice A HN c] 51 + MS.all w))))) (by ac_rfl)).get⟩
                  refine wp_region_txt (fun W' => W'.cell? ⟨b6, 0, none⟩ = some (.int .i64 (WN : Int)) ∧ W'.cell? ⟨b6, 1, none⟩ = some (.int .i64 (HN : Int)) ∧ W'.cell? ⟨b6, 2, none⟩ = some (.slice A HN c) ∧ W'.cell? ⟨b11, 0, none⟩ = some (.int .i64 (X : Int)) ∧ W'.cell? ⟨b11, 1, none⟩ = some (.int .i64 (Y : Int)) ∧ W'.cell? ⟨b10, 0, none⟩ = some (.int .i64 (X : Int)) ∧ W'.cell? ⟨b10, 1, none⟩ = some (.int .i64 (Y : Int)) ∧ W'.cell? ⟨bt, ot + j * 3, none⟩ = some (.int .i64 ex) ∧ W'.cell? ⟨bt, ot + j * 3 + 1, none⟩ = some (.int .i64 ey) ∧ W'.heap[g]? = some (.map es clock)) none
                    [(0, true), (1, true), (2, true), (3, true), (4, true), (5, false), (6, true), (7, true), (8, true), (9, true), (10, true), (11, true), (12, true), (13, true), (14, true), (15, true), (16, true), (17, true), (18, true), (19, true), (20, true), (21, true), (22, true), (23, true), (24, true), (25, true), (26, true), (27, true), (28, true), (29, true), (30, true), (31, true), (32, true), (33, true), (34, true), (35, true), (36, true), (37, true), (38, true), (39, true), (40, true), (41, true), (42, true), (43, true), (44, true), (45, true), (46, true), (47, true), (48, true)] (by kernel_rfl) rfl (by kernel_rfl) (by kernel_rfl) (by repeat (first | with_reducible refine PanicOk.thn ?_ | with_reducible refine PanicOk.blk ?_ | exact PanicOk.body _ _ _)) ?_
                  repeat (first
                    | (refine txt_off hS rfl rfl ?_; simp only [Act.put, List.setIfInBounds_toArray, List.set_cons_zero, List.set_cons_succ])
                    | (refine txt_quiet ?_ hS rfl rfl (fun W hW => ?_) ?_
                       rotate_left 1
                       · obtain ⟨hW1, hW2, hW3, hW4, hW5, hW6, hW7, hW8, hW9, hW10⟩ := hW
                         go_simp
                         exact rfl
                       simp only [Act.put, List.setIfInBounds_toArray, List.set_cons_zero, List.set_cons_succ]))
                  refine txt_op rfl rfl ?_
                  have hq := Hhas.out w42.drew ((H42.out.eq (b := ((blk b11 #[.int .i64 (X : Int), .int .i64 (Y : Int)] 66 + (blk b10 #[.int .i64 (X : Int), .int .i64 (Y : Int), .bool dn] 40 + (pts g (.map es clock) + blk b6 #[.int .i64 (WN : Int), .int .i64 (HN : Int), .slice A HN c] 51))) + MS.all w)) (by ac_rfl)).right) (X : Int) (Y : Int)
                  rw [hha] at hq
                  refine op_call 47 _ _ (by go_simp) _ hq ?_
                  rintro e94 w94 ⟨rfl, k94⟩
                  have H94 := hid (k94.1 _ H42.out.drew)
                  have E94 := hid ((E42.out.trans (Ext.drew _)).trans k94.2)
                  clear hS
                  have hS : (fun W' : World => W'.cell? ⟨b6, 0, none⟩ = some (.int .i64 (WN : Int)) ∧ W'.cell? ⟨b6, 1, none⟩ = some (.int .i64 (HN : Int)) ∧ W'.cell? ⟨b6, 2, none⟩ = some (.slice A HN c) ∧ W'.cell? ⟨b11, 0, none⟩ = some (.int .i64 (X : Int)) ∧ W'.cell? ⟨b11, 1, none⟩ = some (.int .i64 (Y : Int)) ∧ W'.cell? ⟨b10, 0, none⟩ = some (.int .i64 (X : Int)) ∧ W'.cell? ⟨b10, 1, none⟩ = some (.int .i64 (Y : Int)) ∧ W'.cell? ⟨bt, ot + j * 3, none⟩ = some (.int .i64 ex) ∧ W'.cell? ⟨bt, ot + j * 3 + 1, none⟩ = some (.int .i64 ey) ∧ W'.heap[g]? = some (.map es clock)) w94 := ⟨(H94.out.eq (b := (blk b6 #[.int .i64 (WN : Int), .int .i64 (HN : Int), .slice A HN c] 51 + (blk b11 #[.int .i64 (X : Int), .int .i64 (Y : Int)] 66 + (blk b10 #[.int .i64 (X : Int), .int .i64 (Y : Int), .bool dn] 40 + (pts g (.map es clock) + MS.all w))))) (by ac_rfl)).at_ (i := 0) rfl,
                      (H94.out.eq (b := (blk b6 #[.int .i64 (WN : Int), .int .i64 (HN : Int), .slice A HN c] 51 + (blk b11 #[.int .i64 (X : Int), .int .i64 (Y : Int)] 66 + (blk b10 #[.int .i64 (X : Int), .int .i64 (Y : Int), .bool dn] 40 + (pts g (.map es clock) + MS.all w))))) (by ac_rfl)).at_ (i := 1) rfl,
                      (H94.out.eq (b := (blk b6 #[.int .i64 (WN : Int), .int .i64 (HN : Int), .slice A HN c] 51 + (blk b11 #[.int .i64 (X : Int), .int .i64 (Y : Int)] 66 + (blk b10 #[.int .i64 (X : Int), .int .i64 (Y : Int), .bool dn] 40 + (pts g (.map es clock) + MS.all w))))) (by ac_rfl)).at_ (i := 2) rfl,
                      (H94.out.eq (b := (blk b11 #[.int .i64 (X : Int), .int .i64 (Y : Int)] 66 + (blk b10 #[.int .i64 (X : Int), .int .i64 (Y : Int), .bool dn] 40 + (pts g (.map es clock) + (blk b6 #[.int .i64 (WN : Int), .int .i64 (HN : Int), .slice A HN c] 51 + MS.all w))))) (by ac_rfl)).at_ (i := 0) rfl,
                      (H94.out.eq (b := (blk b11 #[.int .i64 (X : Int), .int .i64 (Y : Int)] 66 + (blk b10 #[.int .i64 (X : Int), .int .i64 (Y : Int), .bool dn] 40 + (pts g (.map es clock) + (blk b6 #[.int .i64 (WN : Int), .int .i64 (HN : Int), .slice A HN c] 51 + MS.all w))))) (by ac_rfl)).at_ (i := 1) rfl,
                      (H94.out.eq (b := (blk b10 #[.int .i64 (X : Int), .int .i64 (Y : Int), .bool dn] 40 + (blk b11 #[.int .i64 (X : Int), .int .i64 (Y : Int)] 66 + (pts g (.map es clock) + (blk b6 #[.int .i64 (WN : Int), .int .i64 (HN : Int), .slice A HN c] 51 + MS.all w))))) (by ac_rfl)).at_ (i := 0) rfl,
                      (H94.out.eq (b := (blk b10 #[.int .i64 (X : Int), .int .i64 (Y : Int), .bool dn] 40 + (blk b11 #[.int .i64 (X : Int), .int .i64 (Y : Int)] 66 + (pts g (.map es clock) + (blk b6 #[.int .i64 (WN : Int), .int .i64 (HN : Int), .slice A HN c] 51 + MS.all w))))) (by ac_rfl)).at_ (i := 1) rfl,
                      (Hp.out w94 _ (H94.out.eq (b := ((blk b11 #[.int .i64 (X : Int), .int .i64 (Y : Int)] 66 + (blk b10 #[.int .i64 (X : Int), .int .i64 (Y : Int), .bool dn] 40 + (pts g (.map es clock) + blk b6 #[.int .i64 (WN : Int), .int .i64 (HN : Int), .slice A HN c] 51))) + MS.all w)) (by ac_rfl))).1,
                      (Hp.out w94 _ (H94.out.eq (b := ((blk b11 #[.int .i64 (X : Int), .int .i64 (Y : Int)] 66 + (blk b10 #[.int .i64 (X : Int), .int .i64 (Y : Int), .bool dn] 40 + (pts g (.map es clock) + blk b6 #[.int .i64 (WN : Int), .int .i64 (HN : Int), .slice A HN c] 51))) + MS.all w)) (by ac_rfl))).2,
                      (H94.out.eq (b := (pts g (.map es clock) + (blk b11 #[.int .i64 (X : Int), .int .i64 (Y : Int)] 66 + (blk b10 #[.int .i64 (X : Int), .int .i64 (Y : Int), .bool dn] 40 + (blk b6 #[.int .i64 (WN : Int), .int .i64 (HN : Int), .slice A HN c] 51 + MS.all w))))) (by ac_rfl)).get⟩
                  refine ⟨_, rfl, fun _ => hS, ?_⟩
                  simp only [Act.put, List.setIfInBounds_toArray, List.set_cons_zero, List.set_cons_succ]
                  clear k94 hq
                  iterate 4
                    (refine txt_quiet ?_ hS rfl rfl (fun W hW => ?_) ?_
                     rotate_left 1
                     · obtain ⟨hW1, hW2, hW3, hW4, hW5, hW6, hW7, hW8, hW9, hW10⟩ := hW
                       go_simp
                       exact rfl
                     simp only [Act.put, List.setIfInBounds_toArray, List.set_cons_zero, List.set_cons_succ])
                  refine txt_quiet (.bool false) hS rfl rfl (fun W hW => ?_) ?_
                  · obtain ⟨hW1, hW2, hW3, hW4, hW5, hW6, hW7, hW8, hW9, hW10⟩ := hW
                    refine ex_look rfl ?_
                    have h := HS.out.look1 pair66 und83 (zero4 W) hW10 (q := ((X : Int), (Y : Int))) Hsm.out
                    rw [hlk] at h
                    exact h
                  simp only [Act.put, List.setIfInBounds_toArray, List.set_cons_zero, List.set_cons_succ]
                  repeat (first
                    | (refine txt_off hS rfl rfl ?_; simp only [Act.put, List.setIfInBounds_toArray, List.set_cons_zero, List.set_cons_succ])
                    | (refine txt_quiet ?_ hS rfl rfl (fun W hW => ?_) ?_
                       rotate_left 1
                       · obtain ⟨hW1, hW2, hW3, hW4, hW5, hW6, hW7, hW8, hW9, hW10⟩ := hW
                         go_simp
                         exact rfl
                       simp only [Act.put, List.setIfInBounds_toArray, List.set_cons_zero, List.set_cons_succ]))
                  refine txt_done ?_
                  try simp only [Act.put]
                  clear hS
                  clear hjw
                  have v0 := (H94.out.eq (b := (blk b10 #[.int .i64 (X : Int), .int .i64 (Y : Int), .bool dn] 40 + (blk b11 #[.int .i64 (X : Int), .int .i64 (Y : Int)] 66 + (pts g (.map es clock) + (blk b6 #[.int .i64 (WN : Int), .int .i64 (HN : Int), .slice A HN c] 51 + MS.all w))))) (by ac_rfl)).at_ (i := 0) rfl
                  have v1 := (H94.out.eq (b := (blk b10 #[.int .i64 (X : Int), .int .i64 (Y : Int), .bool dn] 40 + (blk b11 #[.int .i64 (X : Int), .int .i64 (Y : Int)] 66 + (pts g (.map es clock) + (blk b6 #[.int .i64 (WN : Int), .int .i64 (HN : Int), .slice A HN c] 51 + MS.all w))))) (by ac_rfl)).at_ (i := 1) rfl
                  have v2 := (H94.out.eq (b := (blk b10 #[.int .i64 (X : Int), .int .i64 (Y : Int), .bool dn] 40 + (blk b11 #[.int .i64 (X : Int), .int .i64 (Y : Int)] 66 + (pts g (.map es clock) + (blk b6 #[.int .i64 (WN : Int), .int .i64 (HN : Int), .slice A HN c] 51 + MS.all w))))) (by ac_rfl)).at_ (i := 2) rfl
                  clear hlk
                  cases hhb : hsI p ox oy with
                  | false =>
                    have hno := hid (show R = false by
                      rw [Hmore.out]
                      unfold okD fitsB
                      simp only [Int.toNat_natCast]
                      have h0 : (decide (onY Y dn < HN) && (decide (onX X dn < WN) && (f X Y && f (onX X dn) (onY Y dn)))) = false := by
                        cases h : f (onX X dn) (onY Y dn) with
                        | false => simp
                        | true =>
                          have h2 := Hfs.out _ _ h
                          rw [← HasN.out, ← otX_n, ← otY_n, ← Hox.out, ← Hoy.out, hhb] at h2
                          cases h2
                      rw [h0]; simp)
                    go_wp2_with (first
                      | (go_at_call 47; refine (hq).mono ?_; rintro e91 w91 ⟨rfl, k91⟩; have H91 := hid (k91.1 _ H82.out); have E91 := hid (E82.out.trans k91.2); clear k91; clear hq; clear v0 v1 u0 u1 u2)
                      | (rw [← Hb12.out]; refine wpList_store_whole rfl (.tmp 12) (.tmp 83) 66 rfl 2 size66 b12 (.agg #[.int .i64 ox, .int .i64 oy]) rfl rfl rfl (by simp [Value.cells, Value.oneCell']) #[.int .i64 0, .int .i64 0] 66 _ HAb12.out rfl ?_; intro w82 j1 j2; have H82 := hid (show Has w82 (blk b12 #[.int .i64 ox, .int .i64 oy] 66 + (blk b11 #[.int .i64 (X : Int), .int .i64 (Y : Int)] 66 + (blk b10 #[.int .i64 (X : Int), .int .i64 (Y : Int), .bool dn] 40 + (pts g (.map es clock) + (blk b6 #[.int .i64 (WN : Int), .int .i64 (HN : Int), .slice A HN c] 51 + MS.all w))))) from j1.eq (by unfold blk; ac_rfl)); have E82 := hid ((E81.out.trans (Ext.alloc _ _)).trans j2); clear j1 j2; have u0 := (H82.out.eq (b := (blk b6 #[.int .i64 (WN : Int), .int .i64 (HN : Int), .slice A HN c] 51 + (blk b12 #[.int .i64 ox, .int .i64 oy] 66 + (blk b11 #[.int .i64 (X : Int), .int .i64 (Y : Int)] 66 + (blk b10 #[.int .i64 (X : Int), .int .i64 (Y : Int), .bool dn] 40 + (pts g (.map es clock) + MS.all w)))))) (by ac_rfl)).at_ (i := 0) rfl; have u1 := (H82.out.eq (b := (blk b6 #[.int .i64 (WN : Int), .int .i64 (HN : Int), .slice A HN c] 51 + (blk b12 #[.int .i64 ox, .int .i64 oy] 66 + (blk b11 #[.int .i64 (X : Int), .int .i64 (Y : Int)] 66 + (blk b10 #[.int .i64 (X : Int), .int .i64 (Y : Int), .bool dn] 40 + (pts g (.map es clock) + MS.all w)))))) (by ac_rfl)).at_ (i := 1) rfl; have u2 := (H82.out.eq (b := (blk b6 #[.int .i64 (WN : Int), .int .i64 (HN : Int), .slice A HN c] 51 + (blk b12 #[.int .i64 ox, .int .i64 oy] 66 + (blk b11 #[.int .i64 (X : Int), .int .i64 (Y : Int)] 66 + (blk b10 #[.int .i64 (X : Int), .int .i64 (Y : Int), .bool dn] 40 + (pts g (.map es clock) + MS.all w)))))) (by ac_rfl)).at_ (i := 2) rfl; have v0 := (H82.out.eq (b := (blk b12 #[.int .i64 ox, .int .i64 oy] 66 + (blk b11 #[.int .i64 (X : Int), .int .i64 (Y : Int)] 66 + (blk b10 #[.int .i64 (X : Int), .int .i64 (Y : Int), .bool dn] 40 + (pts g (.map es clock) + (blk b6 #[.int .i64 (WN : Int), .int .i64 (HN : Int), .slice A HN c] 51 + MS.all w)))))) (by ac_rfl)).at_ (i := 0) rfl; have v1 := (H82.out.eq (b := (blk b12 #[.int .i64 ox, .int .i64 oy] 66 + (blk b11 #[.int .i64 (X : Int), .int .i64 (Y : Int)] 66 + (blk b10 #[.int .i64 (X : Int), .int .i64 (Y : Int), .bool dn] 40 + (pts g (.map es clock) + (blk b6 #[.int .i64 (WN : Int), .int .i64 (HN : Int), .slice A HN c] 51 + MS.all w)))))) (by ac_rfl)).at_ (i := 1) rfl; have hq := Hhas.out w82 ((H82.out.eq (b := ((blk b12 #[.int .i64 ox, .int .i64 oy] 66 + (blk b11 #[.int .i64 (X : Int), .int .i64 (Y : Int)] 66 + (blk b10 #[.int .i64 (X : Int), .int .i64 (Y : Int), .bool dn] 40 + (pts g (.map es clock) + blk b6 #[.int .i64 (WN : Int), .int .i64 (HN : Int), .slice A HN c] 51)))) + MS.all w)) (by ac_rfl)).right) ox oy; rw [hhb] at hq)
                      | (go_at_call 62; refine (Hoth.out w94).mono ?_; rintro e81 w81 ⟨rfl, k81⟩; have H81 := hid (k81.1 _ H94.out); have E81 := hid (E94.out.trans k81.2); clear k81; clear v0 v1 v2; obtain ⟨b12, hb12⟩ : ∃ b12, b12 = w81.heap.size := ⟨_, rfl⟩; have HAb12 := hid (show Has (w81.alloc (.cells #[.int .i64 0, .int .i64 0] 66)) (blk b12 #[.int .i64 0, .int .i64 0] 66 + (blk b11 #[.int .i64 (X : Int), .int .i64 (Y : Int)] 66 + (blk b10 #[.int .i64 (X : Int), .int .i64 (Y : Int), .bool dn] 40 + (pts g (.map es clock) + (blk b6 #[.int .i64 (WN : Int), .int .i64 (HN : Int), .slice A HN c] 51 + MS.all w))))) by rw [hb12]; exact H81.out.alloc _); have Hb12 := hid hb12; clear hb12))
                    go_wp2
                    go_ret2
                    exact ⟨by first | rfl | (rw [hno.out]; rfl), fun M hM => hM.of_all (H91.out.eq (b := ((blk b12 #[.int .i64 ox, .int .i64 oy] 66 + (blk b11 #[.int .i64 (X : Int), .int .i64 (Y : Int)] 66 + (blk b10 #[.int .i64 (X : Int), .int .i64 (Y : Int), .bool dn] 40 + (pts g (.map es clock) + blk b6 #[.int .i64 (WN : Int), .int .i64 (HN : Int), .slice A HN c] 51)))) + MS.all w)) (by ac_rfl)), E91.out⟩
                  | true =>
                    have hb := hhb
                    rw [Hox.out, Hoy.out, otX_n, otY_n, HasN.out] at hb
                    have hlb := Hcov.out _ _ hb
                    have hbin := Hin.out _ _ hb
                    have Hsm2 := hid (show small (ox, oy) from by rw [Hox.out, Hoy.out, otX_n, otY_n]; unfold small; simp only; omega)
                    rw [← otX_n, ← otY_n, ← Hox.out, ← Hoy.out] at hlb
                    have Hox2 := hid (show ((onX X dn : Nat)) = onX X dn from rfl)
                    have Hoy2 := hid (show ((onY Y dn : Nat)) = onY Y dn from rfl)
                    cases hfb : f (onX X dn) (onY Y dn) with
                    | false =>
                      rw [hfb, if_neg (by decide)] at hlb
                      have Hlk2 := hid (show (lkM S (ox, oy)).getD (.bool false) = .bool true by rw [hlb]; rfl)
                      have hno := hid (show R = false by
                        rw [Hmore.out]
                        unfold okD fitsB
                        simp only [Int.toNat_natCast, hfb]
                        simp)
                      go_wp2_with (first
                        | (go_at_call 47; refine (hq).mono ?_; rintro e91 w91 ⟨rfl, k91⟩; have H91 := hid (k91.1 _ H82.out); have E91 := hid (E82.out.trans k91.2); clear k91; clear hq; have hlk2 := HS.out.look1 pair66 und83 (zero4 w91) ((H91.out.eq (b := (pts g (.map es clock) + (blk b12 #[.int .i64 ox, .int .i64 oy] 66 + (blk b11 #[.int .i64 (X : Int), .int .i64 (Y : Int)] 66 + (blk b10 #[.int .i64 (X : Int), .int .i64 (Y : Int), .bool dn] 40 + (blk b6 #[.int .i64 (WN : Int), .int .i64 (HN : Int), .slice A HN c] 51 + MS.all w)))))) (by ac_rfl)).get) (q := (ox, oy)) Hsm2.out; rw [Hlk2.out] at hlk2; have hlk2 : (Instr.lookup 83 (.map (some g)) (.agg #[.int .i64 ox, .int .i64 oy]) false).run Tryd.prog w91 = .ok (.bool true) w91 := hlk2; clear v0 v1 u0 u1 u2; have v0 := (H91.out.eq (b := (blk b12 #[.int .i64 ox, .int .i64 oy] 66 + (blk b11 #[.int .i64 (X : Int), .int .i64 (Y : Int)] 66 + (blk b10 #[.int .i64 (X : Int), .int .i64 (Y : Int), .bool dn] 40 + (pts g (.map es clock) + (blk b6 #[.int .i64 (WN : Int), .int .i64 (HN : Int), .slice A HN c] 51 + MS.all w)))))) (by ac_rfl)).at_ (i := 0) rfl; have v1 := (H91.out.eq (b := (blk b12 #[.int .i64 ox, .int .i64 oy] 66 + (blk b11 #[.int .i64 (X : Int), .int .i64 (Y : Int)] 66 + (blk b10 #[.int .i64 (X : Int), .int .i64 (Y : Int), .bool dn] 40 + (pts g (.map es clock) + (blk b6 #[.int .i64 (WN : Int), .int .i64 (HN : Int), .slice A HN c] 51 + MS.all w)))))) (by ac_rfl)).at_ (i := 1) rfl)
                        | (rw [← Hb12.out]; refine wpList_store_whole rfl (.tmp 12) (.tmp 83) 66 rfl 2 size66 b12 (.agg #[.int .i64 ox, .int .i64 oy]) rfl rfl rfl (by simp [Value.cells, Value.oneCell']) #[.int .i64 0, .int .i64 0] 66 _ HAb12.out rfl ?_; intro w82 j1 j2; have H82 := hid (show Has w82 (blk b12 #[.int .i64 ox, .int .i64 oy] 66 + (blk b11 #[.int .i64 (X : Int), .int .i64 (Y : Int)] 66 + (blk b10 #[.int .i64 (X : Int), .int .i64 (Y : Int), .bool dn] 40 + (pts g (.map es clock) + (blk b6 #[.int .i64 (WN : Int), .int .i64 (HN : Int), .slice A HN c] 51 + MS.all w))))) from j1.eq (by unfold blk; ac_rfl)); have E82 := hid ((E81.out.trans (Ext.alloc _ _)).trans j2); clear j1 j2; have u0 := (H82.out.eq (b := (blk b6 #[.int .i64 (WN : Int), .int .i64 (HN : Int), .slice A HN c] 51 + (blk b12 #[.int .i64 ox, .int .i64 oy] 66 + (blk b11 #[.int .i64 (X : Int), .int .i64 (Y : Int)] 66 + (blk b10 #[.int .i64 (X : Int), .int .i64 (Y : Int), .bool dn] 40 + (pts g (.map es clock) + MS.all w)))))) (by ac_rfl)).at_ (i := 0) rfl; have u1 := (H82.out.eq (b := (blk b6 #[.int .i64 (WN : Int), .int .i64 (HN : Int), .slice A HN c] 51 + (blk b12 #[.int .i64 ox, .int .i64 oy] 66 + (blk b11 #[.int .i64 (X : Int), .int .i64 (Y : Int)] 66 + (blk b10 #[.int .i64 (X : Int), .int .i64 (Y : Int), .bool dn] 40 + (pts g (.map es clock) + MS.all w)))))) (by ac_rfl)).at_ (i := 1) rfl; have u2 := (H82.out.eq (b := (blk b6 #[.int .i64 (WN : Int), .int .i64 (HN : Int), .slice A HN c] 51 + (blk b12 #[.int .i64 ox, .int .i64 oy] 66 + (blk b11 #[.int .i64 (X : Int), .int .i64 (Y : Int)] 66 + (blk b10 #[.int .i64 (X : Int), .int .i64 (Y : Int), .bool dn] 40 + (pts g (.map es clock) + MS.all w)))))) (by ac_rfl)).at_ (i := 2) rfl; have v0 := (H82.out.eq (b := (blk b12 #[.int .i64 ox, .int .i64 oy] 66 + (blk b11 #[.int .i64 (X : Int), .int .i64 (Y : Int)] 66 + (blk b10 #[.int .i64 (X : Int), .int .i64 (Y : Int), .bool dn] 40 + (pts g (.map es clock) + (blk b6 #[.int .i64 (WN : Int), .int .i64 (HN : Int), .slice A HN c] 51 + MS.all w)))))) (by ac_rfl)).at_ (i := 0) rfl; have v1 := (H82.out.eq (b := (blk b12 #[.int .i64 ox, .int .i64 oy] 66 + (blk b11 #[.int .i64 (X : Int), .int .i64 (Y : Int)] 66 + (blk b10 #[.int .i64 (X : Int), .int .i64 (Y : Int), .bool dn] 40 + (pts g (.map es clock) + (blk b6 #[.int .i64 (WN : Int), .int .i64 (HN : Int), .slice A HN c] 51 + MS.all w)))))) (by ac_rfl)).at_ (i := 1) rfl; have hq := Hhas.out w82 ((H82.out.eq (b := ((blk b12 #[.int .i64 ox, .int .i64 oy] 66 + (blk b11 #[.int .i64 (X : Int), .int .i64 (Y : Int)] 66 + (blk b10 #[.int .i64 (X : Int), .int .i64 (Y : Int), .bool dn] 40 + (pts g (.map es clock) + blk b6 #[.int .i64 (WN : Int), .int .i64 (HN : Int), .slice A HN c] 51)))) + MS.all w)) (by ac_rfl)).right) ox oy; rw [hhb] at hq)
                        | (go_at_call 62; refine (Hoth.out w94).mono ?_; rintro e81 w81 ⟨rfl, k81⟩; have H81 := hid (k81.1 _ H94.out); have E81 := hid (E94.out.trans k81.2); clear k81; clear v0 v1 v2; obtain ⟨b12, hb12⟩ : ∃ b12, b12 = w81.heap.size := ⟨_, rfl⟩; have HAb12 := hid (show Has (w81.alloc (.cells #[.int .i64 0, .int .i64 0] 66)) (blk b12 #[.int .i64 0, .int .i64 0] 66 + (blk b11 #[.int .i64 (X : Int), .int .i64 (Y : Int)] 66 + (blk b10 #[.int .i64 (X : Int), .int .i64 (Y : Int), .bool dn] 40 + (pts g (.map es clock) + (blk b6 #[.int .i64 (WN : Int), .int .i64 (HN : Int), .slice A HN c] 51 + MS.all w))))) by rw [hb12]; exact H81.out.alloc _); have Hb12 := hid hb12; clear hb12))
                      go_wp2
                      go_ret2
                      exact ⟨by first | rfl | (rw [hno.out]; rfl), fun M hM => hM.of_all (H91.out.eq (b := ((blk b12 #[.int .i64 ox, .int .i64 oy] 66 + (blk b11 #[.int .i64 (X : Int), .int .i64 (Y : Int)] 66 + (blk b10 #[.int .i64 (X : Int), .int .i64 (Y : Int), .bool dn] 40 + (pts g (.map es clock) + blk b6 #[.int .i64 (WN : Int), .int .i64 (HN : Int), .slice A HN c] 51)))) + MS.all w)) (by ac_rfl)), E91.out⟩
                    | true =>
                      rw [hfb, if_pos rfl] at hlb
                      have Hlk2 := hid (show (lkM S (ox, oy)).getD (.bool false) = .bool false by rw [hlb]; rfl)
                      have hfit : fitsB f WN HN X Y dn = true := by
                        unfold fitsB
                        rw [hfa, hfb, decide_eq_true hbin.2, decide_eq_true hbin.1]; rfl
                      have Hnext := hid (show isT WN HN (takF f X Y dn) (prevD t ((j + 1) + 1)) (t.drop ((j + 1) + 1)) = R by
                        rw [Hprev.out, Hmore.out]
                        unfold okD
                        rw [decide_eq_true (by simp only; omega)]
                        simp only [Int.toNat_natCast, hfit, Bool.true_and]
                        rw [hord, Bool.true_and]
                        unfold takD
                        simp only [Int.toNat_natCast])
                      have hne : ((X : Int), (Y : Int)) ≠ (ox, oy) := by
                        rw [Hox.out, Hoy.out]
                        intro h
                        injection h with h1 h2
                        unfold otX at h1
                        unfold otY at h2
                        cases dn <;> simp at h1 h2 <;> omega
                      have hla := Hcov.out X Y hhs
                      rw [hfa, if_pos rfl] at hla
                      have Hlen5 := hid (show (ptM (ptM S ((X : Int), (Y : Int)) (.bool true)) (ox, oy) (.bool true)).length = 2 * ((j + 1) + 1) by
                        have h1 := ptM_new hla (.bool true)
                        have h2 : lkM (ptM S ((X : Int), (Y : Int)) (.bool true)) (ox, oy) = none := by rw [lkM_ptM, if_neg hne]; exact hlb
                        rw [ptM_new h2, h1, List.length_append, List.length_append, HSl.out]
                        simp only [List.length_singleton] <;> omega)
                      have Hcn5 := hid (show cellN WN HN (takF f X Y dn) + 2 * ((j + 1) + 1) = cellN WN HN hs0 by
                        have h1 := cellN_tak hXW hYH hfit
                        have h2 := Hcn.out
                        omega)
                      have Hcov5 := hid (show CovOk hs0 (takF f X Y dn) (ptM (ptM S ((X : Int), (Y : Int)) (.bool true)) (ox, oy) (.bool true)) from cov_tak Hcov.out Hox.out Hoy.out)
                      clear hb hlb hbin hfit hne hla hfb hord hfa hhs
                      go_wp2_with (first
                        | (go_at_call 47; refine (hq).mono ?_; rintro e91 w91 ⟨rfl, k91⟩; have H91 := hid (k91.1 _ H82.out); have E91 := hid (E82.out.trans k91.2); clear k91; clear hq; have hlk2 := HS.out.look1 pair66 und83 (zero4 w91) ((H91.out.eq (b := (pts g (.map es clock) + (blk b12 #[.int .i64 ox, .int .i64 oy] 66 + (blk b11 #[.int .i64 (X : Int), .int .i64 (Y : Int)] 66 + (blk b10 #[.int .i64 (X : Int), .int .i64 (Y : Int), .bool dn] 40 + (blk b6 #[.int .i64 (WN : Int), .int .i64 (HN : Int), .slice A HN c] 51 + MS.all w)))))) (by ac_rfl)).get) (q := (ox, oy)) Hsm2.out; rw [Hlk2.out] at hlk2; have hlk2 : (Instr.lookup 83 (.map (some g)) (.agg #[.int .i64 ox, .int .i64 oy]) false).run Tryd.prog w91 = .ok (.bool false) w91 := hlk2; clear v0 v1 u0 u1 u2; have v0 := (H91.out.eq (b := (blk b12 #[.int .i64 ox, .int .i64 oy] 66 + (blk b11 #[.int .i64 (X : Int), .int .i64 (Y : Int)] 66 + (blk b10 #[.int .i64 (X : Int), .int .i64 (Y : Int), .bool dn] 40 + (pts g (.map es clock) + (blk b6 #[.int .i64 (WN : Int), .int .i64 (HN : Int), .slice A HN c] 51 + MS.all w)))))) (by ac_rfl)).at_ (i := 0) rfl; have v1 := (H91.out.eq (b := (blk b12 #[.int .i64 ox, .int .i64 oy] 66 + (blk b11 #[.int .i64 (X : Int), .int .i64 (Y : Int)] 66 + (blk b10 #[.int .i64 (X : Int), .int .i64 (Y : Int), .bool dn] 40 + (pts g (.map es clock) + (blk b6 #[.int .i64 (WN : Int), .int .i64 (HN : Int), .slice A HN c] 51 + MS.all w)))))) (by ac_rfl)).at_ (i := 1) rfl)
                        | (rw [← Hb12.out]; refine wpList_store_whole rfl (.tmp 12) (.tmp 83) 66 rfl 2 size66 b12 (.agg #[.int .i64 ox, .int .i64 oy]) rfl rfl rfl (by simp [Value.cells, Value.oneCell']) #[.int .i64 0, .int .i64 0] 66 _ HAb12.out rfl ?_; intro w82 j1 j2; have H82 := hid (show Has w82 (blk b12 #[.int .i64 ox, .int .i64 oy] 66 + (blk b11 #[.int .i64 (X : Int), .int .i64 (Y : Int)] 66 + (blk b10 #[.int .i64 (X : Int), .int .i64 (Y : Int), .bool dn] 40 + (pts g (.map es clock) + (blk b6 #[.int .i64 (WN : Int), .int .i64 (HN : Int), .slice A HN c] 51 + MS.all w))))) from j1.eq (by unfold blk; ac_rfl)); have E82 := hid ((E81.out.trans (Ext.alloc _ _)).trans j2); clear j1 j2; have u0 := (H82.out.eq (b := (blk b6 #[.int .i64 (WN : Int), .int .i64 (HN : Int), .slice A HN c] 51 + (blk b12 #[.int .i64 ox, .int .i64 oy] 66 + (blk b11 #[.int .i64 (X : Int), .int .i64 (Y : Int)] 66 + (blk b10 #[.int .i64 (X : Int), .int .i64 (Y : Int), .bool dn] 40 + (pts g (.map es clock) + MS.all w)))))) (by ac_rfl)).at_ (i := 0) rfl; have u1 := (H82.out.eq (b := (blk b6 #[.int .i64 (WN : Int), .int .i64 (HN : Int), .slice A HN c] 51 + (blk b12 #[.int .i64 ox, .int .i64 oy] 66 + (blk b11 #[.int .i64 (X : Int), .int .i64 (Y : Int)] 66 + (blk b10 #[.int .i64 (X : Int), .int .i64 (Y : Int), .bool dn] 40 + (pts g (.map es clock) + MS.all w)))))) (by ac_rfl)).at_ (i := 1) rfl; have u2 := (H82.out.eq (b := (blk b6 #[.int .i64 (WN : Int), .int .i64 (HN : Int), .slice A HN c] 51 + (blk b12 #[.int .i64 ox, .int .i64 oy] 66 + (blk b11 #[.int .i64 (X : Int), .int .i64 (Y : Int)] 66 + (blk b10 #[.int .i64 (X : Int), .int .i64 (Y : Int), .bool dn] 40 + (pts g (.map es clock) + MS.all w)))))) (by ac_rfl)).at_ (i := 2) rfl; have v0 := (H82.out.eq (b := (blk b12 #[.int .i64 ox, .int .i64 oy] 66 + (blk b11 #[.int .i64 (X : Int), .int .i64 (Y : Int)] 66 + (blk b10 #[.int .i64 (X : Int), .int .i64 (Y : Int), .bool dn] 40 + (pts g (.map es clock) + (blk b6 #[.int .i64 (WN : Int), .int .i64 (HN : Int), .slice A HN c] 51 + MS.all w)))))) (by ac_rfl)).at_ (i := 0) rfl; have v1 := (H82.out.eq (b := (blk b12 #[.int .i64 ox, .int .i64 oy] 66 + (blk b11 #[.int .i64 (X : Int), .int .i64 (Y : Int)] 66 + (blk b10 #[.int .i64 (X : Int), .int .i64 (Y : Int), .bool dn] 40 + (pts g (.map es clock) + (blk b6 #[.int .i64 (WN : Int), .int .i64 (HN : Int), .slice A HN c] 51 + MS.all w)))))) (by ac_rfl)).at_ (i := 1) rfl; have hq := Hhas.out w82 ((H82.out.eq (b := ((blk b12 #[.int .i64 ox, .int .i64 oy] 66 + (blk b11 #[.int .i64 (X : Int), .int .i64 (Y : Int)] 66 + (blk b10 #[.int .i64 (X : Int), .int .i64 (Y : Int), .bool dn] 40 + (pts g (.map es clock) + blk b6 #[.int .i64 (WN : Int), .int .i64 (HN : Int), .slice A HN c] 51)))) + MS.all w)) (by ac_rfl)).right) ox oy; rw [hhb] at hq)
                        | (go_at_call 62; refine (Hoth.out w94).mono ?_; rintro e81 w81 ⟨rfl, k81⟩; have H81 := hid (k81.1 _ H94.out); have E81 := hid (E94.out.trans k81.2); clear k81; clear v0 v1 v2; obtain ⟨b12, hb12⟩ : ∃ b12, b12 = w81.heap.size := ⟨_, rfl⟩; have HAb12 := hid (show Has (w81.alloc (.cells #[.int .i64 0, .int .i64 0] 66)) (blk b12 #[.int .i64 0, .int .i64 0] 66 + (blk b11 #[.int .i64 (X : Int), .int .i64 (Y : Int)] 66 + (blk b10 #[.int .i64 (X : Int), .int .i64 (Y : Int), .bool dn] 40 + (pts g (.map es clock) + (blk b6 #[.int .i64 (WN : Int), .int .i64 (HN : Int), .slice A HN c] 51 + MS.all w))))) by rw [hb12]; exact H81.out.alloc _); have Hb12 := hid hb12; clear hb12))
                      clear hlk2 v0 v1
                      have hS : (fun W' : World => W'.cell? ⟨b11, 0, none⟩ = some (.int .i64 (X : Int)) ∧ W'.cell? ⟨b11, 1, none⟩ = some (.int .i64 (Y : Int)) ∧ W'.cell? ⟨b12, 0, none⟩ = some (.int .i64 ox) ∧ W'.cell? ⟨b12, 1, none⟩ = some (.int .i64 oy)) w91.drew := ⟨(H91.out.eq (b := (blk b11 #[.int .i64 (X : Int), .int .i64 (Y : Int)] 66 + (blk b12 #[.int .i64 ox, .int .i64 oy] 66 + (blk b10 #[.int .i64 (X : Int), .int .i64 (Y : Int), .bool dn] 40 + (pts g (.map es clock) + (blk b6 #[.int .i64 (WN : Int), .int .i64 (HN : Int), .slice A HN c] 51 + MS.all w)))))) (by ac_rfl)).at_ (i := 0) rfl, (H91.out.eq (b := (blk b11 #[.int .i64 (X : Int), .int .i64 (Y : Int)] 66 + (blk b12 #[.int .i64 ox, .int .i64 oy] 66 + (blk b10 #[.int .i64 (X : Int), .int .i64 (Y : Int), .bool dn] 40 + (pts g (.map es clock) + (blk b6 #[.int .i64 (WN : Int), .int .i64 (HN : Int), .slice A HN c] 51 + MS.all w)))))) (by ac_rfl)).at_ (i := 1) rfl, (H91.out.eq (b := (blk b12 #[.int .i64 ox, .int .i64 oy] 66 + (blk b11 #[.int .i64 (X : Int), .int .i64 (Y : Int)] 66 + (blk b10 #[.int .i64 (X : Int), .int .i64 (Y : Int), .bool dn] 40 + (pts g (.map es clock) + (blk b6 #[.int .i64 (WN : Int), .int .i64 (HN : Int), .slice A HN c] 51 + MS.all w)))))) (by ac_rfl)).at_ (i := 0) rfl, (H91.out.eq (b := (blk b12 #[.int .i64 ox, .int .i64 oy] 66 + (blk b11 #[.int .i64 (X : Int), .int .i64 (Y : Int)] 66 + (blk b10 #[.int .i64 (X : Int), .int .i64 (Y : Int), .bool dn] 40 + (pts g (.map es clock) + (blk b6 #[.int .i64 (WN : Int), .int .i64 (HN : Int), .slice A HN c] 51 + MS.all w)))))) (by ac_rfl)).at_ (i := 1) rfl⟩
                      refine wp_region_txt (fun W' => W'.cell? ⟨b11, 0, none⟩ = some (.int .i64 (X : Int)) ∧ W'.cell? ⟨b11, 1, none⟩ = some (.int .i64 (Y : Int)) ∧ W'.cell? ⟨b12, 0, none⟩ = some (.int .i64 ox) ∧ W'.cell? ⟨b12, 1, none⟩ = some (.int .i64 oy)) (some 5)
                        [(0, true), (1, true), (2, true), (3, true), (4, false), (5, false)] (by kernel_rfl) rfl (by kernel_rfl) (by kernel_rfl) (by repeat (first | with_reducible refine PanicOk.thn ?_ | with_reducible refine PanicOk.blk ?_ | exact PanicOk.body _ _ _)) ?_
                      repeat (first
                        | (refine txt_off hS rfl rfl ?_; simp only [Act.put, List.setIfInBounds_toArray, List.set_cons_zero, List.set_cons_succ])
                        | (refine txt_quiet ?_ hS rfl rfl (fun W hW => ?_) ?_
                           rotate_left 1
                           · obtain ⟨hW1, hW2, hW3, hW4⟩ := hW
                             go_simp
                             exact rfl
                           simp only [Act.put, List.setIfInBounds_toArray, List.set_cons_zero, List.set_cons_succ]))
                      refine txt_op rfl rfl ?_
                      refine op_putM pair66 und83 (.tmp 96) (.tmp 97) (.const (.bool true)) rfl g rfl ((X : Int), (Y : Int)) rfl (.bool true) rfl HS.out Hsm.out _ ((H91.out.eq (b := (pts g (.map es clock) + (blk b12 #[.int .i64 ox, .int .i64 oy] 66 + (blk b11 #[.int .i64 (X : Int), .int .i64 (Y : Int)] 66 + (blk b10 #[.int .i64 (X : Int), .int .i64 (Y : Int), .bool dn] 40 + (blk b6 #[.int .i64 (WN : Int), .int .i64 (HN : Int), .slice A HN c] 51 + MS.all w)))))) (by ac_rfl)).drew) ?_
                      intro es4 clock4 w94 z1 z2 z3
                      have S4 := hid z1
                      have E94 := hid ((E91.out.trans (Ext.drew _)).trans z3)
                      have H94 := hid (show Has w94 (pts g (.map es4 clock4) + (blk b12 #[.int .i64 ox, .int .i64 oy] 66 + (blk b11 #[.int .i64 (X : Int), .int .i64 (Y : Int)] 66 + (blk b10 #[.int .i64 (X : Int), .int .i64 (Y : Int), .bool dn] 40 + (blk b6 #[.int .i64 (WN : Int), .int .i64 (HN : Int), .slice A HN c] 51 + MS.all w))))) from z2)
                      clear z1 z2 z3 hS
                      have hS : (fun W' : World => W'.cell? ⟨b11, 0, none⟩ = some (.int .i64 (X : Int)) ∧ W'.cell? ⟨b11, 1, none⟩ = some (.int .i64 (Y : Int)) ∧ W'.cell? ⟨b12, 0, none⟩ = some (.int .i64 ox) ∧ W'.cell? ⟨b12, 1, none⟩ = some (.int .i64 oy)) w94 := ⟨(H94.out.eq (b := (blk b11 #[.int .i64 (X : Int), .int .i64 (Y : Int)] 66 + (blk b12 #[.int .i64 ox, .int .i64 oy] 66 + (blk b10 #[.int .i64 (X : Int), .int .i64 (Y : Int), .bool dn] 40 + (pts g (.map es4 clock4) + (blk b6 #[.int .i64 (WN : Int), .int .i64 (HN : Int), .slice A HN c] 51 + MS.all w)))))) (by ac_rfl)).at_ (i := 0) rfl, (H94.out.eq (b := (blk b11 #[.int .i64 (X : Int), .int .i64 (Y : Int)] 66 + (blk b12 #[.int .i64 ox, .int .i64 oy] 66 + (blk b10 #[.int .i64 (X : Int), .int .i64 (Y : Int), .bool dn] 40 + (pts g (.map es4 clock4) + (blk b6 #[.int .i64 (WN : Int), .int .i64 (HN : Int), .slice A HN c] 51 + MS.all w)))))) (by ac_rfl)).at_ (i := 1) rfl, (H94.out.eq (b := (blk b12 #[.int .i64 ox, .int .i64 oy] 66 + (blk b11 #[.int .i64 (X : Int), .int .i64 (Y : Int)] 66 + (blk b10 #[.int .i64 (X : Int), .int .i64 (Y : Int), .bool dn] 40 + (pts g (.map es4 clock4) + (blk b6 #[.int .i64 (WN : Int), .int .i64 (HN : Int), .slice A HN c] 51 + MS.all w)))))) (by ac_rfl)).at_ (i := 0) rfl, (H94.out.eq (b := (blk b12 #[.int .i64 ox, .int .i64 oy] 66 + (blk b11 #[.int .i64 (X : Int), .int .i64 (Y : Int)] 66 + (blk b10 #[.int .i64 (X : Int), .int .i64 (Y : Int), .bool dn] 40 + (pts g (.map es4 clock4) + (blk b6 #[.int .i64 (WN : Int), .int .i64 (HN : Int), .slice A HN c] 51 + MS.all w)))))) (by ac_rfl)).at_ (i := 1) rfl⟩
                      refine ⟨fun _ => hS, ?_⟩
                      simp only [Act.put, List.setIfInBounds_toArray, List.set_cons_zero, List.set_cons_succ]
                      refine txt_op rfl rfl ?_
                      refine op_putM pair66 und83 (.tmp 98) (.tmp 99) (.const (.bool true)) rfl g rfl (ox, oy) rfl (.bool true) rfl S4.out Hsm2.out _ (H94.out.eq (b := (pts g (.map es4 clock4) + (blk b12 #[.int .i64 ox, .int .i64 oy] 66 + (blk b11 #[.int .i64 (X : Int), .int .i64 (Y : Int)] 66 + (blk b10 #[.int .i64 (X : Int), .int .i64 (Y : Int), .bool dn] 40 + (blk b6 #[.int .i64 (WN : Int), .int .i64 (HN : Int), .slice A HN c] 51 + MS.all w)))))) (by ac_rfl)) ?_
                      intro es5 clock5 w95 z1 z2 z3
                      have S5 := hid z1
                      have E95 := hid (E94.out.trans z3)
                      have H95 := hid (show Has w95 (pts g (.map es5 clock5) + (blk b12 #[.int .i64 ox, .int .i64 oy] 66 + (blk b11 #[.int .i64 (X : Int), .int .i64 (Y : Int)] 66 + (blk b10 #[.int .i64 (X : Int), .int .i64 (Y : Int), .bool dn] 40 + (blk b6 #[.int .i64 (WN : Int), .int .i64 (HN : Int), .slice A HN c] 51 + MS.all w))))) from z2)
                      clear z1 z2 z3 hS
                      refine ⟨fun h => absurd rfl h, ?_⟩
                      refine txt_done ?_
                      simp only [Act.put]
                      go_wp2
                      go_roundw
                      case rel => exact ⟨(j + 1) + 1, takF f X Y dn, _, es5, clock5, Hlt.out, by go_num, fun x y h => Hfs.out x y (takF_in h), Hnext.out, S5.out, Hlen5.out, Hcn5.out, Hcov5.out, (H95.out.eq (b := ((pts g (.map es5 clock5) + (blk b6 #[.int .i64 (WN : Int), .int .i64 (HN : Int), .slice A HN c] 51 + MS.all w)) + (blk b12 #[.int .i64 ox, .int .i64 oy] 66 + (blk b11 #[.int .i64 (X : Int), .int .i64 (Y : Int)] 66 + blk b10 #[.int .i64 (X : Int), .int .i64 (Y : Int), .bool dn] 40)))) (by ac_rfl)).left, E95.out⟩
                      case measure => have := Hlt.out; simp [intOf]; omega
              · have h2b : ((Y : Int) == ey) = false := by rw [beq_eq_false_iff_ne]; exact fun h => h2 h.symm
                have hord : ordB (prevD t (j + 1)) ((X : Int), (Y : Int), dn) = true := by rw [hpv]; unfold ordB; simp only; rw [decide_eq_false h1, decide_eq_false (fun h => h2 h.symm)]; rfl
                have hS : (fun W' : World => W'.cell? ⟨b6, 0, none⟩ = some (.int .i64 (WN : Int)) ∧ W'.cell? ⟨b6, 1, none⟩ = some (.int .i64 (HN : Int)) ∧ W'.cell? ⟨b6, 2, none⟩ = some (.slice A HN c) ∧ W'.cell? ⟨b11, 0, none⟩ = some (.int .i64 (X : Int)) ∧ W'.cell? ⟨b11, 1, none⟩ = some (.int .i64 (Y : Int)) ∧ W'.cell? ⟨b10, 0, none⟩ = some (.int .i64 (X : Int)) ∧ W'.cell? ⟨b10, 1, none⟩ = some (.int .i64 (Y : Int)) ∧ W'.cell? ⟨bt, ot + j * 3, none⟩ = some (.int .i64 ex) ∧ W'.cell? ⟨bt, ot + j * 3 + 1, none⟩ = some (.int .i64 ey) ∧ W'.heap[g]? = some (.map es clock)) w42.drew := ⟨(H42.out.eq (b := (blk b6 #[.int .i64 (WN : Int), .int .i64 (HN : Int), .slice A HN c] 51 + (blk b11 #[.int .i64 (X : Int), .int .i64 (Y : Int)] 66 + (blk b10 #[.int .i64 (X : Int), .int .i64 (Y : Int), .bool dn] 40 + (pts g (.map es clock) + MS.all w))))) (by ac_rfl)).at_ (i := 0) rfl,
                    (H42.out.eq (b := (blk b6 #[.int .i64 (WN : Int), .int .i64 (HN : Int), .slice A HN c] 51 + (blk b11 #[.int .i64 (X : Int), .int .i64 (Y : Int)] 66 + (blk b10 #[.int .i64 (X : Int), .int .i64 (Y : Int), .bool dn] 40 + (pts g (.map es clock) + MS.all w))))) (by ac_rfl)).at_ (i := 1) rfl,
                    (H42.out.eq (b := (blk b6 #[.int .i64 (WN : Int), .int .i64 (HN : Int), .slice A HN c] 51 + (blk b11 #[.int .i64 (X : Int), .int .i64 (Y : Int)] 66 + (blk b10 #[.int .i64 (X : Int), .int .i64 (Y : Int), .bool dn] 40 + (pts g (.map es clock) + MS.all w))))) (by ac_rfl)).at_ (i := 2) rfl,
                    (H42.out.eq (b := (blk b11 #[.int .i64 (X : Int), .int .i64 (Y : Int)] 66 + (blk b10 #[.int .i64 (X : Int), .int .i64 (Y : Int), .bool dn] 40 + (pts g (.map es clock) + (blk b6 #[.int .i64 (WN : Int), .int .i64 (HN : Int), .slice A HN c] 51 + MS.all w))))) (by ac_rfl)).at_ (i := 0) rfl,
                    (H42.out.eq (b := (blk b11 #[.int .i64 (X : Int), .int .i64 (Y : Int)] 66 + (blk b10 #[.int .i64 (X : Int), .int .i64 (Y : Int), .bool dn] 40 + (pts g (.map es clock) + (blk b6 #[.int .i64 (WN : Int), .int .i64 (HN : Int), .slice A HN c] 51 + MS.all w))))) (by ac_rfl)).at_ (i := 1) rfl,
                    (H42.out.eq (b := (blk b10 #[.int .i64 (X : Int), .int .i64 (Y : Int), .bool dn] 40 + (blk b11 #[.int .i64 (X : Int), .int .i64 (Y : Int)] 66 + (pts g (.map es clock) + (blk b6 #[.int .i64 (WN : Int), .int .i64 (HN : Int), .slice A HN c] 51 + MS.all w))))) (by ac_rfl)).at_ (i := 0) rfl,
                    (H42.out.eq (b := (blk b10 #[.int .i64 (X : Int), .int .i64 (Y : Int), .bool dn] 40 + (blk b11 #[.int .i64 (X : Int), .int .i64 (Y : Int)] 66 + (pts g (.map es clock) + (blk b6 #[.int .i64 (WN : Int), .int .i64 (HN : Int), .slice A HN c] 51 + MS.all w))))) (by ac_rfl)).at_ (i := 1) rfl,
                    (Hp.out w42 _ (H42.out.eq (b := ((blk b11 #[.int .i64 (X : Int), .int .i64 (Y : Int)] 66 + (blk b10 #[.int .i64 (X : Int), .int .i64 (Y : Int), .bool dn] 40 + (pts g (.map es clock) + blk b6 #[.int .i64 (WN : Int), .int .i64 (HN : Int), .slice A HN c] 51))) + MS.all w)) (by ac_rfl))).1,
                    (Hp.out w42 _ (H42.out.eq (b := ((blk b11 #[.int .i64 (X : Int), .int .i64 (Y : Int)] 66 + (blk b10 #[.int .i64 (X : Int), .int .i64 (Y : Int), .bool dn] 40 + (pts g (.map es clock) + blk b6 #[.int .i64 (WN : Int), .int .i64 (HN : Int), .slice A HN c] 51))) + MS.all w)) (by ac_rfl))).2,
                    (H42.out.eq (b := (pts g (.map es clock) + (blk b11 #[.int .i64 (X : Int), .int .i64 (Y : Int)] 66 + (blk b10 #[.int .i64 (X : Int), .int .i64 (Y : Int), .bool dn] 40 + (blk b6 #[.int .i64 (WN : Int), .int .i64 (HN : Int), .slice A HN c] 51 + MS.all w))))) (by ac_rfl)).get⟩
                refine wp_region_txt (fun W' => W'.cell? ⟨b6, 0, none⟩ = some (.int .i64 (WN : Int)) ∧ W'.cell? ⟨b6, 1, none⟩ = some (.int .i64 (HN : Int)) ∧ W'.cell? ⟨b6, 2, none⟩ = some (.slice A HN c) ∧ W'.cell? ⟨b11, 0, none⟩ = some (.int .i64 (X : Int)) ∧ W'.cell? ⟨b11, 1, none⟩ = some (.int .i64 (Y : Int)) ∧ W'.cell? ⟨b10, 0, none⟩ = some (.int .i64 (X : Int)) ∧ W'.cell? ⟨b10, 1, none⟩ = some (.int .i64 (Y : Int)) ∧ W'.cell? ⟨bt, ot + j * 3, none⟩ = some (.int .i64 ex) ∧ W'.cell? ⟨bt, ot + j * 3 + 1, none⟩ = some (.int .i64 ey) ∧ W'.heap[g]? = some (.map es clock)) none
                  [(0, true), (1, true), (2, true), (3, true), (4, true), (5, false), (6, true), (7, true), (8, true), (9, true), (10, true), (11, true), (12, true), (13, true), (14, true), (15, true), (16, true), (17, true), (18, true), (19, true), (20, true), (21, true), (22, true), (23, true), (24, true), (25, true), (26, true), (27, true), (28, true), (29, true), (30, true), (31, true), (32, true), (33, true), (34, true), (35, true), (36, true), (37, true), (38, true), (39, true), (40, true), (41, true), (42, true), (43, true), (44, true), (45, true), (46, true), (47, true), (48, true)] (by kernel_rfl) rfl (by kernel_rfl) (by kernel_rfl) (by repeat (first | with_reducible refine PanicOk.thn ?_ | with_reducible refine PanicOk.blk ?_ | exact PanicOk.body _ _ _)) ?_
                repeat (first
                  | (refine txt_off hS rfl rfl ?_; simp only [Act.put, List.setIfInBounds_toArray, List.set_cons_zero, List.set_cons_succ])
                  | (refine txt_quiet ?_ hS rfl rfl (fun W hW => ?_) ?_
                     rotate_left 1
                     · obtain ⟨hW1, hW2, hW3, hW4, hW5, hW6, hW7, hW8, hW9, hW10⟩ := hW
                       go_simp
                       exact rfl
                     simp only [Act.put, List.setIfInBounds_toArray, List.set_cons_zero, List.set_cons_succ]))
                refine txt_op rfl rfl ?_
                have hq := Hhas.out w42.drew ((H42.out.eq (b := ((blk b11 #[.int .i64 (X : Int), .int .i64 (Y : Int)] 66 + (blk b10 #[.int .i64 (X : Int), .int .i64 (Y : Int), .bool dn] 40 + (pts g (.map es clock) + blk b6 #[.int .i64 (WN : Int), .int .i64 (HN : Int), .slice A HN c] 51))) + MS.all w)) (by ac_rfl)).right) (X : Int) (Y : Int)
                rw [hha] at hq
                refine op_call 47 _ _ (by go_simp) _ hq ?_
                rintro e92 w92 ⟨rfl, k92⟩
                have H92 := hid (k92.1 _ H42.out.drew)
                have E92 := hid ((E42.out.trans (Ext.drew _)).trans k92.2)
                clear hS
                have hS : (fun W' : World => W'.cell? ⟨b6, 0, none⟩ = some (.int .i64 (WN : Int)) ∧ W'.cell? ⟨b6, 1, none⟩ = some (.int .i64 (HN : Int)) ∧ W'.cell? ⟨b6, 2, none⟩ = some (.slice A HN c) ∧ W'.cell? ⟨b11, 0, none⟩ = some (.int .i64 (X : Int)) ∧ W'.cell? ⟨b11, 1, none⟩ = some (.int .i64 (Y : Int)) ∧ W'.cell? ⟨b10, 0, none⟩ = some (.int .i64 (X : Int)) ∧ W'.cell? ⟨b10, 1, none⟩ = some (.int .i64 (Y : Int)) ∧ W'.cell? ⟨bt, ot + j * 3, none⟩ = some (.int .i64 ex) ∧ W'.cell? ⟨bt, ot + j * 3 + 1, none⟩ = some (.int .i64 ey) ∧ W'.heap[g]? = some (.map es clock)) w92 := ⟨(H92.out.eq (b := (blk b6 #[.int .i64 (WN : Int), .int .i64 (HN : Int), .slice A HN c] 51 + (blk b11 #[.int .i64 (X : Int), .int .i64 (Y : Int)] 66 + (blk b10 #[.int .i64 (X : Int), .int .i64 (Y : Int), .bool dn] 40 + (pts g (.map es clock) + MS.all w))))) (by ac_rfl)).at_ (i := 0) rfl,
                    (H92.out.eq (b := (blk b6 #[.int .i64 (WN : Int), .int .i64 (HN : Int), .slice A HN c] 51 + (blk b11 #[.int .i64 (X : Int), .int .i64 (Y : Int)] 66 + (blk b10 #[.int .i64 (X : Int), .int .i64 (Y : Int), .bool dn] 40 + (pts g (.map es clock) + MS.all w))))) (by ac_rfl)).at_ (i := 1) rfl,
                    (H92.out.eq (b := (blk b6 #[.int .i64 (WN : Int), .int .i64 (HN : Int), .slice A HN c] 51 + (blk b11 #[.int .i64 (X : Int), .int .i64 (Y : Int)] 66 + (blk b10 #[.int .i64 (X : Int), .int .i64 (Y : Int), .bool dn] 40 + (pts g (.map es clock) + MS.all w))))) (by ac_rfl)).at_ (i := 2) rfl,
                    (H92.out.eq (b := (blk b11 #[.int .i64 (X : Int), .int .i64 (Y : Int)] 66 + (blk b10 #[.int .i64 (X : Int), .int .i64 (Y : Int), .bool dn] 40 + (pts g (.map es clock) + (blk b6 #[.int .i64 (WN : Int), .int .i64 (HN : Int), .slice A HN c] 51 + MS.all w))))) (by ac_rfl)).at_ (i := 0) rfl,
                    (H92.out.eq (b := (blk b11 #[.int .i64 (X : Int), .int .i64 (Y : Int)] 66 + (blk b10 #[.int .i64 (X : Int), .int .i64 (Y : Int), .bool dn] 40 + (pts g (.map es clock) + (blk b6 #[.int .i64 (WN : Int), .int .i64 (HN : Int), .slice A HN c] 51 + MS.all w))))) (by ac_rfl)).at_ (i := 1) rfl,
                    (H92.out.eq (b := (blk b10 #[.int .i64 (X : Int), .int .i64 (Y : Int), .bool dn] 40 + (blk b11 #[.int .i64 (X : Int), .int .i64 (Y : Int)] 66 + (pts g (.map es clock) + (blk b6 #[.int .i64 (WN : Int), .int .i64 (HN : Int), .slice A HN c] 51 + MS.all w))))) (by ac_rfl)).at_ (i := 0) rfl,
                    (H92.out.eq (b := (blk b10 #[.int .i64 (X : Int), .int .i64 (Y : Int), .bool dn] 40 + (blk b11 #[.int .i64 (X : Int), .int .i64 (Y : Int)] 66 + (pts g (.map es clock) + (blk b6 #[.int .i64 (WN : Int), .int .i64 (HN : Int), .slice A HN c] 51 + MS.all w))))) (by ac_rfl)).at_ (i := 1) rfl,
                    (Hp.out w92 _ (H92.out.eq (b := ((blk b11 #[.int .i64 (X : Int), .int .i64 (Y : Int)] 66 + (blk b10 #[.int .i64 (X : Int), .int .i64 (Y : Int), .bool dn] 40 + (pts g (.map es clock) + blk b6 #[.int .i64 (WN : Int), .int .i64 (HN : Int), .slice A HN c] 51))) + MS.all w)) (by ac_rfl))).1,
                    (Hp.out w92 _ (H92.out.eq (b := ((blk b11 #[.int .i64 (X : Int), .int .i64 (Y : Int)] 66 + (blk b10 #[.int .i64 (X : Int), .int .i64 (Y : Int), .bool dn] 40 + (pts g (.map es clock) + blk b6 #[.int .i64 (WN : Int), .int .i64 (HN : Int), .slice A HN c] 51))) + MS.all w)) (by ac_rfl))).2,
                    (H92.out.eq (b := (pts g (.map es clock) + (blk b11 #[.int .i64 (X : Int), .int .i64 (Y : Int)] 66 + (blk b10 #[.int .i64 (X : Int), .int .i64 (Y : Int), .bool dn] 40 + (blk b6 #[.int .i64 (WN : Int), .int .i64 (HN : Int), .slice A HN c] 51 + MS.all w))))) (by ac_rfl)).get⟩
                refine ⟨_, rfl, fun _ => hS, ?_⟩
                simp only [Act.put, List.setIfInBounds_toArray, List.set_cons_zero, List.set_cons_succ]
                clear k92 hq
                iterate 4
                  (refine txt_quiet ?_ hS rfl rfl (fun W hW => ?_) ?_
                   rotate_left 1
                   · obtain ⟨hW1, hW2, hW3, hW4, hW5, hW6, hW7, hW8, hW9, hW10⟩ := hW
                     go_simp
                     exact rfl
                   simp only [Act.put, List.setIfInBounds_toArray, List.set_cons_zero, List.set_cons_succ])
                refine txt_quiet (.bool false) hS rfl rfl (fun W hW => ?_) ?_
                · obtain ⟨hW1, hW2, hW3, hW4, hW5, hW6, hW7, hW8, hW9, hW10⟩ := hW
                  refine ex_look rfl ?_
                  have h := HS.out.look1 pair66 und83 (zero4 W) hW10 (q := ((X : Int), (Y : Int))) Hsm.out
                  rw [hlk] at h
                  exact h
                simp only [Act.put, List.setIfInBounds_toArray, List.set_cons_zero, List.set_cons_succ]
                repeat (first
                  | (refine txt_off hS rfl rfl ?_; simp only [Act.put, List.setIfInBounds_toArray, List.set_cons_zero, List.set_cons_succ])
                  | (refine txt_quiet ?_ hS rfl rfl (fun W hW => ?_) ?_
                     rotate_left 1
                     · obtain ⟨hW1, hW2, hW3, hW4, hW5, hW6, hW7, hW8, hW9, hW10⟩ := hW
                       go_simp
                       exact rfl
                     simp only [Act.put, List.setIfInBounds_toArray, List.set_cons_zero, List.set_cons_succ]))
                refine txt_done ?_
                try simp only [Act.put]
                clear hS
                clear hjw
                have v0 := (H92.out.eq (b := (blk b10 #[.int .i64 (X : Int), .int .i64 (Y : Int), .bool dn] 40 + (blk b11 #[.int .i64 (X : Int), .int .i64 (Y : Int)] 66 + (pts g (.map es clock) + (blk b6 #[.int .i64 (WN : Int), .int .i64 (HN : Int), .slice A HN c] 51 + MS.all w))))) (by ac_rfl)).at_ (i := 0) rfl
                have v1 := (H92.out.eq (b := (blk b10 #[.int .i64 (X : Int), .int .i64 (Y : Int), .bool dn] 40 + (blk b11 #[.int .i64 (X : Int), .int .i64 (Y : Int)] 66 + (pts g (.map es clock) + (blk b6 #[.int .i64 (WN : Int), .int .i64 (HN : Int), .slice A HN c] 51 + MS.all w))))) (by ac_rfl)).at_ (i := 1) rfl
                have v2 := (H92.out.eq (b := (blk b10 #[.int .i64 (X : Int), .int .i64 (Y : Int), .bool dn] 40 + (blk b11 #[.int .i64 (X : Int), .int .i64 (Y : Int)] 66 + (pts g (.map es clock) + (blk b6 #[.int .i64 (WN : Int), .int .i64 (HN : Int), .slice A HN c] 51 + MS.all w))))) (by ac_rfl)).at_ (i := 2) rfl
                clear hlk
                cases hhb : hsI p ox oy with
                | false =>
                  have hno := hid (show R = false by
                    rw [Hmore.out]
                    unfold okD fitsB
                    simp only [Int.toNat_natCast]
                    have h0 : (decide (onY Y dn < HN) && (decide (onX X dn < WN) && (f X Y && f (onX X dn) (onY Y dn)))) = false := by
                      cases h : f (onX X dn) (onY Y dn) with
                      | false => simp
                      | true =>
                        have h2 := Hfs.out _ _ h
                        rw [← HasN.out, ← otX_n, ← otY_n, ← Hox.out, ← Hoy.out, hhb] at h2
                        cases h2
                    rw [h0]; simp)
                  go_wp2_with (first
                    | (go_at_call 47; refine (hq).mono ?_; rintro e91 w91 ⟨rfl, k91⟩; have H91 := hid (k91.1 _ H82.out); have E91 := hid (E82.out.trans k91.2); clear k91; clear hq; clear v0 v1 u0 u1 u2)
                    | (rw [← Hb12.out]; refine wpList_store_whole rfl (.tmp 12) (.tmp 83) 66 rfl 2 size66 b12 (.agg #[.int .i64 ox, .int .i64 oy]) rfl rfl rfl (by simp [Value.cells, Value.oneCell']) #[.int .i64 0, .int .i64 0] 66 _ HAb12.out rfl ?_; intro w82 j1 j2; have H82 := hid (show Has w82 (blk b12 #[.int .i64 ox, .int .i64 oy] 66 + (blk b11 #[.int .i64 (X : Int), .int .i64 (Y : Int)] 66 + (blk b10 #[.int .i64 (X : Int), .int .i64 (Y : Int), .bool dn] 40 + (pts g (.map es clock) + (blk b6 #[.int .i64 (WN : Int), .int .i64 (HN : Int), .slice A HN c] 51 + MS.all w))))) from j1.eq (by unfold blk; ac_rfl)); have E82 := hid ((E81.out.trans (Ext.alloc _ _)).trans j2); clear j1 j2; have u0 := (H82.out.eq (b := (blk b6 #[.int .i64 (WN : Int), .int .i64 (HN : Int), .slice A HN c] 51 + (blk b12 #[.int .i64 ox, .int .i64 oy] 66 + (blk b11 #[.int .i64 (X : Int), .int .i64 (Y : Int)] 66 + (blk b10 #[.int .i64 (X : Int), .int .i64 (Y : Int), .bool dn] 40 + (pts g (.map es clock) + MS.all w)))))) (by ac_rfl)).at_ (i := 0) rfl; have u1 := (H82.out.eq (b := (blk b6 #[.int .i64 (WN : Int), .int .i64 (HN : Int), .slice A HN c] 51 + (blk b12 #[.int .i64 ox, .int .i64 oy] 66 + (blk b11 #[.int .i64 (X : Int), .int .i64 (Y : Int)] 66 + (blk b10 #[.int .i64 (X : Int), .int .i64 (Y : Int), .bool dn] 40 + (pts g (.map es clock) + MS.all w)))))) (by ac_rfl)).at_ (i := 1) rfl; have u2 := (H82.out.eq (b := (blk b6 #[.int .i64 (WN : Int), .int .i64 (HN : Int), .slice A HN c] 51 + (blk b12 #[.int .i64 ox, .int .i64 oy] 66 + (blk b11 #[.int .i64 (X : Int), .int .i64 (Y : Int)] 66 + (blk b10 #[.int .i64 (X : Int), .int .i64 (Y : Int), .bool dn] 40 + (pts g (.map es clock) + MS.all w)))))) (by ac_rfl)).at_ (i := 2) rfl; have v0 := (H82.out.eq (b := (blk b12 #[.int .i64 ox, .int .i64 oy] 66 + (blk b11 #[.int .i64 (X : Int), .int .i64 (Y : Int)] 66 + (blk b10 #[.int .i64 (X : Int), .int .i64 (Y : Int), .bool dn] 40 + (pts g (.map es clock) + (blk b6 #[.int .i64 (WN : Int), .int .i64 (HN : Int), .slice A HN c] 51 + MS.all w)))))) (by ac_rfl)).at_ (i := 0) rfl; have v1 := (H82.out.eq (b := (blk b12 #[.int .i64 ox, .int .i64 oy] 66 + (blk b11 #[.int .i64 (X : Int), .int .i64 (Y : Int)] 66 + (blk b10 #[.int .i64 (X : Int), .int .i64 (Y : Int), .bool dn] 40 + (pts g (.map es clock) + (blk b6 #[.int .i64 (WN : Int), .int .i64 (HN : Int), .slice A HN c] 51 + MS.all w)))))) (by ac_rfl)).at_ (i := 1) rfl; have hq := Hhas.out w82 ((H82.out.eq (b := ((blk b12 #[.int .i64 ox, .int .i64 oy] 66 + (blk b11 #[.int .i64 (X : Int), .int .i64 (Y : Int)] 66 + (blk b10 #[.int .i64 (X : Int), .int .i64 (Y : Int), .bool dn] 40 + (pts g (.map es clock) + blk b6 #[.int .i64 (WN : Int), .int .i64 (HN : Int), .slice A HN c] 51)))) + MS.all w)) (by ac_rfl)).right) ox oy; rw [hhb] at hq)
                    | (go_at_call 62; refine (Hoth.out w92).mono ?_; rintro e81 w81 ⟨rfl, k81⟩; have H81 := hid (k81.1 _ H92.out); have E81 := hid (E92.out.trans k81.2); clear k81; clear v0 v1 v2; obtain ⟨b12, hb12⟩ : ∃ b12, b12 = w81.heap.size := ⟨_, rfl⟩; have HAb12 := hid (show Has (w81.alloc (.cells #[.int .i64 0, .int .i64 0] 66)) (blk b12 #[.int .i64 0, .int .i64 0] 66 + (blk b11 #[.int .i64 (X : Int), .int .i64 (Y : Int)] 66 + (blk b10 #[.int .i64 (X : Int), .int .i64 (Y : Int), .bool dn] 40 + (pts g (.map es clock) + (blk b6 #[.int .i64 (WN : Int), .int .i64 (HN : Int), .slice A HN c] 51 + MS.all w))))) by rw [hb12]; exact H81.out.alloc _); have Hb12 := hid hb12; clear hb12))
                  go_wp2
                  go_ret2
                  exact ⟨by first | rfl | (rw [hno.out]; rfl), fun M hM => hM.of_all (H91.out.eq (b := ((blk b12 #[.int .i64 ox, .int .i64 oy] 66 + (blk b11 #[.int .i64 (X : Int), .int .i64 (Y : Int)] 66 + (blk b10 #[.int .i64 (X : Int), .int .i64 (Y : Int), .bool dn] 40 + (pts g (.map es clock) + blk b6 #[.int .i64 (WN : Int), .int .i64 (HN : Int), .slice A HN c] 51)))) + MS.all w)) (by ac_rfl)), E91.out⟩
                | true =>
                  have hb := hhb
                  rw [Hox.out, Hoy.out, otX_n, otY_n, HasN.out] at hb
                  have hlb := Hcov.out _ _ hb
                  have hbin := Hin.out _ _ hb
                  have Hsm2 := hid (show small (ox, oy) from by rw [Hox.out, Hoy.out, otX_n, otY_n]; unfold small; simp only; omega)
                  rw [← otX_n, ← otY_n, ← Hox.out, ← Hoy.out] at hlb
                  have Hox2 := hid (show ((onX X dn : Nat)) = onX X dn from rfl)
                  have Hoy2 := hid (show ((onY Y dn : Nat)) = onY Y dn from rfl)
                  cases hfb : f (onX X dn) (onY Y dn) with
                  | false =>
                    rw [hfb, if_neg (by decide)] at hlb
                    have Hlk2 := hid (show (lkM S (ox, oy)).getD (.bool false) = .bool true by rw [hlb]; rfl)
                    have hno := hid (show R = false by
                      rw [Hmore.out]
                      unfold okD fitsB
                      simp only [Int.toNat_natCast, hfb]
                      simp)
                    go_wp2_with (first
                      | (go_at_call 47; refine (hq).mono ?_; rintro e91 w91 ⟨rfl, k91⟩; have H91 := hid (k91.1 _ H82.out); have E91 := hid (E82.out.trans k91.2); clear k91; clear hq; have hlk2 := HS.out.look1 pair66 und83 (zero4 w91) ((H91.out.eq (b := (pts g (.map es clock) + (blk b12 #[.int .i64 ox, .int .i64 oy] 66 + (blk b11 #[.int .i64 (X : Int), .int .i64 (Y : Int)] 66 + (blk b10 #[.int .i64 (X : Int), .int .i64 (Y : Int), .bool dn] 40 + (blk b6 #[.int .i64 (WN : Int), .int .i64 (HN : Int), .slice A HN c] 51 + MS.all w)))))) (by ac_rfl)).get) (q := (ox, oy)) Hsm2.out; rw [Hlk2.out] at hlk2; have hlk2 : (Instr.lookup 83 (.map (some g)) (.agg #[.int .i64 ox, .int .i64 oy]) false).run Tryd.prog w91 = .ok (.bool true) w91 := hlk2; clear v0 v1 u0 u1 u2; have v0 := (H91.out.eq (b := (blk b12 #[.int .i64 ox, .int .i64 oy] 66 + (blk b11 #[.int .i64 (X : Int), .int .i64 (Y : Int)] 66 + (blk b10 #[.int .i64 (X : Int), .int .i64 (Y : Int), .bool dn] 40 + (pts g (.map es clock) + (blk b6 #[.int .i64 (WN : Int), .int .i64 (HN : Int), .slice A HN c] 51 + MS.all w)))))) (by ac_rfl)).at_ (i := 0) rfl; have v1 := (H91.out.eq (b := (blk b12 #[.int .i64 ox, .int .i64 oy] 66 + (blk b11 #[.int .i64 (X : Int), .int .i64 (Y : Int)] 66 + (blk b10 #[.int .i64 (X : Int), .int .i64 (Y : Int), .bool dn] 40 + (pts g (.map es clock) + (blk b6 #[.int .i64 (WN : Int), .int .i64 (HN : Int), .slice A HN c] 51 + MS.all w)))))) (by ac_rfl)).at_ (i := 1) rfl)
                      | (rw [← Hb12.out]; refine wpList_store_whole rfl (.tmp 12) (.tmp 83) 66 rfl 2 size66 b12 (.agg #[.int .i64 ox, .int .i64 oy]) rfl rfl rfl (by simp [Value.cells, Value.oneCell']) #[.int .i64 0, .int .i64 0] 66 _ HAb12.out rfl ?_; intro w82 j1 j2; have H82 := hid (show Has w82 (blk b12 #[.int .i64 ox, .int .i64 oy] 66 + (blk b11 #[.int .i64 (X : Int), .int .i64 (Y : Int)] 66 + (blk b10 #[.int .i64 (X : Int), .int .i64 (Y : Int), .bool dn] 40 + (pts g (.map es clock) + (blk b6 #[.int .i64 (WN : Int), .int .i64 (HN : Int), .slice A HN c] 51 + MS.all w))))) from j1.eq (by unfold blk; ac_rfl)); have E82 := hid ((E81.out.trans (Ext.alloc _ _)).trans j2); clear j1 j2; have u0 := (H82.out.eq (b := (blk b6 #[.int .i64 (WN : Int), .int .i64 (HN : Int), .slice A HN c] 51 + (blk b12 #[.int .i64 ox, .int .i64 oy] 66 + (blk b11 #[.int .i64 (X : Int), .int .i64 (Y : Int)] 66 + (blk b10 #[.int .i64 (X : Int), .int .i64 (Y : Int), .bool dn] 40 + (pts g (.map es clock) + MS.all w)))))) (by ac_rfl)).at_ (i := 0) rfl; have u1 := (H82.out.eq (b := (blk b6 #[.int .i64 (WN : Int), .int .i64 (HN : Int), .slice A HN c] 51 + (blk b12 #[.int .i64 ox, .int .i64 oy] 66 + (blk b11 #[.int .i64 (X : Int), .int .i64 (Y : Int)] 66 + (blk b10 #[.int .i64 (X : Int), .int .i64 (Y : Int), .bool dn] 40 + (pts g (.map es clock) + MS.all w)))))) (by ac_rfl)).at_ (i := 1) rfl; have u2 := (H82.out.eq (b := (blk b6 #[.int .i64 (WN : Int), .int .i64 (HN : Int), .slice A HN c] 51 + (blk b12 #[.int .i64 ox, .int .i64 oy] 66 + (blk b11 #[.int .i64 (X : Int), .int .i64 (Y : Int)] 66 + (blk b10 #[.int .i64 (X : Int), .int .i64 (Y : Int), .bool dn] 40 + (pts g (.map es clock) + MS.all w)))))) (by ac_rfl)).at_ (i := 2) rfl; have v0 := (H82.out.eq (b := (blk b12 #[.int .i64 ox, .int .i64 oy] 66 + (blk b11 #[.int .i64 (X : Int), .int .i64 (Y : Int)] 66 + (blk b10 #[.int .i64 (X : Int), .int .i64 (Y : Int), .bool dn] 40 + (pts g (.map es clock) + (blk b6 #[.int .i64 (WN : Int), .int .i64 (HN : Int), .slice A HN c] 51 + MS.all w)))))) (by ac_rfl)).at_ (i := 0) rfl; have v1 := (H82.out.eq (b := (blk b12 #[.int .i64 ox, .int .i64 oy] 66 + (blk b11 #[.int .i64 (X : Int), .int .i64 (Y : Int)] 66 + (blk b10 #[.int .i64 (X : Int), .int .i64 (Y : Int), .bool dn] 40 + (pts g (.map es clock) + (blk b6 #[.int .i64 (WN : Int), .int .i64 (HN : Int), .slice A HN c] 51 + MS.all w)))))) (by ac_rfl)).at_ (i := 1) rfl; have hq := Hhas.out w82 ((H82.out.eq (b := ((blk b12 #[.int .i64 ox, .int .i64 oy] 66 + (blk b11 #[.int .i64 (X : Int), .int .i64 (Y : Int)] 66 + (blk b10 #[.int .i64 (X : Int), .int .i64 (Y : Int), .bool dn] 40 + (pts g (.map es clock) + blk b6 #[.int .i64 (WN : Int), .int .i64 (HN : Int), .slice A HN c] 51)))) + MS.all w)) (by ac_rfl)).right) ox oy; rw [hhb] at hq)
                      | (go_at_call 62; refine (Hoth.out w92).mono ?_; rintro e81 w81 ⟨rfl, k81⟩; have H81 := hid (k81.1 _ H92.out); have E81 := hid (E92.out.trans k81.2); clear k81; clear v0 v1 v2; obtain ⟨b12, hb12⟩ : ∃ b12, b12 = w81.heap.size := ⟨_, rfl⟩; have HAb12 := hid (show Has (w81.alloc (.cells #[.int .i64 0, .int .i64 0] 66)) (blk b12 #[.int .i64 0, .int .i64 0] 66 + (blk b11 #[.int .i64 (X : Int), .int .i64 (Y : Int)] 66 + (blk b10 #[.int .i64 (X : Int), .int .i64 (Y : Int), .bool dn] 40 + (pts g (.map es clock) + (blk b6 #[.int .i64 (WN : Int), .int .i64 (HN : Int), .slice A HN c] 51 + MS.all w))))) by rw [hb12]; exact H81.out.alloc _); have Hb12 := hid hb12; clear hb12))
                    go_wp2
                    go_ret2
                    exact ⟨by first | rfl | (rw [hno.out]; rfl), fun M hM => hM.of_all (H91.out.eq (b := ((blk b12 #[.int .i64 ox, .int .i64 oy] 66 + (blk b11 #[.int .i64 (X : Int), .int .i64 (Y : Int)] 66 + (blk b10 #[.int .i64 (X : Int), .int .i64 (Y : Int), .bool dn] 40 + (pts g (.map es clock) + blk b6 #[.int .i64 (WN : Int), .int .i64 (HN : Int), .slice A HN c] 51)))) + MS.all w)) (by ac_rfl)), E91.out⟩
                  | true =>
                    rw [hfb, if_pos rfl] at hlb
                    have Hlk2 := hid (show (lkM S (ox, oy)).getD (.bool false) = .bool false by rw [hlb]; rfl)
                    have hfit : fitsB f WN HN X Y dn = true := by
                      unfold fitsB
                      rw [hfa, hfb, decide_eq_true hbin.2, decide_eq_true hbin.1]; rfl
                    have Hnext := hid (show isT WN HN (takF f X Y dn) (prevD t ((j + 1) + 1)) (t.drop ((j + 1) + 1)) = R by
                      rw [Hprev.out, Hmore.out]
                      unfold okD
                      rw [decide_eq_true (by simp only; omega)]
                      simp only [Int.toNat_natCast, hfit, Bool.true_and]
                      rw [hord, Bool.true_and]
                      unfold takD
                      simp only [Int.toNat_natCast])
                    have hne : ((X : Int), (Y : Int)) ≠ (ox, oy) := by
                      rw [Hox.out, Hoy.out]
                      intro h
                      injection h with h1 h2
                      unfold otX at h1
                      unfold otY at h2
                      cases dn <;> simp at h1 h2 <;> omega
                    have hla := Hcov.out X Y hhs
                    rw [hfa, if_pos rfl] at hla
                    have Hlen5 := hid (show (ptM (ptM S ((X : Int), (Y : Int)) (.bool true)) (ox, oy) (.bool true)).length = 2 * ((j + 1) + 1) by
                      have h1 := ptM_new hla (.bool true)
                      have h2 : lkM (ptM S ((X : Int), (Y : Int)) (.bool true)) (ox, oy) = none := by rw [lkM_ptM, if_neg hne]; exact hlb
                      rw [ptM_new h2, h1, List.length_append, List.length_append, HSl.out]
                      simp only [List.length_singleton] <;> omega)
                    have Hcn5 := hid (show cellN WN HN (takF f X Y dn) + 2 * ((j + 1) + 1) = cellN WN HN hs0 by
                      have h1 := cellN_tak hXW hYH hfit
                      have h2 := Hcn.out
                      omega)
                    have Hcov5 := hid (show CovOk hs0 (takF f X Y dn) (ptM (ptM S ((X : Int), (Y : Int)) (.bool true)) (ox, oy) (.bool true)) from cov_tak Hcov.out Hox.out Hoy.out)
                    clear hb hlb hbin hfit hne hla hfb hord hfa hhs
                    go_wp2_with (first
                      | (go_at_call 47; refine (hq).mono ?_; rintro e91 w91 ⟨rfl, k91⟩; have H91 := hid (k91.1 _ H82.out); have E91 := hid (E82.out.trans k91.2); clear k91; clear hq; have hlk2 := HS.out.look1 pair66 und83 (zero4 w91) ((H91.out.eq (b := (pts g (.map es clock) + (blk b12 #[.int .i64 ox, .int .i64 oy] 66 + (blk b11 #[.int .i64 (X : Int), .int .i64 (Y : Int)] 66 + (blk b10 #[.int .i64 (X : Int), .int .i64 (Y : Int), .bool dn] 40 + (blk b6 #[.int .i64 (WN : Int), .int .i64 (HN : Int), .slice A HN c] 51 + MS.all w)))))) (by ac_rfl)).get) (q := (ox, oy)) Hsm2.out; rw [Hlk2.out] at hlk2; have hlk2 : (Instr.lookup 83 (.map (some g)) (.agg #[.int .i64 ox, .int .i64 oy]) false).run Tryd.prog w91 = .ok (.bool false) w91 := hlk2; clear v0 v1 u0 u1 u2; have v0 := (H91.out.eq (b := (blk b12 #[.int .i64 ox, .int .i64 oy] 66 + (blk b11 #[.int .i64 (X : Int), .int .i64 (Y : Int)] 66 + (blk b10 #[.int .i64 (X : Int), .int .i64 (Y : Int), .bool dn] 40 + (pts g (.map es clock) + (blk b6 #[.int .i64 (WN : Int), .int .i64 (HN : Int), .slice A HN c] 51 + MS.all w)))))) (by ac_rfl)).at_ (i := 0) rfl; have v1 := (H91.out.eq (b := (blk b12 #[.int .i64 ox, .int .i64 oy] 66 + (blk b11 #[.int .i64 (X : Int), .int .i64 (Y : Int)] 66 + (blk b10 #[.int .i64 (X : Int), .int .i64 (Y : Int), .bool dn] 40 + (pts g (.map es clock) + (blk b6 #[.int .i64 (WN : Int), .int .i64 (HN : Int), .slice A HN c] 51 + MS.all w)))))) (by ac_rfl)).at_ (i := 1) rfl)
                      | (rw [← Hb12.out]; refine wpList_store_whole rfl (.tmp 12) (.tmp 83) 66 rfl 2 size66 b12 (.agg #[.int .i64 ox, .int .i64 oy]) rfl rfl rfl (by simp [Value.cells, Value.oneCell']) #[.int .i64 0, .int .i64 0] 66 _ HAb12.out rfl ?_; intro w82 j1 j2; have H82 := hid (show Has w82 (blk b12 #[.int .i64 ox, .int .i64 oy] 66 + (blk b11 #[.int .i64 (X : Int), .int .i64 (Y : Int)] 66 + (blk b10 #[.int .i64 (X : Int), .int .i64 (Y : Int), .bool dn] 40 + (pts g (.map es clock) + (blk b6 #[.int .i64 (WN : Int), .int .i64 (HN : Int), .slice A HN c] 51 + MS.all w))))) from j1.eq (by unfold blk; ac_rfl)); have E82 := hid ((E81.out.trans (Ext.alloc _ _)).trans j2); clear j1 j2; have u0 := (H82.out.eq (b := (blk b6 #[.int .i64 (WN : Int), .int .i64 (HN : Int), .slice A HN c] 51 + (blk b12 #[.int .i64 ox, .int .i64 oy] 66 + (blk b11 #[.int .i64 (X : Int), .int .i64 (Y : Int)] 66 + (blk b10 #[.int .i64 (X : Int), .int .i64 (Y : Int), .bool dn] 40 + (pts g (.map es clock) + MS.all w)))))) (by ac_rfl)).at_ (i := 0) rfl; have u1 := (H82.out.eq (b := (blk b6 #[.int .i64 (WN : Int), .int .i64 (HN : Int), .slice A HN c] 51 + (blk b12 #[.int .i64 ox, .int .i64 oy] 66 + (blk b11 #[.int .i64 (X : Int), .int .i64 (Y : Int)] 66 + (blk b10 #[.int .i64 (X : Int), .int .i64 (Y : Int), .bool dn] 40 + (pts g (.map es clock) + MS.all w)))))) (by ac_rfl)).at_ (i := 1) rfl; have u2 := (H82.out.eq (b := (blk b6 #[.int .i64 (WN : Int), .int .i64 (HN : Int), .slice A HN c] 51 + (blk b12 #[.int .i64 ox, .int .i64 oy] 66 + (blk b11 #[.int .i64 (X : Int), .int .i64 (Y : Int)] 66 + (blk b10 #[.int .i64 (X : Int), .int .i64 (Y : Int), .bool dn] 40 + (pts g (.map es clock) + MS.all w)))))) (by ac_rfl)).at_ (i := 2) rfl; have v0 := (H82.out.eq (b := (blk b12 #[.int .i64 ox, .int .i64 oy] 66 + (blk b11 #[.int .i64 (X : Int), .int .i64 (Y : Int)] 66 + (blk b10 #[.int .i64 (X : Int), .int .i64 (Y : Int), .bool dn] 40 + (pts g (.map es clock) + (blk b6 #[.int .i64 (WN : Int), .int .i64 (HN : Int), .slice A HN c] 51 + MS.all w)))))) (by ac_rfl)).at_ (i := 0) rfl; have v1 := (H82.out.eq (b := (blk b12 #[.int .i64 ox, .int .i64 oy] 66 + (blk b11 #[.int .i64 (X : Int), .int .i64 (Y : Int)] 66 + (blk b10 #[.int .i64 (X : Int), .int .i64 (Y : Int), .bool dn] 40 + (pts g (.map es clock) + (blk b6 #[.int .i64 (WN : Int), .int .i64 (HN : Int), .slice A HN c] 51 + MS.all w)))))) (by ac_rfl)).at_ (i := 1) rfl; have hq := Hhas.out w82 ((H82.out.eq (b := ((blk b12 #[.int .i64 ox, .int .i64 oy] 66 + (blk b11 #[.int .i64 (X : Int), .int .i64 (Y : Int)] 66 + (blk b10 #[.int .i64 (X : Int), .int .i64 (Y : Int), .bool dn] 40 + (pts g (.map es clock) + blk b6 #[.int .i64 (WN : Int), .int .i64 (HN : Int), .slice A HN c] 51)))) + MS.all w)) (by ac_rfl)).right) ox oy; rw [hhb] at hq)
                      | (go_at_call 62; refine (Hoth.out w92).mono ?_; rintro e81 w81 ⟨rfl, k81⟩; have H81 := hid (k81.1 _ H92.out); have E81 := hid (E92.out.trans k81.2); clear k81; clear v0 v1 v2; obtain ⟨b12, hb12⟩ : ∃ b12, b12 = w81.heap.size := ⟨_, rfl⟩; have HAb12 := hid (show Has (w81.alloc (.cells #[.int .i64 0, .int .i64 0] 66)) (blk b12 #[.int .i64 0, .int .i64 0] 66 + (blk b11 #[.int .i64 (X : Int), .int .i64 (Y : Int)] 66 + (blk b10 #[.int .i64 (X : Int), .int .i64 (Y : Int), .bool dn] 40 + (pts g (.map es clock) + (blk b6 #[.int .i64 (WN : Int), .int .i64 (HN : Int), .slice A HN c] 51 + MS.all w))))) by rw [hb12]; exact H81.out.alloc _); have Hb12 := hid hb12; clear hb12))
                    clear hlk2 v0 v1
                    have hS : (fun W' : World => W'.cell? ⟨b11, 0, none⟩ = some (.int .i64 (X : Int)) ∧ W'.cell? ⟨b11, 1, none⟩ = some (.int .i64 (Y : Int)) ∧ W'.cell? ⟨b12, 0, none⟩ = some (.int .i64 ox) ∧ W'.cell? ⟨b12, 1, none⟩ = some (.int .i64 oy)) w91.drew := ⟨(H91.out.eq (b := (blk b11 #[.int .i64 (X : Int), .int .i64 (Y : Int)] 66 + (blk b12 #[.int .i64 ox, .int .i64 oy] 66 + (blk b10 #[.int .i64 (X : Int), .int .i64 (Y : Int), .bool dn] 40 + (pts g (.map es clock) + (blk b6 #[.int .i64 (WN : Int), .int .i64 (HN : Int), .slice A HN c] 51 + MS.all w)))))) (by ac_rfl)).at_ (i := 0) rfl, (H91.out.eq (b := (blk b11 #[.int .i64 (X : Int), .int .i64 (Y : Int)] 66 + (blk b12 #[.int .i64 ox, .int .i64 oy] 66 + (blk b10 #[.int .i64 (X : Int), .int .i64 (Y : Int), .bool dn] 40 + (pts g (.map es clock) + (blk b6 #[.int .i64 (WN : Int), .int .i64 (HN : Int), .slice A HN c] 51 + MS.all w)))))) (by ac_rfl)).at_ (i := 1) rfl, (H91.out.eq (b := (blk b12 #[.int .i64 ox, .int .i64 oy] 66 + (blk b11 #[.int .i64 (X : Int), .int .i64 (Y : Int)] 66 + (blk b10 #[.int .i64 (X : Int), .int .i64 (Y : Int), .bool dn] 40 + (pts g (.map es clock) + (blk b6 #[.int .i64 (WN : Int), .int .i64 (HN : Int), .slice A HN c] 51 + MS.all w)))))) (by ac_rfl)).at_ (i := 0) rfl, (H91.out.eq (b := (blk b12 #[.int .i64 ox, .int .i64 oy] 66 + (blk b11 #[.int .i64 (X : Int), .int .i64 (Y : Int)] 66 + (blk b10 #[.int .i64 (X : Int), .int .i64 (Y : Int), .bool dn] 40 + (pts g (.map es clock) + (blk b6 #[.int .i64 (WN : Int), .int .i64 (HN : Int), .slice A HN c] 51 + MS.all w)))))) (by ac_rfl)).at_ (i := 1) rfl⟩
                    refine wp_region_txt (fun W' => W'.cell? ⟨b11, 0, none⟩ = some (.int .i64 (X : Int)) ∧ W'.cell? ⟨b11, 1, none⟩ = some (.int .i64 (Y : Int)) ∧ W'.cell? ⟨b12, 0, none⟩ = some (.int .i64 ox) ∧ W'.cell? ⟨b12, 1, none⟩ = some (.int .i64 oy)) (some 5)
                      [(0, true), (1, true), (2, true), (3, true), (4, false), (5, false)] (by kernel_rfl) rfl (by kernel_rfl) (by kernel_rfl) (by repeat (first | with_reducible refine PanicOk.thn ?_ | with_reducible refine PanicOk.blk ?_ | exact PanicOk.body _ _ _)) ?_
                    repeat (first
                      | (refine txt_off hS rfl rfl ?_; simp only [Act.put, List.setIfInBounds_toArray, List.set_cons_zero, List.set_cons_succ])
                      | (refine txt_quiet ?_ hS rfl rfl (fun W hW => ?_) ?_
                         rotate_left 1
                         · obtain ⟨hW1, hW2, hW3, hW4⟩ := hW
                           go_simp
                           exact rfl
                         simp only [Act.put, List.setIfInBounds_toArray, List.set_cons_zero, List.set_cons_succ]))
                    refine txt_op rfl rfl ?_
                    refine op_putM pair66 und83 (.tmp 96) (.tmp 97) (.const (.bool true)) rfl g rfl ((X : Int), (Y : Int)) rfl (.bool true) rfl HS.out Hsm.out _ ((H91.out.eq (b := (pts g (.map es clock) + (blk b12 #[.int .i64 ox, .int .i64 oy] 66 + (blk b11 #[.int .i64 (X : Int), .int .i64 (Y : Int)] 66 + (blk b10 #[.int .i64 (X : Int), .int .i64 (Y : Int), .bool dn] 40 + (blk b6 #[.int .i64 (WN : Int), .int .i64 (HN : Int), .slice A HN c] 51 + MS.all w)))))) (by ac_rfl)).drew) ?_
                    intro es4 clock4 w94 z1 z2 z3
                    have S4 := hid z1
                    have E94 := hid ((E91.out.trans (Ext.drew _)).trans z3)
                    have H94 := hid (show Has w94 (pts g (.map es4 clock4) + (blk b12 #[.int .i64 ox, .int .i64 oy] 66 + (blk b11 #[.int .i64 (X : Int), .int .i64 (Y : Int)] 66 + (blk b10 #[.int .i64 (X : Int), .int .i64 (Y : Int), .bool dn] 40 + (blk b6 #[.int .i64 (WN : Int), .int .i64 (HN : Int), .slice A HN c] 51 + MS.all w))))) from z2)
                    clear z1 z2 z3 hS
                    have hS : (fun W' : World => W'.cell? ⟨b11, 0, none⟩ = some (.int .i64 (X : Int)) ∧ W'.cell? ⟨b11, 1, none⟩ = some (.int .i64 (Y : Int)) ∧ W'.cell? ⟨b12, 0, none⟩ = some (.int .i64 ox) ∧ W'.cell? ⟨b12, 1, none⟩ = some (.int .i64 oy)) w94 := ⟨(H94.out.eq (b := (blk b11 #[.int .i64 (X : Int), .int .i64 (Y : Int)] 66 + (blk b12 #[.int .i64 ox, .int .i64 oy] 66 + (blk b10 #[.int .i64 (X : Int), .int .i64 (Y : Int), .bool dn] 40 + (pts g (.map es4 clock4) + (blk b6 #[.int .i64 (WN : Int), .int .i64 (HN : Int), .slice A HN c] 51 + MS.all w)))))) (by ac_rfl)).at_ (i := 0) rfl, (H94.out.eq (b := (blk b11 #[.int .i64 (X : Int), .int .i64 (Y : Int)] 66 + (blk b12 #[.int .i64 ox, .int .i64 oy] 66 + (blk b10 #[.int .i64 (X : Int), .int .i64 (Y : Int), .bool dn] 40 + (pts g (.map es4 clock4) + (blk b6 #[.int .i64 (WN : Int), .int .i64 (HN : Int), .slice A HN c] 51 + MS.all w)))))) (by ac_rfl)).at_ (i := 1) rfl, (H94.out.eq (b := (blk b12 #[.int .i64 ox, .int .i64 oy] 66 + (blk b11 #[.int .i64 (X : Int), .int .i64 (Y : Int)] 66 + (blk b10 #[.int .i64 (X : Int), .int .i64 (Y : Int), .bool dn] 40 + (pts g (.map es4 clock4) + (blk b6 #[.int .i64 (WN : Int), .int .i64 (HN : Int), .slice A HN c] 51 + MS.all w)))))) (by ac_rfl)).at_ (i := 0) rfl, (H94.out.eq (b := (blk b12 #[.int .i64 ox, .int .i64 oy] 66 + (blk b11 #[.int .i64 (X : Int), .int .i64 (Y : Int)] 66 + (blk b10 #[.int .i64 (X : Int), .int .i64 (Y : Int), .bool dn] 40 + (pts g (.map es4 clock4) + (blk b6 #[.int .i64 (WN : Int), .int .i64 (HN : Int), .slice A HN c] 51 + MS.all w)))))) (by ac_rfl)).at_ (i := 1) rfl⟩
                    refine ⟨fun _ => hS, ?_⟩
                    simp only [Act.put, List.setIfInBounds_toArray, List.set_cons_zero, List.set_cons_succ]
                    refine txt_op rfl rfl ?_
                    refine op_putM pair66 und83 (.tmp 98) (.tmp 99) (.const (.bool true)) rfl g rfl (ox, oy) rfl (.bool true) rfl S4.out Hsm2.out _ (H94.out.eq (b := (pts g (.map es4 clock4) + (blk b12 #[.int .i64 ox, .int .i64 oy] 66 + (blk b11 #[.int .i64 (X : Int), .int .i64 (Y : Int)] 66 + (blk b10 #[.int .i64 (X : Int), .int .i64 (Y : Int), .bool dn] 40 + (blk b6 #[.int .i64 (WN : Int), .int .i64 (HN : Int), .slice A HN c] 51 + MS.all w)))))) (by ac_rfl)) ?_
                    intro es5 clock5 w95 z1 z2 z3
                    have S5 := hid z1
                    have E95 := hid (E94.out.trans z3)
                    have H95 := hid (show Has w95 (pts g (.map es5 clock5) + (blk b12 #[.int .i64 ox, .int .i64 oy] 66 + (blk b11 #[.int .i64 (X : Int), .int .i64 (Y : Int)] 66 + (blk b10 #[.int .i64 (X : Int), .int .i64 (Y : Int), .bool dn] 40 + (blk b6 #[.int .i64 (WN : Int), .int .i64 (HN : Int), .slice A HN c] 51 + MS.all w))))) from z2)
                    clear z1 z2 z3 hS
                    refine ⟨fun h => absurd rfl h, ?_⟩
                    refine txt_done ?_
                    simp only [Act.put]
                    go_wp2
                    go_roundw
                    case rel => exact ⟨(j + 1) + 1, takF f X Y dn, _, es5, clock5, Hlt.out, by go_num, fun x y h => Hfs.out x y (takF_in h), Hnext.out, S5.out, Hlen5.out, Hcn5.out, Hcov5.out, (H95.out.eq (b := ((pts g (.map es5 clock5) + (blk b6 #[.int .i64 (WN : Int), .int .i64 (HN : Int), .slice A HN c] 51 + MS.all w)) + (blk b12 #[.int .i64 ox, .int .i64 oy] 66 + (blk b11 #[.int .i64 (X : Int), .int .i64 (Y : Int)] 66 + blk b10 #[.int .i64 (X : Int), .int .i64 (Y : Int), .bool dn] 40)))) (by ac_rfl)).left, E95.out⟩
                    case measure => have := Hlt.out; simp [intOf]; omega
    · have hie : i = TN := by omega
      subst hie
      have hfin : R = decide (allF WN HN f) := by
        rw [← HRi.out, List.drop_eq_nil_iff.2 (by rw [HTN.out]; exact Nat.le_refl _)]; rfl
      have Hfin := hid hfin
      have hlm := len_ents und83 HS.out HW.out.get (by rw [HSl.out]; omega)
      rw [HSl.out] at hlm
      have q0 := (HW.out.eq (b := (blk b6 #[.int .i64 (WN : Int), .int .i64 (HN : Int), .slice A HN c] 51 + (pts g (.map es clock) + MS.all w))) (by ac_rfl)).at_ (i := 0) rfl
      have q1 := (HW.out.eq (b := (blk b6 #[.int .i64 (WN : Int), .int .i64 (HN : Int), .slice A HN c] 51 + (pts g (.map es clock) + MS.all w))) (by ac_rfl)).at_ (i := 1) rfl
      have q2 := (HW.out.eq (b := (blk b6 #[.int .i64 (WN : Int), .int .i64 (HN : Int), .slice A HN c] 51 + (pts g (.map es clock) + MS.all w))) (by ac_rfl)).at_ (i := 2) rfl
      obtain ⟨CN, hCN⟩ : ∃ CN, CN = cellN WN HN hs0 := ⟨_, rfl⟩
      have hres := hid (show ((2 * (i : Int)) == (CN : Int)) = R by
        rw [Hfin.out]
        have h1 := Hcn.out
        by_cases h : cellN WN HN f = 0
        · rw [decide_eq_true (cellN_zero.1 h), beq_iff_eq]; omega
        · rw [decide_eq_false (fun h2 => h (cellN_zero.2 h2)), beq_eq_false_iff_ne]; omega)
      have Hcn2 := hid (show ∀ n, n = (cellsL p).length → n = CN from fun n h => by rw [h, Hcl.out, hCN])
      clear hlt hi hfin hCN
      go_wp2_with (go_at_call 37; refine (Hcells.out wr HW.out.right.right).mono ?_; rintro e9 w9 ⟨v9, m9, rfl, hC, k9, l9⟩; obtain ⟨A9, c9, rfl, _⟩ := SlR.form hC; rw [Hcn2.out _ rfl]; have K9 := hid (k9 _ HW.out); have E9 := hid (HE.out.trans l9); clear hC k9 l9)
      go_ret2
      exact ⟨by rw [← hres.out]; rfl, fun M hM => hM.of_all (K9.out.eq (b := (m9 + (pts g (.map es clock) + blk b6 #[.int .i64 (WN : Int), .int .i64 (HN : Int), .slice A HN c] 51)) + MS.all w) (by ac_rfl)), E9.out⟩
end Go.Proofs.YtcdhimnmbpllgaaDoor

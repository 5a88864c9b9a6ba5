/-
  The walks of turned (29) and without (67) (printed by gen_turn.py). The walk of without (67) (printed by gen_turn.py). The walk of firsts (30) (printed by gen_firsts.py). The law DominoSums, walked.
-/
import Derived.Test.YtcdhimnmbpllgaaDoorPSum
import Derived.Test.YtcdhimnmbpllgaaDoorWG3
import Derived.Test.YtcdhimnmbpllgaaDoorDW9
import Derived.Sort.AtCall
import Derived.Test.YtcdhimnmbpllgaaDoorDPt
import Derived.Test.YtcdhimnmbpllgaaDoorDLaw0
import Derived.Test.YtcdhimnmbpllgaaDoorDAlive
namespace Go.Proofs.YtcdhimnmbpllgaaDoor
open Go.RowKit
set_option linter.unusedVariables false
set_option linter.unusedSimpArgs false
set_option maxHeartbeats 4000000
set_option maxRecDepth 100000

theorem drBy {f : Nat → Nat → Bool} {x y : Nat} : (if f x y then 35 else 46 : UInt8).toNat = if f x y then 35 else 46 := by cases f x y <;> rfl
theorem ByR.rdl {l : List UInt8} {v : Value} {m : MS} (h : SlR 5 1 ByR l v m) : RdS m RT.by8 l v := SlR.rd (R := ByR) (T := RT.by8) (fun a cs m h => h.1) h
theorem mir_any {F : MS} {p : List ByteArray} {A : Option Addr} {c : Nat} {w : World} (hr : RdS F RT.str p (.slice A p.length c)) (hp : RegOk p) (hab : ∀ s ∈ p, abB s = true) (hH : Has w F) :
    Calls Tryd.prog 29 #[.slice A p.length c, .bool true] w fun e w' => ∃ v m, e = .returned v ∧ SlR 9 1 StrR (mirL p) v m ∧ (∀ M, Has w M → Has w' (m + M)) ∧ Ext w w' := by
  have hra := rd_all_str hr hH
  have hnc := hr.cells.2.1
  have hW1 := hp.w1
  have hW8 := hp.w8
  have hH1 := hp.h1
  have hH8 := hp.h8
  obtain ⟨WN, hWN⟩ : ∃ WN, WN = wd p := ⟨_, rfl⟩
  obtain ⟨HN, hHN⟩ : ∃ HN, HN = p.length := ⟨_, rfl⟩
  have Hst := hid (fun (y : Nat) (hy : y < HN) => show ∃ s b o, p[y]? = some s ∧ A = some ⟨b, o, none⟩ ∧ (MS.all w).at b (o + y) (.string s) ∧ s.size = WN ∧ ∀ x, x < WN → bt s x = if hsR p x y then 35 else 46 from by
    have hs := List.getElem?_eq_getElem (l := p) (i := y) (by omega)
    obtain ⟨b, o, h1, h2⟩ := hra.getStr hs
    exact ⟨_, b, o, hs, h1, h2, by rw [hWN]; exact hp.rows _ (List.mem_of_getElem? hs), fun x hx => byte_at hp hab (by omega) hs⟩)
  obtain ⟨GG, hGG⟩ : ∃ GG : Nat → Nat → Bool, GG = (fun x y => hsR p (WN - 1 - x) y) := ⟨_, rfl⟩
  have HG := hid (fun x y => show GG x y = hsR p (WN - 1 - x) y by rw [hGG])
  have Hend := hid (show drawnK GG WN HN = mirL p by rw [hGG, hWN, hHN]; rfl)
  obtain ⟨TL, hTL⟩ : ∃ TL, TL = mirL p := ⟨_, rfl⟩
  rw [← hTL] at Hend ⊢
  rw [← hHN] at hnc hH1 hH8 ⊢
  rw [← hWN] at hW1 hW8
  obtain ⟨s0, b, o, hs0, hA, e0, z0, _⟩ := Hst.out 0 (by omega)
  subst hA
  have f0 := e0.c0 (Has.all w)
  rw [Nat.add_zero] at f0
  have hHI : (HN : Int) ≤ 8 := by omega
  have hWI : (WN : Int) ≤ 8 := by omega
  have hHp : (0 : Int) < HN := by omega
  have hHc : 0 < HN := by omega
  have hHcc : 0 < c := by omega
  have H0 := hid (Has.all w)
  have E0 := hid (Ext.refl w)
  clear hr hra hp hab hH hWN hHN hTL e0 hs0 hGG
  go_enter Tryd.func29, Tryd.ntmps29
  go_wp2
  clear f0 z0 hHp hHc hHcc
  go_loopw [7, 8] (fun vo vy wr => ∃ (y : Nat) (m : MS), y ≤ HN ∧ vy = .int .i64 y ∧ SlR 9 1 StrR (drawnK GG WN y) vo m ∧ Has wr (m + MS.all w) ∧ Ext w wr) (fun _ v _ => HN - (intOf v).toNat)
  case atStart => exact ⟨0, 0, Nat.zero_le _, rfl, ⟨[], 0, 0, Sl.nil 9 1, RowsR.nil, (MS.zero_add _).symm⟩, H0.out.eq (by rw [MS.zero_add]), E0.out⟩
  case round =>
    clear H0 E0
    obtain ⟨y, m, hy, rfl, hs, hW, hE⟩ := hrel
    obtain ⟨A5, c5, rfl, _⟩ := SlR.form hs
    rw [drawnK_len] at hs ⊢
    have HS := hid hs
    have HW := hid hW
    have HE := hid hE
    clear hs hW hE
    by_cases hlt : y < HN
    · have hltI : (y : Int) < HN := by omega
      have hdy : ∀ d : Decidable ((y : Int) < HN), @decide _ d = true := fun d => by simp [hltI]
      have Hlt := hid hlt
      have hw1 : wrap64 ((HN : Int) - 1) = ((HN - 1 : Nat) : Int) := by unfold wrap64; omega
      clear hlt hy
      go_wp2
      clear hltI hdy hw1
      go_loopw [9, 10] (fun vr vx wr => ∃ (x : Nat) (m2 : MS), x ≤ WN ∧ vx = .int .i64 x ∧ SlR 5 1 ByR (drRow GG y x) vr m2 ∧ Has wr (m2 + (m + MS.all w)) ∧ Ext w wr) (fun _ v _ => WN - (intOf v).toNat)
      case atStart => exact ⟨0, 0, Nat.zero_le _, rfl, ⟨[], 0, 0, Sl.nil 5 1, RowsR.nil, (MS.zero_add _).symm⟩, HW.out.eq (by rw [MS.zero_add]), HE.out⟩
      case round =>
        clear HW HE
        obtain ⟨x, m2, hx, rfl, hs2, hW, hE⟩ := hrel
        obtain ⟨A6, c6, rfl, _⟩ := SlR.form hs2
        rw [drRow_len] at hs2 ⊢
        have HS2 := hid hs2
        have HW := hid hW
        have HE := hid hE
        clear hs2 hW hE
        by_cases hlx : x < WN
        · have hlxI : (x : Int) < WN := by omega
          have Hlx := hid hlx
          have hyR := Hlt.out
          have hu1 : WN - 1 - x < WN := by omega
          obtain ⟨s, b', o', _, hA, e3, hsz, hbt⟩ := Hst.out y hyR
          injection hA with hA; injection hA with g1 g2
          subst g1; subst g2
          have hby := hbt (WN - 1 - x) hu1
          have hus : WN - 1 - x < s.size := by omega
          have hw1 : wrap64 ((WN : Int) - 1) = (WN : Int) - 1 := by unfold wrap64; omega
          have hw2 : wrap64 ((WN : Int) - 1 - (x : Int)) = (WN : Int) - 1 - (x : Int) := by unfold wrap64; omega
          have hyc : y < HN := hyR
          have hycI : (y : Int) < HN := by omega
          obtain ⟨bb, hbb⟩ : ∃ bb : UInt8, bb = if GG x y then 35 else 46 := ⟨_, rfl⟩
          have hbe := bt_eq s (WN - 1 - x) hus
          have hbe2 : ((s[(WN - 1 - x)]'hus).toNat : Int) = (bb.toNat : Int) := by
            rw [hbe, hby, hbb, HG.out]
            show (if hsR p (WN - 1 - x) y = true then (35 : Int) else 46) = ((if hsR p (WN - 1 - x) y = true then 35 else 46 : UInt8).toNat : Int)
            cases hsR p (WN - 1 - x) y <;> rfl
          have Hrow := hid (show drRow GG y (x + 1) = drRow GG y x ++ [bb] by rw [drRow_succ, hbb])
          have f3 := e3.c0 (HW.out.right.right)
          have husI : ((WN : Int) - 1 - (x : Int)) < s.size := by omega
          clear e3 hbt hby hbe hlx hx hbb 
          go_wp2_with (at_builtin; refine wpList_push rfl (.tmp 31) (.tmp 41) row101 rfl (.slice A6 x c6) rfl _ rfl rfl ByR ByR.one ByR.len (drRow GG y x) bb m2 0 _ HS2.out ⟨rfl, rfl⟩ (HW.out.eq (by rw [MS.zero_add])) x (drRow_len _ _ _) (by omega) (by omega) ?_; intro A9 c9 w9 m9 j4 j5 j6; have J4 := hid j4; have J5 := hid j5; have J6 := hid (HE.out.trans j6); clear j4 j5 j6)
          go_roundw
          case rel => exact ⟨x + 1, m9, Hlx.out, by go_num, by rw [Hrow.out]; exact J4.out, J5.out, J6.out⟩
          case measure => have := Hlx.out; simp [intOf] <;> omega
        · have hxe : x = WN := by omega
          subst hxe
          clear hlx hx
          have hl2 := hid (drawnK_succ GG x y)
          have hyR := Hlt.out
          have hcv := conv_by (ByR.rdl HS2.out) (drRow_len _ _ _).symm (by omega) HW.out.left
          rw [show (⟨(drRow GG y x).toArray⟩ : ByteArray) = drStr GG x y from rfl] at hcv
          generalize hST : drStr GG x y = ST at hcv hl2
          have HST := hid hST
          clear hST
          skip
          go_wp2_with (at_builtin; refine wpList_push rfl (.tmp 43) (.tmp 46) row22 rfl (.slice A5 y c5) rfl _ rfl rfl StrR StrR.one StrR.len (drawnK GG x y) ST m 0 _ HS.out ⟨rfl, rfl⟩ (HW.out.eq (b := (m + (0 + (m2 + MS.all w)))) (by rw [MS.zero_add]; ac_rfl)) y (drawnK_len _ _ _) (by omega) (by omega) ?_; intro A9 c9 w9 m9 j4 j5 j6; have J4 := hid j4; have J5 := hid j5; have J6 := hid (HE.out.trans j6); clear j4 j5 j6)
          go_roundw
          case rel => exact ⟨y + 1, m9, Hlt.out, by go_num, by rw [hl2.out]; exact J4.out, (J5.out.eq (b := (m9 + MS.all w) + m2) (by ac_rfl)).left, J6.out⟩
          case measure => have := Hlt.out; simp [intOf]; omega
    · have hye : y = HN := by omega
      subst hye
      clear hlt hy
      go_wp2
      go_ret
      exact ⟨_, m, rfl, by rw [← Hend.out]; exact HS.out, fun M hM => Has.with_all hM HW.out, HE.out⟩
theorem turn_any {F : MS} {p : List ByteArray} {A : Option Addr} {c : Nat} {w : World} (hr : RdS F RT.str p (.slice A p.length c)) (hp : RegOk p) (hab : ∀ s ∈ p, abB s = true) (hH : Has w F) :
    Calls Tryd.prog 29 #[.slice A p.length c, .bool false] w fun e w' => ∃ v m, e = .returned v ∧ SlR 9 1 StrR (turnL p) v m ∧ (∀ M, Has w M → Has w' (m + M)) ∧ Ext w w' := by
  have hra := rd_all_str hr hH
  have hnc := hr.cells.2.1
  have hW1 := hp.w1
  have hW8 := hp.w8
  have hH1 := hp.h1
  have hH8 := hp.h8
  obtain ⟨WN, hWN⟩ : ∃ WN, WN = wd p := ⟨_, rfl⟩
  obtain ⟨HN, hHN⟩ : ∃ HN, HN = p.length := ⟨_, rfl⟩
  have Hst := hid (fun (y : Nat) (hy : y < HN) => show ∃ s b o, p[y]? = some s ∧ A = some ⟨b, o, none⟩ ∧ (MS.all w).at b (o + y) (.string s) ∧ s.size = WN ∧ ∀ x, x < WN → bt s x = if hsR p x y then 35 else 46 from by
    have hs := List.getElem?_eq_getElem (l := p) (i := y) (by omega)
    obtain ⟨b, o, h1, h2⟩ := hra.getStr hs
    exact ⟨_, b, o, hs, h1, h2, by rw [hWN]; exact hp.rows _ (List.mem_of_getElem? hs), fun x hx => byte_at hp hab (by omega) hs⟩)
  obtain ⟨GG, hGG⟩ : ∃ GG : Nat → Nat → Bool, GG = (fun x y => hsR p y (HN - 1 - x)) := ⟨_, rfl⟩
  have HG := hid (fun x y => show GG x y = hsR p y (HN - 1 - x) by rw [hGG])
  have Hend := hid (show drawnK GG HN WN = turnL p by rw [hGG, hWN, hHN]; rfl)
  obtain ⟨TL, hTL⟩ : ∃ TL, TL = turnL p := ⟨_, rfl⟩
  rw [← hTL] at Hend ⊢
  rw [← hHN] at hnc hH1 hH8 ⊢
  rw [← hWN] at hW1 hW8
  obtain ⟨s0, b, o, hs0, hA, e0, z0, _⟩ := Hst.out 0 (by omega)
  subst hA
  have f0 := e0.c0 (Has.all w)
  rw [Nat.add_zero] at f0
  have hHI : (HN : Int) ≤ 8 := by omega
  have hWI : (WN : Int) ≤ 8 := by omega
  have hHp : (0 : Int) < HN := by omega
  have hHc : 0 < HN := by omega
  have hHcc : 0 < c := by omega
  have H0 := hid (Has.all w)
  have E0 := hid (Ext.refl w)
  clear hr hra hp hab hH hWN hHN hTL e0 hs0 hGG
  go_enter Tryd.func29, Tryd.ntmps29
  go_wp2
  clear f0 z0 hHp hHc hHcc
  go_loopw [7, 11] (fun vo vy wr => ∃ (y : Nat) (m : MS), y ≤ WN ∧ vy = .int .i64 y ∧ SlR 9 1 StrR (drawnK GG HN y) vo m ∧ Has wr (m + MS.all w) ∧ Ext w wr) (fun _ v _ => WN - (intOf v).toNat)
  case atStart => exact ⟨0, 0, Nat.zero_le _, rfl, ⟨[], 0, 0, Sl.nil 9 1, RowsR.nil, (MS.zero_add _).symm⟩, H0.out.eq (by rw [MS.zero_add]), E0.out⟩
  case round =>
    clear H0 E0
    obtain ⟨y, m, hy, rfl, hs, hW, hE⟩ := hrel
    obtain ⟨A5, c5, rfl, _⟩ := SlR.form hs
    rw [drawnK_len] at hs ⊢
    have HS := hid hs
    have HW := hid hW
    have HE := hid hE
    clear hs hW hE
    by_cases hlt : y < WN
    · have hltI : (y : Int) < WN := by omega
      have hdy : ∀ d : Decidable ((y : Int) < WN), @decide _ d = true := fun d => by simp [hltI]
      have Hlt := hid hlt
      have hw1 : wrap64 ((HN : Int) - 1) = ((HN - 1 : Nat) : Int) := by unfold wrap64; omega
      clear hlt hy
      go_wp2
      clear hltI hdy hw1
      go_loopw [12, 13] (fun vr vx wr => ∃ (x : Nat) (m2 : MS), x ≤ HN ∧ vx = .int .i64 ((HN : Int) - 1 - x) ∧ SlR 5 1 ByR (drRow GG y x) vr m2 ∧ Has wr (m2 + (m + MS.all w)) ∧ Ext w wr) (fun _ v _ => (intOf v + 1).toNat)
      case atStart => exact ⟨0, 0, Nat.zero_le _, by congr 1; omega, ⟨[], 0, 0, Sl.nil 5 1, RowsR.nil, (MS.zero_add _).symm⟩, HW.out.eq (by rw [MS.zero_add]), HE.out⟩
      case round =>
        clear HW HE
        obtain ⟨x, m2, hx, rfl, hs2, hW, hE⟩ := hrel
        obtain ⟨A6, c6, rfl, _⟩ := SlR.form hs2
        rw [drRow_len] at hs2 ⊢
        have HS2 := hid hs2
        have HW := hid hW
        have HE := hid hE
        clear hs2 hW hE
        by_cases hlx : x < HN
        · have hlxI : (x : Int) < HN := by omega
          have Hlx := hid hlx
          have hyR := Hlt.out
          obtain ⟨u, hu⟩ : ∃ u, u = HN - 1 - x := ⟨_, rfl⟩
          have hu1 : u < HN := by omega
          obtain ⟨s, b', o', _, hA, e3, hsz, hbt⟩ := Hst.out u hu1
          injection hA with hA; injection hA with g1 g2
          subst g1; subst g2
          have hby := hbt y hyR
          have hus : y < s.size := by omega
          have hue : (HN : Int) - 1 - (x : Int) = (u : Int) := by omega
          have huI : (u : Int) < HN := by omega
          have hwu : wrap64 ((u : Int) - 1) = (u : Int) - 1 := by unfold wrap64; omega
          rw [hue]
          obtain ⟨bb, hbb⟩ : ∃ bb : UInt8, bb = if GG x y then 35 else 46 := ⟨_, rfl⟩
          have hbe := bt_eq s y hus
          have hbe2 : ((s[y]'hus).toNat : Int) = (bb.toNat : Int) := by
            rw [hbe, hby, hbb, HG.out, hu]
            show (if hsR p y (HN - 1 - x) = true then (35 : Int) else 46) = ((if hsR p y (HN - 1 - x) = true then 35 else 46 : UInt8).toNat : Int)
            cases hsR p y (HN - 1 - x) <;> rfl
          have Hrow := hid (show drRow GG y (x + 1) = drRow GG y x ++ [bb] by rw [drRow_succ, hbb])
          have f3 := e3.c0 (HW.out.right.right)
          have husI : (y : Int) < s.size := by omega
          clear e3 hbt hby hbe hlx hx hbb hu
          go_wp2_with (at_builtin; refine wpList_push rfl (.tmp 60) (.tmp 67) row101 rfl (.slice A6 x c6) rfl _ rfl rfl ByR ByR.one ByR.len (drRow GG y x) bb m2 0 _ HS2.out ⟨rfl, rfl⟩ (HW.out.eq (by rw [MS.zero_add])) x (drRow_len _ _ _) (by omega) (by omega) ?_; intro A9 c9 w9 m9 j4 j5 j6; have J4 := hid j4; have J5 := hid j5; have J6 := hid (HE.out.trans j6); clear j4 j5 j6)
          go_roundw
          case rel => exact ⟨x + 1, m9, Hlx.out, by (congr 1) <;> omega, by rw [Hrow.out]; exact J4.out, J5.out, J6.out⟩
          case measure => have := Hlx.out; simp [intOf] <;> omega
        · have hxe : x = HN := by omega
          subst hxe
          clear hlx hx
          have hl2 := hid (drawnK_succ GG x y)
          have hyR := Hlt.out
          have hcv := conv_by (ByR.rdl HS2.out) (drRow_len _ _ _).symm (by omega) HW.out.left
          rw [show (⟨(drRow GG y x).toArray⟩ : ByteArray) = drStr GG x y from rfl] at hcv
          generalize hST : drStr GG x y = ST at hcv hl2
          have HST := hid hST
          clear hST
          have hneg : ¬ (0 : Int) ≤ (x : Int) - 1 - (x : Int) := by omega
          go_wp2_with (at_builtin; refine wpList_push rfl (.tmp 69) (.tmp 72) row22 rfl (.slice A5 y c5) rfl _ rfl rfl StrR StrR.one StrR.len (drawnK GG x y) ST m 0 _ HS.out ⟨rfl, rfl⟩ (HW.out.eq (b := (m + (0 + (m2 + MS.all w)))) (by rw [MS.zero_add]; ac_rfl)) y (drawnK_len _ _ _) (by omega) (by omega) ?_; intro A9 c9 w9 m9 j4 j5 j6; have J4 := hid j4; have J5 := hid j5; have J6 := hid (HE.out.trans j6); clear j4 j5 j6)
          go_roundw
          case rel => exact ⟨y + 1, m9, Hlt.out, by go_num, by rw [hl2.out]; exact J4.out, (J5.out.eq (b := (m9 + MS.all w) + m2) (by ac_rfl)).left, J6.out⟩
          case measure => have := Hlt.out; simp [intOf]; omega
    · have hye : y = WN := by omega
      subst hye
      clear hlt hy
      go_wp2
      go_ret
      exact ⟨_, m, rfl, by rw [← Hend.out]; exact HS.out, fun M hM => Has.with_all hM HW.out, HE.out⟩
end Go.Proofs.YtcdhimnmbpllgaaDoor

namespace Go.Proofs.YtcdhimnmbpllgaaDoor
open Go.RowKit
set_option linter.unusedVariables false
set_option linter.unusedSimpArgs false
set_option maxHeartbeats 4000000
set_option maxRecDepth 100000

theorem alloc_size (w : World) (o : Obj) : (w.alloc o).heap.size = w.heap.size + 1 := by simp
theorem info5 : (Tryd.prog.info? 5).map (fun i => (i.zero, i.size, i.bytes)) = some (some (.int .u8 0), 1, 1) := by kernel_rfl
theorem wpList_append_str {w : World} {o : Oper} {ops : Array Oper} {rest : List Oper} {a : Act} {Q : Exit → Act → World → Prop} {s : ByteArray} {F : MS} (hgd : o.guard = none) (sl x : Operand) (ho : o.op = .call { callee := .builtin .append, args := #[sl, x], argTypes := #[101, 9] })
    (hs : a.eval sl = .slice none 0 0) (hx : a.eval x = .string s) (h0 : 1 ≤ s.size) (h8 : s.size ≤ 8) (hH : Has w F)
    (h : ∀ b cap cur w', (∀ j, j < s.size → cur[j]? = (s.data.map fun b : UInt8 => Value.int .u8 (b.toNat : Int))[j]?) → s.size ≤ cap → Has w' (blk b cur 5 + F) → Ext w w' → wpList Tryd.prog ops Q rest (a.put o.dst (.slice (some ⟨b, 0, none⟩) s.size cap)) w') : wpList Tryd.prog ops Q (o :: rest) a w :=
  wpList_plain hgd fun _ hK => by
    obtain ⟨i, hi, hz0, hz1, hz2⟩ := info_parts info5
    have hr := run_append_nil_string (P := Tryd.prog) w 101 9 o.type 5 i (.int .u8 0) Tryd.underlying101 Tryd.underlying9 hi hz0 s (by omega) (by omega) (by rw [hz2]; omega)
    unfold Oper.wp execOp
    simp only [ho, resolve, invoke, builtin, Sem.run_bind, Sem.run_pure, Result.andThen_ok, List.map_toArray, List.map_cons, List.map_nil, hs, hx, hr]
    refine hK _ _ (h w.heap.size _ _ _ (fun j hj => ?_) ?_ (hH.drew.alloc _) ((Ext.drew _).trans (Ext.alloc _ _)))
    · have hsz : s.data.size = s.size := rfl
      rw [Array.getElem?_append_left (by rw [Array.size_map, hsz]; exact hj)]
    · exact grownCap_ge _ _ _ _
theorem without_any {F : MS} {p : List ByteArray} {A : Option Addr} {c : Nat} {w : World} {X Y X2 Y2 : Nat} (hr : RdS F RT.str p (.slice A p.length c)) (hp : RegOk p) (hab : ∀ s ∈ p, abB s = true) (hX : X < wd p) (hX2 : X2 < wd p) (hY : Y < p.length) (hY2 : Y2 < p.length) (hH : Has w F) :
    Calls Tryd.prog 67 #[.slice A p.length c, .agg #[.int .i64 (X : Int), .int .i64 (Y : Int)], .agg #[.int .i64 (X2 : Int), .int .i64 (Y2 : Int)]] w fun e w' => ∃ v m, e = .returned v ∧ SlR 9 1 StrR (drawnL p (offF (offF (hsR p) X Y) X2 Y2)) v m ∧ (∀ M, Has w M → Has w' (m + M)) ∧ Ext w w' := by
  have hra := rd_all_str hr hH
  have hnc := hr.cells.2.1
  have hW1 := hp.w1
  have hW8 := hp.w8
  have hH8 := hp.h8
  obtain ⟨WN, hWN⟩ : ∃ WN, WN = wd p := ⟨_, rfl⟩
  obtain ⟨HN, hHN⟩ : ∃ HN, HN = p.length := ⟨_, rfl⟩
  have Hst := hid (fun (y : Nat) (hy : y < HN) => show ∃ s b o, A = some ⟨b, o, none⟩ ∧ (MS.all w).at b (o + y) (.string s) ∧ s.size = WN ∧ s.data.map (fun b : UInt8 => Value.int .u8 (b.toNat : Int)) = (((List.range WN).map fun x => Value.int .u8 (if hsR p x y then 35 else 46)).toArray) from by
    have hs := List.getElem?_eq_getElem (l := p) (i := y) (by omega)
    obtain ⟨b, o, h1, h2⟩ := hra.getStr hs
    exact ⟨_, b, o, h1, h2, by rw [hWN]; exact hp.rows _ (List.mem_of_getElem? hs), by rw [hWN]; exact drRow_eq hp hab hs⟩)
  obtain ⟨GG, hGG⟩ : ∃ GG : Nat → Nat → Bool, GG = offF (offF (hsR p) X Y) X2 Y2 := ⟨_, rfl⟩
  have HG := hid (fun x y => show GG x y = ((hsR p x y && !(decide (x = X) && decide (y = Y))) && !(decide (x = X2) && decide (y = Y2))) by rw [hGG]; rfl)
  have Hend := hid (show drawnK GG WN HN = drawnL p (offF (offF (hsR p) X Y) X2 Y2) by rw [hGG, hWN, hHN]; rfl)
  obtain ⟨TL, hTL⟩ : ∃ TL, TL = drawnL p (offF (offF (hsR p) X Y) X2 Y2) := ⟨_, rfl⟩
  rw [← hTL] at Hend ⊢
  rw [← hHN] at hnc hH8 hY hY2 ⊢
  rw [← hWN] at hW1 hW8 hX hX2
  have HX := hid (And.intro hX hX2)
  obtain ⟨b4, hb4⟩ : ∃ b4, b4 = w.heap.size := ⟨_, rfl⟩
  obtain ⟨b5, hb5⟩ : ∃ b5, b5 = w.heap.size + 1 := ⟨_, rfl⟩
  have H0 := hid (show Has ((w.alloc (.cells #[.int .i64 (X : Int), .int .i64 (Y : Int)] 66)).alloc (.cells #[.int .i64 (X2 : Int), .int .i64 (Y2 : Int)] 66)) (blk b5 #[.int .i64 (X2 : Int), .int .i64 (Y2 : Int)] 66 + (blk b4 #[.int .i64 (X : Int), .int .i64 (Y : Int)] 66 + MS.all w)) by
    have e := alloc_size w (.cells #[.int .i64 (X : Int), .int .i64 (Y : Int)] 66)
    rw [hb5, hb4, ← e]; exact ((Has.all w).alloc _).alloc _)
  have E0 := hid ((Ext.alloc w (.cells #[.int .i64 (X : Int), .int .i64 (Y : Int)] 66)).trans (Ext.alloc _ (.cells #[.int .i64 (X2 : Int), .int .i64 (Y2 : Int)] 66)))
  have hHI : (HN : Int) ≤ 8 := by omega
  have hXI : (X : Int) ≤ 8 := by omega
  have hX2I : (X2 : Int) ≤ 8 := by omega
  have hYI : (Y : Int) ≤ 8 := by omega
  have hY2I : (Y2 : Int) ≤ 8 := by omega
  clear hr hra hp hab hH hWN hHN hTL hGG hX hX2 hY hY2
  go_enter Tryd.func67, Tryd.ntmps67
  go_wp2
  rw [← hb5, ← hb4]
  clear hb4 hb5
  generalize ((w.alloc (.cells #[.int .i64 (X : Int), .int .i64 (Y : Int)] 66)).alloc (.cells #[.int .i64 (X2 : Int), .int .i64 (Y2 : Int)] 66)) = w0 at *
  go_loopw [7, 8] (fun vo vy wr => ∃ (y : Nat) (m : MS), y ≤ HN ∧ vy = .int .i64 y ∧ SlR 9 1 StrR (drawnK GG WN y) vo m ∧ Has wr (m + (blk b5 #[.int .i64 (X2 : Int), .int .i64 (Y2 : Int)] 66 + (blk b4 #[.int .i64 (X : Int), .int .i64 (Y : Int)] 66 + MS.all w))) ∧ Ext w wr) (fun _ v _ => HN - (intOf v).toNat)
  case atStart => exact ⟨0, 0, Nat.zero_le _, rfl, ⟨[], 0, 0, Sl.nil 9 1, RowsR.nil, (MS.zero_add _).symm⟩, H0.out.eq (by rw [MS.zero_add]), E0.out⟩
  case round =>
    clear H0 E0
    obtain ⟨y, m, hy, rfl, hs, hW, hE⟩ := hrel
    obtain ⟨A5, c5, rfl, _⟩ := SlR.form hs
    rw [drawnK_len] at hs ⊢
    have HS := hid hs
    have HW := hid hW
    have HE := hid hE
    clear hs hW hE
    by_cases hlt : y < HN
    · have hltI : (y : Int) < HN := by omega
      have hyc : y < c := by omega
      have Hlt := hid hlt
      have hl2 := hid (drawnK_succ GG WN y)
      obtain ⟨s, b, o, hA, e3, hsz, hdat⟩ := Hst.out y hlt
      subst hA
      have f3 := e3.c0 (HW.out.right.right.right)
      have Hrow0 := hid (fun (cur : Array Value) (h : ∀ j, j < s.size → cur[j]? = (s.data.map fun b : UInt8 => Value.int .u8 (b.toNat : Int))[j]?) => show RowB cur WN (fun j => hsR p j y) from fun j hj => by
        rw [h j (by omega), hdat]
        simp [hj])
      have Hsz := hid hsz
      clear hlt hy e3 hdat hsz
      by_cases hy1 : y = Y
      · have hy1h := hid hy1
        have hd1a : ∀ d : Decidable ((y : Int) = (Y : Int)), @decide _ d = true := fun d => by simp [hy1]
        have hd1b : ∀ d : Decidable (y = Y), @decide _ d = true := fun d => by simp [hy1]
        have hd1c : ((y : Int) == (Y : Int)) = true := by simp [hy1]
        clear hy1
        by_cases hy2 : y = Y2
        · have hy2h := hid hy2
          have hd2a : ∀ d : Decidable ((y : Int) = (Y2 : Int)), @decide _ d = true := fun d => by simp [hy2]
          have hd2b : ∀ d : Decidable (y = Y2), @decide _ d = true := fun d => by simp [hy2]
          have hd2c : ((y : Int) == (Y2 : Int)) = true := by simp [hy2]
          clear hy2
          go_wp2_with (first
            | (at_builtin; refine wpList_push rfl (.tmp 38) (.tmp 41) row22 rfl (.slice A5 y c5) rfl _ rfl rfl StrR StrR.one StrR.len (drawnK GG WN y) ST m 0 _ HS.out ⟨rfl, rfl⟩ (H3.out.eq (b := (m + (0 + (blk br ((cur.setIfInBounds X (.int .u8 46)).setIfInBounds X2 (.int .u8 46)) 5 + (blk b5 #[.int .i64 (X2 : Int), .int .i64 (Y2 : Int)] 66 + (blk b4 #[.int .i64 (X : Int), .int .i64 (Y : Int)] 66 + MS.all w)))))) (by rw [MS.zero_add] <;> ac_rfl)) y (drawnK_len _ _ _) (by omega) (by omega) ?_; intro A9 c9 w9 m9 j4 j5 j6; have J4 := hid j4; have J5 := hid j5; have J6 := hid (E3.out.trans j6); clear j4 j5 j6)
            | (refine wpList_store_blk rfl (.tmp 37) (.const (.int .u8 46)) 5 rfl size5 br X2 (.int .u8 46) rfl rfl rfl (cur.setIfInBounds X (.int .u8 46)) 5 _ H2.out (by have := R2.out.size; omega) ?_; intro w3 j1 j2; have R3 := hid (R2.out.set hX2s); have H3 := hid j1; have E3 := hid (E2.out.trans j2); clear j1 j2 u0 u1 v0 v1; have u0 := (H3.out.eq (b := blk b4 #[.int .i64 (X : Int), .int .i64 (Y : Int)] 66 + (blk b5 #[.int .i64 (X2 : Int), .int .i64 (Y2 : Int)] 66 + ((blk br ((cur.setIfInBounds X (.int .u8 46)).setIfInBounds X2 (.int .u8 46)) 5 + m) + MS.all w))) (by ac_rfl)).at_ (i := 0) rfl; have u1 := (H3.out.eq (b := blk b4 #[.int .i64 (X : Int), .int .i64 (Y : Int)] 66 + (blk b5 #[.int .i64 (X2 : Int), .int .i64 (Y2 : Int)] 66 + ((blk br ((cur.setIfInBounds X (.int .u8 46)).setIfInBounds X2 (.int .u8 46)) 5 + m) + MS.all w))) (by ac_rfl)).at_ (i := 1) rfl; have v0 := (H3.out.eq (b := blk b5 #[.int .i64 (X2 : Int), .int .i64 (Y2 : Int)] 66 + (blk b4 #[.int .i64 (X : Int), .int .i64 (Y : Int)] 66 + ((blk br ((cur.setIfInBounds X (.int .u8 46)).setIfInBounds X2 (.int .u8 46)) 5 + m) + MS.all w))) (by ac_rfl)).at_ (i := 0) rfl; have v1 := (H3.out.eq (b := blk b5 #[.int .i64 (X2 : Int), .int .i64 (Y2 : Int)] 66 + (blk b4 #[.int .i64 (X : Int), .int .i64 (Y : Int)] 66 + ((blk br ((cur.setIfInBounds X (.int .u8 46)).setIfInBounds X2 (.int .u8 46)) 5 + m) + MS.all w))) (by ac_rfl)).at_ (i := 1) rfl; have hrow := hid (show RowB ((cur.setIfInBounds X (.int .u8 46)).setIfInBounds X2 (.int .u8 46)) WN (fun j => GG j y) from fun j hj => (by show _ = some (Value.int .u8 (if GG j y = true then 35 else 46)); rw [HG.out j y, R3.out j hj]; simp only [decide_eq_true hy1h.out, decide_eq_true hy2h.out, Bool.and_true, Bool.and_false, Bool.not_false])); have hcv := conv_row (c := cap) hrow.out hW1 H3.out; generalize hST : drStr GG WN y = ST at hcv hl2; have HST := hid hST; clear hST)
            | (refine wpList_store_blk rfl (.tmp 29) (.const (.int .u8 46)) 5 rfl size5 br X (.int .u8 46) rfl rfl rfl cur 5 _ H1.out (by have := R1.out.size; omega) ?_; intro w2 j1 j2; have R2 := hid (R1.out.set hXs); have H2 := hid j1; have E2 := hid (E1.out.trans j2); clear j1 j2 u0 u1 v0 v1; have u0 := (H2.out.eq (b := blk b4 #[.int .i64 (X : Int), .int .i64 (Y : Int)] 66 + (blk b5 #[.int .i64 (X2 : Int), .int .i64 (Y2 : Int)] 66 + ((blk br (cur.setIfInBounds X (.int .u8 46)) 5 + m) + MS.all w))) (by ac_rfl)).at_ (i := 0) rfl; have u1 := (H2.out.eq (b := blk b4 #[.int .i64 (X : Int), .int .i64 (Y : Int)] 66 + (blk b5 #[.int .i64 (X2 : Int), .int .i64 (Y2 : Int)] 66 + ((blk br (cur.setIfInBounds X (.int .u8 46)) 5 + m) + MS.all w))) (by ac_rfl)).at_ (i := 1) rfl; have v0 := (H2.out.eq (b := blk b5 #[.int .i64 (X2 : Int), .int .i64 (Y2 : Int)] 66 + (blk b4 #[.int .i64 (X : Int), .int .i64 (Y : Int)] 66 + ((blk br (cur.setIfInBounds X (.int .u8 46)) 5 + m) + MS.all w))) (by ac_rfl)).at_ (i := 0) rfl; have v1 := (H2.out.eq (b := blk b5 #[.int .i64 (X2 : Int), .int .i64 (Y2 : Int)] 66 + (blk b4 #[.int .i64 (X : Int), .int .i64 (Y : Int)] 66 + ((blk br (cur.setIfInBounds X (.int .u8 46)) 5 + m) + MS.all w))) (by ac_rfl)).at_ (i := 1) rfl)
            | (at_builtin; refine wpList_append_str rfl (.tmp 16) (.tmp 20) rfl rfl rfl (by have := Hsz.out; omega) (by have := Hsz.out; omega) HW.out ?_; intro br cap cur w1 j0 jc j1 j2; rw [Hsz.out] at jc ⊢; have R1 := hid (Hrow0.out cur j0); have H1 := hid j1; have E1 := hid (HE.out.trans j2); have Hsiz := hid R1.out.size; clear j0 j1 j2 f3; have u0 := (H1.out.eq (b := blk b4 #[.int .i64 (X : Int), .int .i64 (Y : Int)] 66 + (blk b5 #[.int .i64 (X2 : Int), .int .i64 (Y2 : Int)] 66 + ((blk br cur 5 + m) + MS.all w))) (by ac_rfl)).at_ (i := 0) rfl; have u1 := (H1.out.eq (b := blk b4 #[.int .i64 (X : Int), .int .i64 (Y : Int)] 66 + (blk b5 #[.int .i64 (X2 : Int), .int .i64 (Y2 : Int)] 66 + ((blk br cur 5 + m) + MS.all w))) (by ac_rfl)).at_ (i := 1) rfl; have v0 := (H1.out.eq (b := blk b5 #[.int .i64 (X2 : Int), .int .i64 (Y2 : Int)] 66 + (blk b4 #[.int .i64 (X : Int), .int .i64 (Y : Int)] 66 + ((blk br cur 5 + m) + MS.all w))) (by ac_rfl)).at_ (i := 0) rfl; have v1 := (H1.out.eq (b := blk b5 #[.int .i64 (X2 : Int), .int .i64 (Y2 : Int)] 66 + (blk b4 #[.int .i64 (X : Int), .int .i64 (Y : Int)] 66 + ((blk br cur 5 + m) + MS.all w))) (by ac_rfl)).at_ (i := 1) rfl; have hXs := HX.out.1; have hX2s := HX.out.2; have hXc : X < WN := hXs; have hX2c : X2 < WN := hX2s; have hXcI : (X : Int) < WN := (by omega); have hX2cI : (X2 : Int) < WN := (by omega)))
          go_roundw
          case rel => exact ⟨y + 1, m9, Hlt.out, by go_num, by rw [hl2.out]; exact J4.out, (J5.out.eq (b := (m9 + (blk b5 #[.int .i64 (X2 : Int), .int .i64 (Y2 : Int)] 66 + (blk b4 #[.int .i64 (X : Int), .int .i64 (Y : Int)] 66 + MS.all w))) + blk br ((cur.setIfInBounds X (.int .u8 46)).setIfInBounds X2 (.int .u8 46)) 5) (by ac_rfl)).left, J6.out⟩
          case measure => have := Hlt.out; simp [intOf]; omega
        · have hy2I : ¬ (y : Int) = (Y2 : Int) := by omega
          have hd2c : ((y : Int) == (Y2 : Int)) = false := beq_eq_false_iff_ne.2 hy2I
          go_wp2_with (first
            | (at_builtin; refine wpList_push rfl (.tmp 38) (.tmp 41) row22 rfl (.slice A5 y c5) rfl _ rfl rfl StrR StrR.one StrR.len (drawnK GG WN y) ST m 0 _ HS.out ⟨rfl, rfl⟩ (H2.out.eq (b := (m + (0 + (blk br (cur.setIfInBounds X (.int .u8 46)) 5 + (blk b5 #[.int .i64 (X2 : Int), .int .i64 (Y2 : Int)] 66 + (blk b4 #[.int .i64 (X : Int), .int .i64 (Y : Int)] 66 + MS.all w)))))) (by rw [MS.zero_add] <;> ac_rfl)) y (drawnK_len _ _ _) (by omega) (by omega) ?_; intro A9 c9 w9 m9 j4 j5 j6; have J4 := hid j4; have J5 := hid j5; have J6 := hid (E2.out.trans j6); clear j4 j5 j6)
            | (refine wpList_store_blk rfl (.tmp 29) (.const (.int .u8 46)) 5 rfl size5 br X (.int .u8 46) rfl rfl rfl cur 5 _ H1.out (by have := R1.out.size; omega) ?_; intro w2 j1 j2; have R2 := hid (R1.out.set hXs); have H2 := hid j1; have E2 := hid (E1.out.trans j2); clear j1 j2 u0 u1 v0 v1; have u0 := (H2.out.eq (b := blk b4 #[.int .i64 (X : Int), .int .i64 (Y : Int)] 66 + (blk b5 #[.int .i64 (X2 : Int), .int .i64 (Y2 : Int)] 66 + ((blk br (cur.setIfInBounds X (.int .u8 46)) 5 + m) + MS.all w))) (by ac_rfl)).at_ (i := 0) rfl; have u1 := (H2.out.eq (b := blk b4 #[.int .i64 (X : Int), .int .i64 (Y : Int)] 66 + (blk b5 #[.int .i64 (X2 : Int), .int .i64 (Y2 : Int)] 66 + ((blk br (cur.setIfInBounds X (.int .u8 46)) 5 + m) + MS.all w))) (by ac_rfl)).at_ (i := 1) rfl; have v0 := (H2.out.eq (b := blk b5 #[.int .i64 (X2 : Int), .int .i64 (Y2 : Int)] 66 + (blk b4 #[.int .i64 (X : Int), .int .i64 (Y : Int)] 66 + ((blk br (cur.setIfInBounds X (.int .u8 46)) 5 + m) + MS.all w))) (by ac_rfl)).at_ (i := 0) rfl; have v1 := (H2.out.eq (b := blk b5 #[.int .i64 (X2 : Int), .int .i64 (Y2 : Int)] 66 + (blk b4 #[.int .i64 (X : Int), .int .i64 (Y : Int)] 66 + ((blk br (cur.setIfInBounds X (.int .u8 46)) 5 + m) + MS.all w))) (by ac_rfl)).at_ (i := 1) rfl; have hrow := hid (show RowB (cur.setIfInBounds X (.int .u8 46)) WN (fun j => GG j y) from fun j hj => (by show _ = some (Value.int .u8 (if GG j y = true then 35 else 46)); rw [HG.out j y, R2.out j hj]; simp only [decide_eq_true hy1h.out, decide_eq_false hy2, Bool.and_true, Bool.and_false, Bool.not_false])); have hcv := conv_row (c := cap) hrow.out hW1 H2.out; generalize hST : drStr GG WN y = ST at hcv hl2; have HST := hid hST; clear hST)
            | (at_builtin; refine wpList_append_str rfl (.tmp 16) (.tmp 20) rfl rfl rfl (by have := Hsz.out; omega) (by have := Hsz.out; omega) HW.out ?_; intro br cap cur w1 j0 jc j1 j2; rw [Hsz.out] at jc ⊢; have R1 := hid (Hrow0.out cur j0); have H1 := hid j1; have E1 := hid (HE.out.trans j2); have Hsiz := hid R1.out.size; clear j0 j1 j2 f3; have u0 := (H1.out.eq (b := blk b4 #[.int .i64 (X : Int), .int .i64 (Y : Int)] 66 + (blk b5 #[.int .i64 (X2 : Int), .int .i64 (Y2 : Int)] 66 + ((blk br cur 5 + m) + MS.all w))) (by ac_rfl)).at_ (i := 0) rfl; have u1 := (H1.out.eq (b := blk b4 #[.int .i64 (X : Int), .int .i64 (Y : Int)] 66 + (blk b5 #[.int .i64 (X2 : Int), .int .i64 (Y2 : Int)] 66 + ((blk br cur 5 + m) + MS.all w))) (by ac_rfl)).at_ (i := 1) rfl; have v0 := (H1.out.eq (b := blk b5 #[.int .i64 (X2 : Int), .int .i64 (Y2 : Int)] 66 + (blk b4 #[.int .i64 (X : Int), .int .i64 (Y : Int)] 66 + ((blk br cur 5 + m) + MS.all w))) (by ac_rfl)).at_ (i := 0) rfl; have v1 := (H1.out.eq (b := blk b5 #[.int .i64 (X2 : Int), .int .i64 (Y2 : Int)] 66 + (blk b4 #[.int .i64 (X : Int), .int .i64 (Y : Int)] 66 + ((blk br cur 5 + m) + MS.all w))) (by ac_rfl)).at_ (i := 1) rfl; have hXs := HX.out.1; have hX2s := HX.out.2; have hXc : X < WN := hXs; have hX2c : X2 < WN := hX2s; have hXcI : (X : Int) < WN := (by omega); have hX2cI : (X2 : Int) < WN := (by omega)))
          go_roundw
          case rel => exact ⟨y + 1, m9, Hlt.out, by go_num, by rw [hl2.out]; exact J4.out, (J5.out.eq (b := (m9 + (blk b5 #[.int .i64 (X2 : Int), .int .i64 (Y2 : Int)] 66 + (blk b4 #[.int .i64 (X : Int), .int .i64 (Y : Int)] 66 + MS.all w))) + blk br (cur.setIfInBounds X (.int .u8 46)) 5) (by ac_rfl)).left, J6.out⟩
          case measure => have := Hlt.out; simp [intOf]; omega
      · have hy1I : ¬ (y : Int) = (Y : Int) := by omega
        have hd1c : ((y : Int) == (Y : Int)) = false := beq_eq_false_iff_ne.2 hy1I
        by_cases hy2 : y = Y2
        · have hy2h := hid hy2
          have hd2a : ∀ d : Decidable ((y : Int) = (Y2 : Int)), @decide _ d = true := fun d => by simp [hy2]
          have hd2b : ∀ d : Decidable (y = Y2), @decide _ d = true := fun d => by simp [hy2]
          have hd2c : ((y : Int) == (Y2 : Int)) = true := by simp [hy2]
          clear hy2
          go_wp2_with (first
            | (at_builtin; refine wpList_push rfl (.tmp 38) (.tmp 41) row22 rfl (.slice A5 y c5) rfl _ rfl rfl StrR StrR.one StrR.len (drawnK GG WN y) ST m 0 _ HS.out ⟨rfl, rfl⟩ (H2.out.eq (b := (m + (0 + (blk br (cur.setIfInBounds X2 (.int .u8 46)) 5 + (blk b5 #[.int .i64 (X2 : Int), .int .i64 (Y2 : Int)] 66 + (blk b4 #[.int .i64 (X : Int), .int .i64 (Y : Int)] 66 + MS.all w)))))) (by rw [MS.zero_add] <;> ac_rfl)) y (drawnK_len _ _ _) (by omega) (by omega) ?_; intro A9 c9 w9 m9 j4 j5 j6; have J4 := hid j4; have J5 := hid j5; have J6 := hid (E2.out.trans j6); clear j4 j5 j6)
            | (refine wpList_store_blk rfl (.tmp 37) (.const (.int .u8 46)) 5 rfl size5 br X2 (.int .u8 46) rfl rfl rfl cur 5 _ H1.out (by have := R1.out.size; omega) ?_; intro w2 j1 j2; have R2 := hid (R1.out.set hX2s); have H2 := hid j1; have E2 := hid (E1.out.trans j2); clear j1 j2 u0 u1 v0 v1; have u0 := (H2.out.eq (b := blk b4 #[.int .i64 (X : Int), .int .i64 (Y : Int)] 66 + (blk b5 #[.int .i64 (X2 : Int), .int .i64 (Y2 : Int)] 66 + ((blk br (cur.setIfInBounds X2 (.int .u8 46)) 5 + m) + MS.all w))) (by ac_rfl)).at_ (i := 0) rfl; have u1 := (H2.out.eq (b := blk b4 #[.int .i64 (X : Int), .int .i64 (Y : Int)] 66 + (blk b5 #[.int .i64 (X2 : Int), .int .i64 (Y2 : Int)] 66 + ((blk br (cur.setIfInBounds X2 (.int .u8 46)) 5 + m) + MS.all w))) (by ac_rfl)).at_ (i := 1) rfl; have v0 := (H2.out.eq (b := blk b5 #[.int .i64 (X2 : Int), .int .i64 (Y2 : Int)] 66 + (blk b4 #[.int .i64 (X : Int), .int .i64 (Y : Int)] 66 + ((blk br (cur.setIfInBounds X2 (.int .u8 46)) 5 + m) + MS.all w))) (by ac_rfl)).at_ (i := 0) rfl; have v1 := (H2.out.eq (b := blk b5 #[.int .i64 (X2 : Int), .int .i64 (Y2 : Int)] 66 + (blk b4 #[.int .i64 (X : Int), .int .i64 (Y : Int)] 66 + ((blk br (cur.setIfInBounds X2 (.int .u8 46)) 5 + m) + MS.all w))) (by ac_rfl)).at_ (i := 1) rfl; have hrow := hid (show RowB (cur.setIfInBounds X2 (.int .u8 46)) WN (fun j => GG j y) from fun j hj => (by show _ = some (Value.int .u8 (if GG j y = true then 35 else 46)); rw [HG.out j y, R2.out j hj]; simp only [decide_eq_false hy1, decide_eq_true hy2h.out, Bool.and_true, Bool.and_false, Bool.not_false])); have hcv := conv_row (c := cap) hrow.out hW1 H2.out; generalize hST : drStr GG WN y = ST at hcv hl2; have HST := hid hST; clear hST)
            | (at_builtin; refine wpList_append_str rfl (.tmp 16) (.tmp 20) rfl rfl rfl (by have := Hsz.out; omega) (by have := Hsz.out; omega) HW.out ?_; intro br cap cur w1 j0 jc j1 j2; rw [Hsz.out] at jc ⊢; have R1 := hid (Hrow0.out cur j0); have H1 := hid j1; have E1 := hid (HE.out.trans j2); have Hsiz := hid R1.out.size; clear j0 j1 j2 f3; have u0 := (H1.out.eq (b := blk b4 #[.int .i64 (X : Int), .int .i64 (Y : Int)] 66 + (blk b5 #[.int .i64 (X2 : Int), .int .i64 (Y2 : Int)] 66 + ((blk br cur 5 + m) + MS.all w))) (by ac_rfl)).at_ (i := 0) rfl; have u1 := (H1.out.eq (b := blk b4 #[.int .i64 (X : Int), .int .i64 (Y : Int)] 66 + (blk b5 #[.int .i64 (X2 : Int), .int .i64 (Y2 : Int)] 66 + ((blk br cur 5 + m) + MS.all w))) (by ac_rfl)).at_ (i := 1) rfl; have v0 := (H1.out.eq (b := blk b5 #[.int .i64 (X2 : Int), .int .i64 (Y2 : Int)] 66 + (blk b4 #[.int .i64 (X : Int), .int .i64 (Y : Int)] 66 + ((blk br cur 5 + m) + MS.all w))) (by ac_rfl)).at_ (i := 0) rfl; have v1 := (H1.out.eq (b := blk b5 #[.int .i64 (X2 : Int), .int .i64 (Y2 : Int)] 66 + (blk b4 #[.int .i64 (X : Int), .int .i64 (Y : Int)] 66 + ((blk br cur 5 + m) + MS.all w))) (by ac_rfl)).at_ (i := 1) rfl; have hXs := HX.out.1; have hX2s := HX.out.2; have hXc : X < WN := hXs; have hX2c : X2 < WN := hX2s; have hXcI : (X : Int) < WN := (by omega); have hX2cI : (X2 : Int) < WN := (by omega)))
          go_roundw
          case rel => exact ⟨y + 1, m9, Hlt.out, by go_num, by rw [hl2.out]; exact J4.out, (J5.out.eq (b := (m9 + (blk b5 #[.int .i64 (X2 : Int), .int .i64 (Y2 : Int)] 66 + (blk b4 #[.int .i64 (X : Int), .int .i64 (Y : Int)] 66 + MS.all w))) + blk br (cur.setIfInBounds X2 (.int .u8 46)) 5) (by ac_rfl)).left, J6.out⟩
          case measure => have := Hlt.out; simp [intOf]; omega
        · have hy2I : ¬ (y : Int) = (Y2 : Int) := by omega
          have hd2c : ((y : Int) == (Y2 : Int)) = false := beq_eq_false_iff_ne.2 hy2I
          go_wp2_with (first
            | (at_builtin; refine wpList_push rfl (.tmp 38) (.tmp 41) row22 rfl (.slice A5 y c5) rfl _ rfl rfl StrR StrR.one StrR.len (drawnK GG WN y) ST m 0 _ HS.out ⟨rfl, rfl⟩ (H1.out.eq (b := (m + (0 + (blk br cur 5 + (blk b5 #[.int .i64 (X2 : Int), .int .i64 (Y2 : Int)] 66 + (blk b4 #[.int .i64 (X : Int), .int .i64 (Y : Int)] 66 + MS.all w)))))) (by rw [MS.zero_add] <;> ac_rfl)) y (drawnK_len _ _ _) (by omega) (by omega) ?_; intro A9 c9 w9 m9 j4 j5 j6; have J4 := hid j4; have J5 := hid j5; have J6 := hid (E1.out.trans j6); clear j4 j5 j6)
            | (at_builtin; refine wpList_append_str rfl (.tmp 16) (.tmp 20) rfl rfl rfl (by have := Hsz.out; omega) (by have := Hsz.out; omega) HW.out ?_; intro br cap cur w1 j0 jc j1 j2; rw [Hsz.out] at jc ⊢; have R1 := hid (Hrow0.out cur j0); have H1 := hid j1; have E1 := hid (HE.out.trans j2); have Hsiz := hid R1.out.size; clear j0 j1 j2 f3; have u0 := (H1.out.eq (b := blk b4 #[.int .i64 (X : Int), .int .i64 (Y : Int)] 66 + (blk b5 #[.int .i64 (X2 : Int), .int .i64 (Y2 : Int)] 66 + ((blk br cur 5 + m) + MS.all w))) (by ac_rfl)).at_ (i := 0) rfl; have u1 := (H1.out.eq (b := blk b4 #[.int .i64 (X : Int), .int .i64 (Y : Int)] 66 + (blk b5 #[.int .i64 (X2 : Int), .int .i64 (Y2 : Int)] 66 + ((blk br cur 5 + m) + MS.all w))) (by ac_rfl)).at_ (i := 1) rfl; have v0 := (H1.out.eq (b := blk b5 #[.int .i64 (X2 : Int), .int .i64 (Y2 : Int)] 66 + (blk b4 #[.int .i64 (X : Int), .int .i64 (Y : Int)] 66 + ((blk br cur 5 + m) + MS.all w))) (by ac_rfl)).at_ (i := 0) rfl; have v1 := (H1.out.eq (b := blk b5 #[.int .i64 (X2 : Int), .int .i64 (Y2 : Int)] 66 + (blk b4 #[.int .i64 (X : Int), .int .i64 (Y : Int)] 66 + ((blk br cur 5 + m) + MS.all w))) (by ac_rfl)).at_ (i := 1) rfl; have hXs := HX.out.1; have hX2s := HX.out.2; have hXc : X < WN := hXs; have hX2c : X2 < WN := hX2s; have hXcI : (X : Int) < WN := (by omega); have hX2cI : (X2 : Int) < WN := (by omega); have hrow := hid (show RowB cur WN (fun j => GG j y) from fun j hj => (by show _ = some (Value.int .u8 (if GG j y = true then 35 else 46)); rw [HG.out j y, R1.out j hj]; simp only [decide_eq_false hy1, decide_eq_false hy2, Bool.and_true, Bool.and_false, Bool.not_false])); have hcv := conv_row (c := cap) hrow.out hW1 H1.out; generalize hST : drStr GG WN y = ST at hcv hl2; have HST := hid hST; clear hST))
          go_roundw
          case rel => exact ⟨y + 1, m9, Hlt.out, by go_num, by rw [hl2.out]; exact J4.out, (J5.out.eq (b := (m9 + (blk b5 #[.int .i64 (X2 : Int), .int .i64 (Y2 : Int)] 66 + (blk b4 #[.int .i64 (X : Int), .int .i64 (Y : Int)] 66 + MS.all w))) + blk br cur 5) (by ac_rfl)).left, J6.out⟩
          case measure => have := Hlt.out; simp [intOf]; omega
    · have hye : y = HN := by omega
      subst hye
      clear hlt hy
      go_wp2
      go_ret
      exact ⟨_, m, rfl, by rw [← Hend.out]; exact HS.out, fun M hM => (Has.with_all hM (HW.out.eq (b := (m + (blk b5 #[.int .i64 (X2 : Int), .int .i64 (Y2 : Int)] 66 + blk b4 #[.int .i64 (X : Int), .int .i64 (Y : Int)] 66)) + MS.all w) (by ac_rfl))).eq (b := (m + M) + (blk b5 #[.int .i64 (X2 : Int), .int .i64 (Y2 : Int)] 66 + blk b4 #[.int .i64 (X : Int), .int .i64 (Y : Int)] 66)) (by ac_rfl) |>.left, HE.out⟩
end Go.Proofs.YtcdhimnmbpllgaaDoor

namespace Go.Proofs.YtcdhimnmbpllgaaDoor
open Go.RowKit
set_option linter.unusedVariables false
set_option linter.unusedSimpArgs false
set_option maxHeartbeats 4000000
set_option maxRecDepth 100000

theorem StsR.rd {l : List ByteArray} {v : Value} {m : MS} (h : SlR 9 1 StrR l v m) : RdS m RT.str l v := SlR.rd (R := StrR) (T := RT.str) (fun a cs m h => h.1) h
theorem count_reg {m F : MS} {l : List ByteArray} {A : Option Addr} {n c : Nat} {w : World} (h : SlR 9 1 StrR l (.slice A n c) m) (hn : l.length = n) (hq : isReg l = true) (hH : Has w (m + F)) : Calls Tryd.prog 13 #[.slice A n c] w fun e w' => e = .returned (.tuple #[.int .i64 (cntV l), .int .i64 0]) ∧ Kp w w' := by
  subst hn
  have hp := (isReg.ok hq).1
  have h1 := count_any (StsR.rd h) (by have := hp.h8; omega) (fun s hs => by have := hp.rows s hs; have := hp.w8; omega) hH.left
  have e : cntE l = 0 := by unfold cntE; rw [hq]; rfl
  rw [e] at h1
  exact h1
theorem cntV_le {p : List ByteArray} (hq : isReg p = true) : cntV p ≤ 4294967296 := by
  have hp := (isReg.ok hq).1
  rw [cntV_eq hq]
  exact cntF_small hp.w1 hp.w8 hp.h8 (fun x y h => hsR_in x y h) (Nat.zero_add _) (Nat.two_pow_pos _)
theorem wrap_nat {a : Nat} (h : a ≤ 4294967296) : wrap64 (a : Int) = (a : Int) := by unfold wrap64; omega
theorem wrap_sum {a b : Nat} (h : a ≤ 4294967296) (h' : b ≤ 4294967296) : wrap64 ((a : Int) + (b : Int)) = (a : Int) + (b : Int) := by unfold wrap64; omega
theorem firsts_any {F : MS} {p : List ByteArray} {A : Option Addr} {c : Nat} {w : World} (hr : RdS F RT.str p (.slice A p.length c)) (hq : isReg p = true) (hH : Has w F) :
    Calls Tryd.prog 30 #[.slice A p.length c, .int .i64 (cntV p)] w fun e w' => e = .returned (.bool true) ∧ Kp w w' := by
  have hra := rd_all_str hr hH
  have hp := (isReg.ok hq).1
  have hab := (isReg.ok hq).2
  have hnc := hr.cells.2.1
  have hW1 := hp.w1
  have hW8 := hp.w8
  have hH1 := hp.h1
  have hH8 := hp.h8
  have Hin := hid (fun (W : World) (h : Has W (MS.all w)) (x y : Int) => in_any hra hp h x y)
  have Hwo := hid (fun (W : World) (h : Has W (MS.all w)) (x y : Nat) (d : Bool) (hx : onX x d < wd p) (hy : onY y d < p.length) => show Calls Tryd.prog 67 #[.slice A p.length c, .agg #[.int .i64 (x : Int), .int .i64 (y : Int)], .agg #[.int .i64 (onX x d : Int), .int .i64 (onY y d : Int)]] W fun e w' => ∃ A' c' m, e = .returned (.slice A' p.length c') ∧ (∀ M, Has W M → Has w' (m + M)) ∧ Ext W w' ∧ ∀ W2, Has W2 (m + MS.all w) → Calls Tryd.prog 13 #[.slice A' p.length c'] W2 fun e w' => e = .returned (.tuple #[.int .i64 (cntV (drawnL p (takF (hsR p) x y d))), .int .i64 0]) ∧ Kp W2 w' from
    by
    have hx1 : x < wd p := Nat.lt_of_le_of_lt (by unfold onX; split <;> omega) hx
    have hy1 : y < p.length := Nat.lt_of_le_of_lt (by unfold onY; split <;> omega) hy
    have hreg := part_reg hq (takF (hsR p) x y d)
    have hlen := drawnL_len p (takF (hsR p) x y d)
    have hw0 := without_any (X := x) (Y := y) (X2 := onX x d) (Y2 := onY y d) hra hp hab hx1 hx hy1 hy h
    rw [show offF (offF (hsR p) x y) (onX x d) (onY y d) = takF (hsR p) x y d from rfl] at hw0
    generalize drawnL p (takF (hsR p) x y d) = DL at *
    refine hw0.mono ?_
    rintro e w' ⟨v, m, rfl, h1, h2, h3⟩
    obtain ⟨A', c', rfl, _⟩ := SlR.form h1
    rw [hlen] at h1 ⊢
    exact ⟨A', c', m, rfl, h2, h3, fun W2 hW2 => count_reg h1 hlen hreg hW2⟩)
  have HwR := hid (fun (W : World) (h : Has W (MS.all w)) (x y : Nat) (xr : Int) (hxr : xr = (x : Int) + 1) (hx : x + 1 < wd p) (hy : y < p.length) => show Calls Tryd.prog 67 #[.slice A p.length c, .agg #[.int .i64 (x : Int), .int .i64 (y : Int)], .agg #[.int .i64 xr, .int .i64 (y : Int)]] W fun e w' => ∃ A' c' m, e = .returned (.slice A' p.length c') ∧ (∀ M, Has W M → Has w' (m + M)) ∧ Ext W w' ∧ ∀ W2, Has W2 (m + MS.all w) → Calls Tryd.prog 13 #[.slice A' p.length c'] W2 fun e w' => e = .returned (.tuple #[.int .i64 (cntV (drawnL p (takF (hsR p) x y false))), .int .i64 0]) ∧ Kp W2 w' from by
    have h1 := Hwo.out W h x y false hx hy
    rw [show ((onX x false : Nat) : Int) = xr from hxr.symm, show ((onY y false : Nat) : Int) = (y : Int) from rfl] at h1
    exact h1)
  have HwD := hid (fun (W : World) (h : Has W (MS.all w)) (x y : Nat) (yd : Int) (hyd : yd = (y : Int) + 1) (hx : x < wd p) (hy : y + 1 < p.length) => show Calls Tryd.prog 67 #[.slice A p.length c, .agg #[.int .i64 (x : Int), .int .i64 (y : Int)], .agg #[.int .i64 (x : Int), .int .i64 yd]] W fun e w' => ∃ A' c' m, e = .returned (.slice A' p.length c') ∧ (∀ M, Has W M → Has w' (m + M)) ∧ Ext W w' ∧ ∀ W2, Has W2 (m + MS.all w) → Calls Tryd.prog 13 #[.slice A' p.length c'] W2 fun e w' => e = .returned (.tuple #[.int .i64 (cntV (drawnL p (takF (hsR p) x y true))), .int .i64 0]) ∧ Kp W2 w' from by
    have h1 := Hwo.out W h x y true hx hy
    rw [show ((onX x true : Nat) : Int) = (x : Int) from rfl, show ((onY y true : Nat) : Int) = yd from hyd.symm] at h1
    exact h1)
  clear Hwo
  have Hdr := hid (fun (x y : Nat) (d : Bool) => cntV_le (part_reg hq (takF (hsR p) x y d)))
  obtain ⟨WN, hWN⟩ : ∃ WN, WN = wd p := ⟨_, rfl⟩
  obtain ⟨HN, hHN⟩ : ∃ HN, HN = p.length := ⟨_, rfl⟩
  have Hst := hid (show ∃ s b o, A = some ⟨b, o, none⟩ ∧ (MS.all w).at b o (.string s) ∧ s.size = WN from by
    have hs := List.getElem?_eq_getElem (l := p) (i := 0) (by omega)
    obtain ⟨b, o, h1, h2⟩ := hra.getStr hs
    exact ⟨_, b, o, h1, h2, by rw [hWN]; exact hp.rows _ (List.mem_of_getElem? hs)⟩)
  obtain ⟨N, hN⟩ : ∃ N, N = cntV p := ⟨_, rfl⟩
  have hNle := cntV_le hq
  have Hfe := hid (fun (x y : Nat) (hx : x < WN) (hy : y < HN) (h1 : hsI p x y = true) (h2 : ∀ i, i < y * WN + x → hsR p (i % WN) (i / WN) = false) => show N = (if hsI p ((x : Int) + 1) y then cntV (drawnL p (takF (hsR p) x y false)) else 0) + (if hsI p x ((y : Int) + 1) then cntV (drawnL p (takF (hsR p) x y true)) else 0) from by
    rw [hWN] at hx h2
    rw [hHN] at hy
    rw [hN]; exact firsts_eq hq hx hy h1 h2)
  have Hnone := hid (fun (h : ∀ i, i < WN * HN → hsR p (i % WN) (i / WN) = false) => show N = 1 from by
    rw [hWN, hHN] at h
    rw [hN]; exact firsts_none hq h)
  have Hnat := hid (fun (x y : Int) (h : hsI p x y = true) => show ∃ X Y : Nat, x = X ∧ y = Y ∧ X < WN ∧ Y < HN from by rw [hWN, hHN]; exact hsI_nat h)
  rw [← hN]
  rw [← hN] at hNle
  rw [← hHN] at hnc hH1 hH8 Hin HwR HwD ⊢
  rw [← hWN] at hW1 hW8 HwR HwD
  have hHI : (HN : Int) ≤ 8 := by omega
  have hWI : (WN : Int) ≤ 8 := by omega
  have HNle := hid hNle
  have H0 := hid (Has.all w)
  have E0 := hid (Ext.refl w)
  clear hr hra hp hab hq hH hWN hHN hN hNle
  go_enter Tryd.func30, Tryd.ntmps30
  go_wp2
  go_loopw [5] (fun vy wr => ∃ y : Nat, y ≤ HN ∧ vy = .int .i64 y ∧ (∀ i, i < y * WN → hsR p (i % WN) (i / WN) = false) ∧ Has wr (MS.all w) ∧ Ext w wr) (fun v _ => HN - (intOf v).toNat)
  case atStart => exact ⟨0, Nat.zero_le _, rfl, fun i hi => by omega, H0.out, E0.out⟩
  case round =>
    clear H0 E0
    obtain ⟨y, hy, rfl, hno, hW, hE⟩ := hrel
    have HW := hid hW
    have HE := hid hE
    have Hno := hid hno
    clear hW hE hno
    by_cases hlt : y < HN
    · have hltI : (y : Int) < HN := by omega
      have hdy : ∀ d : Decidable ((y : Int) < HN), @decide _ d = true := fun d => by simp [hltI]
      have Hlt := hid hlt
      clear hlt hy
      go_wp2
      clear hltI hdy
      go_loopw [6] (fun vx wr => ∃ x : Nat, x ≤ WN ∧ vx = .int .i64 x ∧ (∀ i, i < y * WN + x → hsR p (i % WN) (i / WN) = false) ∧ Has wr (MS.all w) ∧ Ext w wr) (fun v _ => WN - (intOf v).toNat)
      case atStart => exact ⟨0, Nat.zero_le _, rfl, fun i hi => Hno.out i (by omega), HW.out, HE.out⟩
      case round =>
        clear HW HE Hno
        obtain ⟨x, hx, rfl, hno, hW, hE⟩ := hrel
        have HW := hid hW
        have HE := hid hE
        have Hno := hid hno
        obtain ⟨s, b, o, hA, e0, z0⟩ := Hst.out
        subst hA
        have f0 := e0.c0 HW.out
        have hHp : (0 : Int) < HN := by omega
        have hHc : 0 < HN := by omega
        have hHcc : 0 < c := by omega
        clear hW hE hno e0
        by_cases hlx : x < WN
        · have hlxI : (x : Int) < WN := by omega
          have Hlx := hid hlx
          have hyH := Hlt.out
          have hcal := Hin.out wr HW.out (x : Int) (y : Int)
          clear hlx hx
          cases hha : hsI p (x : Int) (y : Int) with
          | false =>
            rw [hha] at hcal
            have hno2 := hid (show ∀ i, i < y * WN + (x + 1) → hsR p (i % WN) (i / WN) = false from fun i hi => by
              by_cases e : i = y * WN + x
              · have e1 : i % WN = x := by rw [e, Nat.mul_comm, Nat.mul_add_mod, Nat.mod_eq_of_lt Hlx.out]
                have e2 : i / WN = y := by rw [e, Nat.mul_comm, Nat.mul_add_div (by omega), Nat.div_eq_of_lt Hlx.out, Nat.add_zero]
                rw [e1, e2]; exact hha
              · exact Hno.out i (by omega))
            have HC := hid hcal
            clear hha hcal
            go_wp2_with (go_at_call 49; refine HC.out.mono ?_; rintro e1 w1 ⟨rfl, hw1⟩; rw [hw1]; clear hw1)
            go_roundw
            case rel => exact ⟨x + 1, Hlx.out, by go_num, hno2.out, HW.out, HE.out⟩
            case measure => have := Hlx.out; simp [intOf]; omega
          | true =>
            rw [hha] at hcal
            have hfe := Hfe.out x y Hlx.out hyH hha Hno.out
            have HC := hid hcal
            obtain ⟨xr, hxr⟩ : ∃ xr : Int, xr = (x : Int) + 1 := ⟨_, rfl⟩
            obtain ⟨yd, hyd⟩ : ∃ yd : Int, yd = (y : Int) + 1 := ⟨_, rfl⟩
            rw [← hxr, ← hyd] at hfe
            have hr2 := Hin.out wr HW.out xr (y : Int)
            have hd2 := fun (W : World) (h : Has W (MS.all w)) => Hin.out W h (x : Int) yd
            obtain ⟨a1, ha1⟩ : ∃ a1, a1 = cntV (drawnL p (takF (hsR p) x y false)) := ⟨_, rfl⟩
            obtain ⟨a2, ha2⟩ : ∃ a2, a2 = cntV (drawnL p (takF (hsR p) x y true)) := ⟨_, rfl⟩
            have ha1l := Hdr.out x y false
            have ha2l := Hdr.out x y true
            have hw1 := fun (W : World) (h : Has W (MS.all w)) => HwR.out W h x y xr hxr
            have hw2 := fun (W : World) (h : Has W (MS.all w)) => HwD.out W h x y yd hyd
            rw [← ha1] at hfe ha1l
            rw [← ha2] at hfe ha2l
            simp only [← ha1] at hw1
            simp only [← ha2] at hw2
            clear ha1 ha2 hcal hha
            cases hhr : hsI p xr (y : Int) <;> cases hhd : hsI p (x : Int) yd
            · rw [hhr, hhd] at hfe
              simp only [Bool.false_eq_true, if_false, Bool.false_eq_true, if_false, Nat.zero_add, Nat.add_zero] at hfe
              rw [hhr] at hr2
              simp only [hhd] at hd2
              have HR2 := hid hr2
              have HD2 := hid hd2
              have hxw : wrap64 ((x : Int) + 1) = (x : Int) + 1 := by unfold wrap64; omega
              have hyw : wrap64 ((y : Int) + 1) = (y : Int) + 1 := by unfold wrap64; omega
              subst hxr
              subst hyd
              clear hhr hhd hr2 hd2 hw1 hw2
              have hNl := HNle.out
              clear ha1l ha2l hNl
              subst hfe
              go_wp2_with (first
                | (go_at_call_has 49 ((y : Int) + 1); refine (HD2.out wr HW.out).mono ?_; rintro e5 w5 ⟨rfl, hw5⟩; rw [hw5]; clear hw5)
                | (go_at_call_has 49 ((x : Int) + 1); refine HR2.out.mono ?_; rintro e2 w2 ⟨rfl, hw2⟩; rw [hw2]; clear hw2)
                | (go_at_call 49; refine HC.out.mono ?_; rintro e1 w1 ⟨rfl, hw1⟩; rw [hw1]; clear hw1))
              go_ret
              exact ⟨by simp, fun M hM => hM.of_all (X := 0) (by rw [MS.zero_add]; exact HW.out), HE.out⟩
            · rw [hhr, hhd] at hfe
              simp only [Bool.false_eq_true, if_false, if_true, Nat.zero_add, Nat.add_zero] at hfe
              rw [hhr] at hr2
              simp only [hhd] at hd2
              have hdy2 : y + 1 < HN := by obtain ⟨X, Y, h1, h2, h3, h4⟩ := Hnat.out _ _ hhd; omega
              have hw2' := hid (fun (W : World) (h : Has W (MS.all w)) => hw2 W h Hlx.out hdy2)
              have HR2 := hid hr2
              have HD2 := hid hd2
              have hxw : wrap64 ((x : Int) + 1) = (x : Int) + 1 := by unfold wrap64; omega
              have hyw : wrap64 ((y : Int) + 1) = (y : Int) + 1 := by unfold wrap64; omega
              subst hxr
              subst hyd
              clear hhr hhd hr2 hd2 hw1 hw2
              have hNl := HNle.out
              have hs2' := wrap_nat ha2l
              clear ha1l ha2l hNl
              subst hfe
              go_wp2_with (first
                | (go_at_call 13; refine (Q6.out w6 H6.out).mono ?_; rintro e7 w7 ⟨rfl, k7⟩; have H7 := hid (k7.1 _ H6.out).right; have E7 := hid (E6.out.trans k7.2); clear k7)
                | (go_at_call 67; refine (hw2'.out wr HW.out).mono ?_; rintro e6 w6 ⟨A6, c6, m6, rfl, k6, l6, q6⟩; have H6 := hid (k6 _ HW.out); have E6 := hid (HE.out.trans l6); have Q6 := hid q6; clear k6 l6 q6)
                | (go_at_call_has 49 ((y : Int) + 1); refine (HD2.out wr HW.out).mono ?_; rintro e5 w5 ⟨rfl, hw5⟩; rw [hw5]; clear hw5)
                | (go_at_call_has 49 ((x : Int) + 1); refine HR2.out.mono ?_; rintro e2 w2 ⟨rfl, hw2⟩; rw [hw2]; clear hw2)
                | (go_at_call 49; refine HC.out.mono ?_; rintro e1 w1 ⟨rfl, hw1⟩; rw [hw1]; clear hw1))
              go_ret
              exact ⟨by simp, fun M hM => hM.of_all (X := 0) (by rw [MS.zero_add]; exact H7.out), E7.out⟩
            · rw [hhr, hhd] at hfe
              simp only [if_true, Bool.false_eq_true, if_false, Nat.zero_add, Nat.add_zero] at hfe
              rw [hhr] at hr2
              simp only [hhd] at hd2
              have hrx : x + 1 < WN := by obtain ⟨X, Y, h1, h2, h3, h4⟩ := Hnat.out _ _ hhr; omega
              have hw1' := hid (fun (W : World) (h : Has W (MS.all w)) => hw1 W h hrx hyH)
              have HR2 := hid hr2
              have HD2 := hid hd2
              have hxw : wrap64 ((x : Int) + 1) = (x : Int) + 1 := by unfold wrap64; omega
              have hyw : wrap64 ((y : Int) + 1) = (y : Int) + 1 := by unfold wrap64; omega
              subst hxr
              subst hyd
              clear hhr hhd hr2 hd2 hw1 hw2
              have hNl := HNle.out
              have hs1' := wrap_nat ha1l
              clear ha1l ha2l hNl
              subst hfe
              go_wp2_with (first
                | (go_at_call_has 49 ((y : Int) + 1); refine (HD2.out w4 H4.out).mono ?_; rintro e5 w5 ⟨rfl, hw5⟩; rw [hw5]; clear hw5)
                | (go_at_call 13; refine (Q3.out w3 H3.out).mono ?_; rintro e4 w4 ⟨rfl, k4⟩; have H4 := hid (k4.1 _ H3.out).right; have E4 := hid (E3.out.trans k4.2); clear k4)
                | (go_at_call 67; refine (hw1'.out wr HW.out).mono ?_; rintro e3 w3 ⟨A3, c3, m3, rfl, k3, l3, q3⟩; have H3 := hid (k3 _ HW.out); have E3 := hid (HE.out.trans l3); have Q3 := hid q3; clear k3 l3 q3)
                | (go_at_call_has 49 ((x : Int) + 1); refine HR2.out.mono ?_; rintro e2 w2 ⟨rfl, hw2⟩; rw [hw2]; clear hw2)
                | (go_at_call 49; refine HC.out.mono ?_; rintro e1 w1 ⟨rfl, hw1⟩; rw [hw1]; clear hw1))
              go_ret
              exact ⟨by simp, fun M hM => hM.of_all (X := 0) (by rw [MS.zero_add]; exact H4.out), E4.out⟩
            · rw [hhr, hhd] at hfe
              simp only [if_true, if_true, Nat.zero_add, Nat.add_zero] at hfe
              rw [hhr] at hr2
              simp only [hhd] at hd2
              have hrx : x + 1 < WN := by obtain ⟨X, Y, h1, h2, h3, h4⟩ := Hnat.out _ _ hhr; omega
              have hw1' := hid (fun (W : World) (h : Has W (MS.all w)) => hw1 W h hrx hyH)
              have hdy2 : y + 1 < HN := by obtain ⟨X, Y, h1, h2, h3, h4⟩ := Hnat.out _ _ hhd; omega
              have hw2' := hid (fun (W : World) (h : Has W (MS.all w)) => hw2 W h Hlx.out hdy2)
              have HR2 := hid hr2
              have HD2 := hid hd2
              have hxw : wrap64 ((x : Int) + 1) = (x : Int) + 1 := by unfold wrap64; omega
              have hyw : wrap64 ((y : Int) + 1) = (y : Int) + 1 := by unfold wrap64; omega
              subst hxr
              subst hyd
              clear hhr hhd hr2 hd2 hw1 hw2
              have hNl := HNle.out
              have hsw := wrap_sum ha1l ha2l
              have hs1' := wrap_nat ha1l
              have hs2' := wrap_nat ha2l
              clear ha1l ha2l hNl
              subst hfe
              go_wp2_with (first
                | (go_at_call 13; refine (Q6.out w6 H6.out).mono ?_; rintro e7 w7 ⟨rfl, k7⟩; have H7 := hid (k7.1 _ H6.out).right; have E7 := hid (E6.out.trans k7.2); clear k7)
                | (go_at_call 67; refine (hw2'.out w4 H4.out).mono ?_; rintro e6 w6 ⟨A6, c6, m6, rfl, k6, l6, q6⟩; have H6 := hid (k6 _ H4.out); have E6 := hid (E4.out.trans l6); have Q6 := hid q6; clear k6 l6 q6)
                | (go_at_call_has 49 ((y : Int) + 1); refine (HD2.out w4 H4.out).mono ?_; rintro e5 w5 ⟨rfl, hw5⟩; rw [hw5]; clear hw5)
                | (go_at_call 13; refine (Q3.out w3 H3.out).mono ?_; rintro e4 w4 ⟨rfl, k4⟩; have H4 := hid (k4.1 _ H3.out).right; have E4 := hid (E3.out.trans k4.2); clear k4)
                | (go_at_call 67; refine (hw1'.out wr HW.out).mono ?_; rintro e3 w3 ⟨A3, c3, m3, rfl, k3, l3, q3⟩; have H3 := hid (k3 _ HW.out); have E3 := hid (HE.out.trans l3); have Q3 := hid q3; clear k3 l3 q3)
                | (go_at_call_has 49 ((x : Int) + 1); refine HR2.out.mono ?_; rintro e2 w2 ⟨rfl, hw2⟩; rw [hw2]; clear hw2)
                | (go_at_call 49; refine HC.out.mono ?_; rintro e1 w1 ⟨rfl, hw1⟩; rw [hw1]; clear hw1))
              go_ret
              exact ⟨by simp, fun M hM => hM.of_all (X := 0) (by rw [MS.zero_add]; exact H7.out), E7.out⟩
        · have hxe : x = WN := by omega
          subst hxe
          have hno2 := hid (show ∀ i, i < (y + 1) * x → hsR p (i % x) (i / x) = false from fun i hi => Hno.out i (by rw [Nat.succ_mul] at hi; exact hi))
          have hyH := Hlt.out
          clear hlx hx
          go_wp2
          go_roundw
          case rel => exact ⟨y + 1, Hlt.out, by go_num, hno2.out, HW.out, HE.out⟩
          case measure => have := Hlt.out; simp [intOf]; omega
    · have hye : y = HN := by omega
      subst hye
      have hN1 := Hnone.out (fun i hi => Hno.out i (by rw [Nat.mul_comm]; exact hi))
      clear hlt hy
      subst hN1
      go_wp2
      go_ret
      exact ⟨rfl, fun M hM => hM.of_all (X := 0) (by rw [MS.zero_add]; exact HW.out), HE.out⟩
end Go.Proofs.YtcdhimnmbpllgaaDoor

namespace Go.Proofs.YtcdhimnmbpllgaaDoor
open Go.RowKit
set_option linter.unusedVariables false
set_option linter.unusedSimpArgs false
set_option maxHeartbeats 4000000
set_option maxRecDepth 100000

theorem wrap_mul (a b : Int) : wrap64 (wrap64 a * b) = wrap64 (a * b) := by
  obtain ⟨k, hk⟩ : ∃ k, wrap64 a = a - 18446744073709551616 * k := ⟨(a + 9223372036854775808) / 18446744073709551616, by unfold wrap64; omega⟩
  rw [hk, Int.sub_mul, Int.mul_assoc]
  generalize a * b = P
  generalize k * b = T
  unfold wrap64
  omega
theorem rows_regs {p : List ByteArray} : ∀ {fs : List (Nat → Nat → Bool)} {cs : List Value} {m : MS}, RowsR (RegR p) fs cs m → RowsR (fun (l : List ByteArray) cs m => ∃ v, cs = [v] ∧ SlR 9 1 StrR l v m) (fs.map (drawnL p)) cs m
  | [], _, _, h => h
  | _ :: _, _, _, ⟨c1, m1, c2, m2, h1, h2, h3, h4⟩ => ⟨c1, m1, c2, m2, h1, rows_regs h2, h3, h4⟩
theorem regs_rd {p : List ByteArray} {fs : List (Nat → Nat → Bool)} {v : Value} {m : MS} (h : SlR 22 1 (RegR p) fs v m) : RdS m (RT.sl RT.str) (fs.map (drawnL p)) v := by
  obtain ⟨xs, ms, mr, h1, h2, rfl⟩ := h
  have h3 : SlR 22 1 (fun (l : List ByteArray) cs m => ∃ v, cs = [v] ∧ SlR 9 1 StrR l v m) (fs.map (drawnL p)) v (ms + mr) := ⟨xs, ms, mr, by rw [List.length_map]; exact h1, rows_regs h2, rfl⟩
  exact SlR.rd (T := RT.sl RT.str) (fun a cs m ⟨v, h1, h2⟩ => ⟨v, h1, StsR.rd h2⟩) h3
theorem domSums_any {F : MS} {p : List ByteArray} {A : Option Addr} {c : Nat} {w : World} (hr : RdS F RT.str p (.slice A p.length c)) (hs : ∀ s ∈ p, s.size ≤ maxLen) (hk : FourOk F) (hH : Has w F) :
    Calls Tryd.prog 8 #[.slice A p.length c] w (LawPost w F) := by
  have Hfew := hid (few_any hr hs hH)
  have Hal := hid (fun (W : World) (h : Has W F) => alive_any hk h)
  have HH := hid hH
  cases hf : fewB p with
  | false =>
    rw [hf] at Hfew
    clear hf hr hs hk hH
    go_enter Tryd.func8, Tryd.ntmps8
    go_wp2_with (first
      | (go_at_call 11; refine Hfew.out.mono ?_; rintro e1 w1 ⟨rfl, hw1⟩; rw [hw1]; clear hw1)
      | (go_at_call 12; refine (Hal.out w HH.out).mono ?_; rintro e2 w2 ⟨rfl, k2⟩; have K2 := hid k2; clear k2))
    go_ret
    exact ⟨rfl, K2.out.1 _ HH.out, K2.out.2⟩
  | true =>
    rw [hf] at Hfew
    unfold fewB at hf
    rw [decide_eq_true_eq] at hf
    obtain ⟨hl20, hs20⟩ := hf
    have hpl : p.length ≤ 1000 := by omega
    have hps : ∀ s ∈ p, s.size ≤ 1000000 := fun s h => by have := hs20 s h; omega
    have Hcn := hid (fun (W : World) (h : Has W F) => count_any hr hpl hps h)
    cases hq : isReg p with
    | false =>
      have Hpa := hid (fun (W : World) (h : Has W F) => parts_no hr hpl hps h hq)
      have e2 : cntE p = 2 := by unfold cntE; rw [hq]; rfl
      rw [e2] at Hcn
      generalize cntV p = N at *
      clear hr hs hk hH hl20 hs20 hpl hps hq e2
      go_enter Tryd.func8, Tryd.ntmps8
      go_wp2_with (first
        | (go_at_call 12; refine (Hal.out w4 (K4.out.1 _ HH.out)).mono ?_; rintro e6 w6 ⟨rfl, k6⟩; have K6 := hid (K4.out.trans k6); clear k6)
        | (go_at_call 27; refine (Hpa.out w3 (K3.out.1 _ HH.out)).mono ?_; rintro e4 w4 ⟨rfl, k4⟩; have K4 := hid (K3.out.trans k4); clear k4)
        | (go_at_call 13; refine (Hcn.out w HH.out).mono ?_; rintro e3 w3 ⟨rfl, k3⟩; have K3 := hid k3; clear k3)
        | (go_at_call 11; refine Hfew.out.mono ?_; rintro e1 w1 ⟨rfl, hw1⟩; rw [hw1]; clear hw1))
      go_ret
      exact ⟨rfl, K6.out.1 _ HH.out, K6.out.2⟩
    | true =>
      have hp := (isReg.ok hq).1
      have hab := (isReg.ok hq).2
      have Hpa := hid (fun (W : World) (h : Has W F) => parts_yes hr hpl hps hk h hq)
      have Hreg := hid (fun (W : World) (h : Has W F) => show Calls Tryd.prog 28 #[.slice A p.length c] W fun e w' => e = .returned (.bool true) ∧ Kp W w' from by have h1 := region_kp hr hpl hps h; rw [hq] at h1; exact h1)
      have Hfi := hid (fun (W : World) (h : Has W F) => firsts_any hr hq h)
      have ht := cnt_turn hq
      have hm := cnt_mir hq
      have Htu := hid (fun (W : World) (h : Has W F) => show Calls Tryd.prog 29 #[.slice A p.length c, .bool false] W fun e w' => ∃ A' n c' m, e = .returned (.slice A' n c') ∧ (∀ M, Has W M → Has w' (m + M)) ∧ Ext W w' ∧ ∀ W2 X, Has W2 (m + X) → Calls Tryd.prog 13 #[.slice A' n c'] W2 fun e w' => e = .returned (.tuple #[.int .i64 (cntV p), .int .i64 0]) ∧ Kp W2 w' from (turn_any hr hp hab h).mono (by
        rintro e w' ⟨v, m, rfl, h1, h2, h3⟩
        obtain ⟨A', c', rfl, _⟩ := SlR.form h1
        refine ⟨A', _, c', m, rfl, h2, h3, fun W2 X hW2 => ?_⟩
        have h4 := count_reg h1 rfl ht.1 hW2
        rw [ht.2] at h4
        exact h4))
      have Hmi := hid (fun (W : World) (h : Has W F) => show Calls Tryd.prog 29 #[.slice A p.length c, .bool true] W fun e w' => ∃ A' n c' m, e = .returned (.slice A' n c') ∧ (∀ M, Has W M → Has w' (m + M)) ∧ Ext W w' ∧ ∀ W2 X, Has W2 (m + X) → Calls Tryd.prog 13 #[.slice A' n c'] W2 fun e w' => e = .returned (.tuple #[.int .i64 (cntV p), .int .i64 0]) ∧ Kp W2 w' from (mir_any hr hp hab h).mono (by
        rintro e w' ⟨v, m, rfl, h1, h2, h3⟩
        obtain ⟨A', c', rfl, _⟩ := SlR.form h1
        refine ⟨A', _, c', m, rfl, h2, h3, fun W2 X hW2 => ?_⟩
        have h4 := count_reg h1 rfl hm.1 hW2
        rw [hm.2] at h4
        exact h4))
      have Hpr := hid (fun fs (h : PtsOf (RP p) (inR p) [] (cellsL p) fs) => parts_cnt hq h)
      have Hcp := hid (fun (f : Nat → Nat → Bool) (F : MS) (B : Option Addr) (k cb : Nat) (W : World) (hrd : RdS F RT.str (drawnL p f) (.slice B k cb)) (hk : k = (drawnL p f).length) (hW : Has W F) => show Calls Tryd.prog 13 #[.slice B k cb] W fun e w' => e = .returned (.tuple #[.int .i64 (cntV (drawnL p f)), .int .i64 0]) ∧ Kp W w' from by
        subst hk
        have hrg := part_reg hq f
        have hpd := (isReg.ok hrg).1
        have h1 := count_any hrd (by have := hpd.h8; omega) (fun s hs => by have := hpd.rows s hs; have := hpd.w8; omega) hW
        have e : cntE (drawnL p f) = 0 := by unfold cntE; rw [hrg]; rfl
        rw [e] at h1
        exact h1)
      have hle := cntV_le hq
      have e2 : cntE p = 0 := by unfold cntE; rw [hq]; rfl
      rw [e2] at Hcn
      obtain ⟨N, hN⟩ : ∃ N, N = cntV p := ⟨_, rfl⟩
      rw [← hN] at Hcn Hfi Htu Hmi Hpr hle
      obtain ⟨HN, hHN⟩ : ∃ HN, HN = p.length := ⟨_, rfl⟩
      rw [← hHN] at Hfew Hcn Hpa Hreg Hfi Htu Hmi ⊢
      have hwN := hid (wrap_nat hle)
      clear hr hs hk hH hl20 hs20 hpl hps hq e2 hp hab ht hm hN hHN hle
      go_enter Tryd.func8, Tryd.ntmps8
      go_wp2_with (first
        | (go_at_call 28; refine (Hreg.out w4 H4.out.right).mono ?_; rintro e5 w5 ⟨rfl, k5⟩; have H5 := hid (k5.1 _ H4.out); have E5 := hid (E4.out.trans k5.2); clear k5)
        | (go_at_call 27; refine (Hpa.out w3 (K3.out.1 _ HH.out)).mono ?_; rintro e4 w4 ⟨fs, v4, m4, rfl, hpts, hsl, k4, l4⟩; obtain ⟨A4, c4, rfl, _, hnc4, hcm4⟩ := SlR.form hsl; have Hpts := hid (Hpr.out fs hpts); have Hrd := hid (regs_rd hsl); have H4 := hid (k4 _ (K3.out.1 _ HH.out)); have E4 := hid (K3.out.2.trans l4); clear k4 l4 hpts hsl)
        | (go_at_call 13; refine (Hcn.out w HH.out).mono ?_; rintro e3 w3 ⟨rfl, k3⟩; have K3 := hid k3; clear k3)
        | (go_at_call 11; refine Hfew.out.mono ?_; rintro e1 w1 ⟨rfl, hw1⟩; rw [hw1]; clear hw1))
      obtain ⟨nf, hnf⟩ : ∃ nf, nf = fs.length := ⟨_, rfl⟩
      obtain ⟨L, hL⟩ : ∃ L, L = fs.map (drawnL p) := ⟨_, rfl⟩
      have hgl := hid (fun i (hi : i < nf) => show ∃ f, L[i]? = some (drawnL p f) ∧ (fs.map fun f => cntV (drawnL p f)).take (i + 1) = (fs.map fun f => cntV (drawnL p f)).take i ++ [cntV (drawnL p f)] from by
        have h1 := List.getElem?_eq_getElem (l := fs) (i := i) (by omega)
        refine ⟨_, by rw [hL, List.getElem?_map, h1]; rfl, ?_⟩
        exact take_more (by rw [List.getElem?_map, h1]; rfl))
      have hall := hid (show (fs.map fun f => cntV (drawnL p f)).take nf = fs.map fun f => cntV (drawnL p f) from List.take_of_length_le (by rw [List.length_map, hnf]; exact Nat.le_refl _))
      rw [← hL] at Hrd
      rw [← hnf] at hnc4 ⊢
      have hnl : L.length = nf := by rw [hL, List.length_map, hnf]
      have hnfI : (nf : Int) ≤ 9223372036854775807 := by simp only [maxLen] at hcm4; omega
      have hrdn := hid (show RdS m4 (RT.sl RT.str) L (.slice A4 L.length c4) from by
        have h := Hrd.out
        rw [← hnf, ← hnl] at h
        exact h)
      have Hnf4 := hid hnc4
      clear hcm4 hnl hL hnf
      go_loopw [7, 8] (fun v7 v8 wr => ∃ (i : Nat) (av : Int), i ≤ nf ∧ v8 = .int .i64 i ∧ v7 = .int .i64 av ∧ av = wrap64 ((prL ((fs.map fun f => cntV (drawnL p f)).take i) : Nat) : Int) ∧ Has wr (m4 + F) ∧ Ext w wr) (fun _ v _ => nf - (intOf v).toNat)
      case atStart => exact ⟨0, 1, Nat.zero_le _, rfl, rfl, by rw [List.take_zero]; exact (wrap_nat (a := 1) (by decide)).symm, H5.out, E5.out⟩
      case round =>
        clear H5 E5 K3 H4 E4
        obtain ⟨i, av, hi, rfl, rfl, hav, hW, hE⟩ := hrel
        have HW := hid hW
        have HE := hid hE
        have Hav := hid hav
        clear hW hE hav
        by_cases hlt : i < nf
        · have hltI : (i : Int) < nf := by omega
          have hic : i < c4 := by omega
          have Hlt := hid hlt
          obtain ⟨f, hLi, htk⟩ := hgl.out i hlt
          obtain ⟨b, o, B, cb, hB, hat, hrdi, _, _⟩ := hrdn.out.getSl hLi
          subst hB
          have f0 := hat.c0 HW.out.left
          obtain ⟨k, hk⟩ : ∃ k, k = (drawnL p f).length := ⟨_, rfl⟩
          rw [← hk] at f0 hrdi
          have Hci := hid (Hcp.out f m4 B k cb wr hrdi hk HW.out.left)
          obtain ⟨mi, hmi⟩ : ∃ mi, mi = cntV (drawnL p f) := ⟨_, rfl⟩
          rw [← hmi] at Hci htk
          have hnx := hid (show wrap64 (av * (mi : Int)) = wrap64 ((prL ((fs.map fun f => cntV (drawnL p f)).take (i + 1)) : Nat) : Int) from by
            rw [Hav.out, wrap_mul, htk, prL_snoc, Int.natCast_mul])
          clear hlt hi hLi htk hat hrdi hk hmi
          go_wp2_with (go_at_call 13; refine Hci.out.mono ?_; rintro e6 w6 ⟨rfl, k6⟩; have H6 := hid (k6.1 _ HW.out); have E6 := hid (HE.out.trans k6.2); clear k6)
          go_roundw
          case rel => exact ⟨i + 1, wrap64 (av * (mi : Int)), Hlt.out, by go_num, rfl, hnx.out, H6.out, E6.out⟩
          case measure => have := Hlt.out; simp [intOf]; omega
        · have hie : i = nf := by omega
          subst hie
          have havN : av = (N : Int) := by rw [Hav.out, hall.out, Hpts.out]; exact hwN.out
          subst havN
          clear hlt hi Hav
          go_wp2_with (first
            | (go_at_call 12; refine (Hal.out w15 H15.out.right.right.right).mono ?_; rintro e6 w6 ⟨rfl, k6⟩; have K6 := hid k6; clear k6)
            | (go_at_call 30; refine (Hfi.out w14 H14.out.right.right.right).mono ?_; rintro e15 w15 ⟨rfl, k15⟩; have H15 := hid (k15.1 _ H14.out); have E15 := hid (E14.out.trans k15.2); clear k15)
            | (go_at_call 13; refine (Q13.out w13 _ H13.out).mono ?_; rintro e14 w14 ⟨rfl, k14⟩; have H14 := hid (k14.1 _ H13.out); have E14 := hid (E13.out.trans k14.2); clear k14)
            | (go_at_call_has 29 (Value.bool true); refine (Hmi.out w12 H12.out.right.right).mono ?_; rintro e13 w13 ⟨A13, n13, c13, m13, rfl, k13, l13, q13⟩; have H13 := hid (k13 _ H12.out); have E13 := hid (E12.out.trans l13); have Q13 := hid q13; clear k13 l13 q13)
            | (go_at_call 13; refine (Q11.out w11 _ H11.out).mono ?_; rintro e12 w12 ⟨rfl, k12⟩; have H12 := hid (k12.1 _ H11.out); have E12 := hid (E11.out.trans k12.2); clear k12)
            | (go_at_call_has 29 (Value.bool false); refine (Htu.out wr HW.out.right).mono ?_; rintro e11 w11 ⟨A11, n11, c11, m11, rfl, k11, l11, q11⟩; have H11 := hid (k11 _ HW.out); have E11 := hid (HE.out.trans l11); have Q11 := hid q11; clear k11 l11 q11))
          go_ret
          exact ⟨rfl, K6.out.1 _ H15.out.right.right.right, E15.out.trans K6.out.2⟩
end Go.Proofs.YtcdhimnmbpllgaaDoor

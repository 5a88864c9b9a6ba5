/-
  The walk of try (89, the closure of matched; printed by gen_try.py). The walk of matched (52; printed by gen_mat.py). The walks of the closure 54 of Refute, slices.IndexFunc over it (53), slices.Contains over cells (55).
-/
import Derived.Test.YtcdhimnmbpllgaaDoorKPlain2
import Derived.Test.YtcdhimnmbpllgaaDoorDQ4
import Derived.Test.YtcdhimnmbpllgaaDoorDR4
import Derived.Test.YtcdhimnmbpllgaaDoorDC3
namespace Go.Proofs.YtcdhimnmbpllgaaDoor
open Go.RowKit Go.MapKept Go.ChangeMaps
set_option linter.unusedVariables false
set_option linter.unusedSimpArgs false
set_option maxHeartbeats 4000000
set_option maxRecDepth 100000

def fnV (b1 b2 b3 b4 : Nat) : Value := .func (.func 89) #[] #[.pointer (some ⟨b1, 0, none⟩), .pointer (some ⟨b2, 0, none⟩), .pointer (some ⟨b3, 0, none⟩), .pointer (some ⟨b4, 0, none⟩)]
/-- What a try reads of memory. -/
structure TryEnv (p : List ByteArray) (A : Option Addr) (c b1 b2 b3 b4 gs gm : Nat) (F : MS) : Prop where
  hr : RdS F RT.str p (.slice A p.length c)
  hf : FourOk F
  g0 : F.at b1 0 (.int .i64 (wd p))
  g1 : F.at b1 1 (.int .i64 p.length)
  g2 : F.at b1 2 (.slice A p.length c)
  h2 : F.at b2 0 (.map (some gs))
  h3 : F.at b3 0 (.map (some gm))
  h4 : F.at b4 0 (.func (.func 89) #[] #[.pointer (some ⟨b1, 0, none⟩), .pointer (some ⟨b2, 0, none⟩), .pointer (some ⟨b3, 0, none⟩), .pointer (some ⟨b4, 0, none⟩)])
theorem TryEnv.more {p : List ByteArray} {A : Option Addr} {c b1 b2 b3 b4 gs gm : Nat} {F : MS} (h : TryEnv p A c b1 b2 b3 b4 gs gm F) (X : MS) : TryEnv p A c b1 b2 b3 b4 gs gm (X + F) :=
  ⟨h.hr.more X, h.hf.more X, h.g0.more X, h.g1.more X, h.g2.more X, h.h2.more X, h.h3.more X, h.h4.more X⟩
/-- What a try hands back. -/
def TryPost (gs gm : Nat) (F : MS) (w : World) (r : Bool × List Cl × Mates) (e : Ending) (w' : World) : Prop := e = .returned (.bool r.1) ∧ ∃ es clock es2 clock2, EntsAre (mapL r.2.1) es clock ∧ EntsAre (mE r.2.2) es2 clock2 ∧ Has w' (pts gs (.map es clock) + (pts gm (.map es2 clock2) + F)) ∧ Ext w w'
theorem lk_mapL : ∀ (l : List Cl) (q : Cl), lkM (mapL l) q = if q ∈ l then some (.bool true) else none
  | [], q => rfl
  | a :: l, q => by
    show lkM ((a, Value.bool true) :: mapL l) q = _
    unfold lkM
    by_cases h : a = q
    · rw [if_pos h, if_pos (by rw [h]; exact List.mem_cons_self ..)]
    · rw [if_neg h, lk_mapL l q]
      by_cases h2 : q ∈ l
      · rw [if_pos h2, if_pos (List.mem_cons_of_mem _ h2)]
      · rw [if_neg h2, if_neg (fun h3 => by rcases List.mem_cons.1 h3 with h4 | h4; exact h h4.symm; exact h2 h4)]
theorem mapL_snoc {l : List Cl} {q : Cl} (h : ¬ q ∈ l) : ptM (mapL l) q (.bool true) = mapL (l ++ [q]) := by
  rw [mapL_ins]; unfold insN; rw [if_neg h]
theorem size66' : (Tryd.prog.info? 66).map (·.size) = some 2 := by kernel_rfl
theorem inR_nat {p : List ByteArray} {q : Cl} (h : inR p q) : ∃ X Y : Nat, q = ((X : Int), (Y : Int)) ∧ X < wd p ∧ Y < p.length := by
  obtain ⟨X, Y, h1, h2, h3, h4⟩ := hsI_nat h
  exact ⟨X, Y, Prod.ext h1 h2, h3, h4⟩
theorem try_any {p : List ByteArray} (hp : RegOk p) (A : Option Addr) (c b1 b2 b3 b4 gs gm : Nat) : ∀ (n : Nat) (F : MS) (w : World) (seen : List Cl) (m : Mates) (es : Array MapEntry) (clock : Nat) (es2 : Array MapEntry) (clock2 : Nat) (q : Cl),
    TryEnv p A c b1 b2 b3 b4 gs gm F → TInv p seen m → inR p q → 64 < seen.length + n → EntsAre (mapL seen) es clock → EntsAre (mE m) es2 clock2 → Has w (pts gs (.map es clock) + (pts gm (.map es2 clock2) + F)) →
    Calls Tryd.prog 89 #[clV q, .pointer (some ⟨b1, 0, none⟩), .pointer (some ⟨b2, 0, none⟩), .pointer (some ⟨b3, 0, none⟩), .pointer (some ⟨b4, 0, none⟩)] w (TryPost gs gm F w (tryF p n seen m q)) := by
  intro n
  induction n with
  | zero =>
    intro F w seen m es clock es2 clock2 q hE hI hq hn _ _ _
    have := hI.len hp
    omega
  | succ n ih =>
    intro F w seen m es clock es2 clock2 q hE hI hq hn hS hM hW
    obtain ⟨X, Y, rfl, hX, hY⟩ := inR_nat hq
    have hw8 := hp.w8
    have hh8 := hp.h8
    have Hp := hid hp
    have Hq := hid hq
    have IH := hid ih
    have HEv := hid hE
    have Hnb := hid (fun (W : World) (h : Has W F) => show Calls Tryd.prog 39 #[.agg #[.int .i64 (wd p), .int .i64 p.length, .slice A p.length c], .agg #[.int .i64 (X : Int), .int .i64 (Y : Int)]] W fun e w' => ∃ v m, e = .returned v ∧ Cls (nbrsL p ((X : Int), (Y : Int))) v m ∧ (∀ M, Has W M → Has w' (m + M)) ∧ Ext W w' from nbrs_any hE.hr hp hE.hf h ((X : Int), (Y : Int)) (by simp only; omega) (by simp only; omega))
    obtain ⟨RR, hRR⟩ : ∃ RR, RR = tryF p (n + 1) seen m ((X : Int), (Y : Int)) := ⟨_, rfl⟩
    rw [← hRR]
    have HRR := hid (show tryL (tryF p n) ((X : Int), (Y : Int)) (nbrsL p ((X : Int), (Y : Int))) seen m = RR from hRR.symm)
    have HI := hid hI
    have HS0 := hid hS
    have HM0 := hid hM
    have Hn0 := hid hn
    have HA := hid (show Has (w.alloc (.cells #[.int .i64 (X : Int), .int .i64 (Y : Int)] 66)) (blk w.heap.size #[.int .i64 (X : Int), .int .i64 (Y : Int)] 66 + (pts gs (.map es clock) + (pts gm (.map es2 clock2) + F))) from hW.alloc _)
    have HEA := hid (Ext.alloc w (.cells #[.int .i64 (X : Int), .int .i64 (Y : Int)] 66))
    have HF0 := HA.out.right.right.right
    have g0 := hE.g0.c0 HF0
    have g1 := hE.g1.c0 HF0
    have g2 := hE.g2.c0 HF0
    have u0 := HA.out.at_ (i := 0) rfl
    have u1 := HA.out.at_ (i := 1) rfl
    unfold clV
    simp only
    clear hp ih hE hI hq hn hS hM hW hRR
    go_enter Tryd.func89, Tryd.ntmps89
    go_wp2_with (go_at_call 39; refine (Hnb.out _ HF0).mono ?_; rintro e1 w1 ⟨v9, m9, rfl, hC9, k1, l1⟩; have H1 := hid (k1 _ HA.out); have E1 := hid (HEA.out.trans l1); clear k1 l1; obtain ⟨A9, c9, rfl, _⟩ := SlR.form hC9; have HC9 := hid hC9; clear g0 g1 g2 u0 u1 hC9)
    obtain ⟨nk, hnk⟩ : ∃ nk, nk = (nbrsL p ((X : Int), (Y : Int))).length := ⟨_, rfl⟩
    have hnk4 : nk ≤ 4 := by rw [hnk]; exact nbrsK_len p _ 4
    rw [← hnk] at HC9 ⊢
    have Hnk := hid hnk
    clear hnk HF0
    go_loopw [15] (fun v15 wr => ∃ (k : Nat) (sk : List Cl) (mk : Mates) (es : Array MapEntry) (clock : Nat) (es2 : Array MapEntry) (clock2 : Nat), k ≤ nk ∧ v15 = .int .i64 k ∧ tryL (tryF p n) ((X : Int), (Y : Int)) ((nbrsL p ((X : Int), (Y : Int))).drop k) sk mk = RR ∧ TInv p sk mk ∧ 64 < sk.length + (n + 1) ∧ EntsAre (mapL sk) es clock ∧ EntsAre (mE mk) es2 clock2 ∧ Has wr (pts gs (.map es clock) + (pts gm (.map es2 clock2) + (m9 + (blk w.heap.size #[.int .i64 (X : Int), .int .i64 (Y : Int)] 66 + F)))) ∧ Ext w wr) (fun v _ => nk - (intOf v).toNat)
    case atStart => exact ⟨0, seen, m, es, clock, es2, clock2, Nat.zero_le _, rfl, HRR.out, HI.out, Hn0.out, HS0.out, HM0.out, H1.out.eq (b := (pts gs (.map es clock) + (pts gm (.map es2 clock2) + (m9 + (blk w.heap.size #[.int .i64 (X : Int), .int .i64 (Y : Int)] 66 + F))))) (by ac_rfl), E1.out⟩
    case round =>
      clear HRR HI HS0 HM0 Hn0 HA HEA
      obtain ⟨k, sk, mk, es, clock, es2, clock2, hk, rfl, hR, hI, hn, hS, hM, hW, hE⟩ := hrel
      have HW := hid hW
      have HE := hid hE
      have HRk := hid hR
      have HI := hid hI
      have Hn := hid hn
      have HS := hid hS
      have HM := hid hM
      clear hW hE hR hI hn hS hM
      by_cases hlk : k < nk
      · have hlkI : (k : Int) < nk := by omega
        have Hk := hid hlk
        obtain ⟨x, hxk⟩ : ∃ x, (nbrsL p ((X : Int), (Y : Int)))[k]? = some x := ⟨_, List.getElem?_eq_getElem (by rw [← Hnk.out]; exact hlk)⟩
        have hdrop : (nbrsL p ((X : Int), (Y : Int))).drop k = x :: (nbrsL p ((X : Int), (Y : Int))).drop (k + 1) := by
          obtain ⟨hi, rfl⟩ := List.getElem?_eq_some_iff.1 hxk
          exact List.drop_eq_getElem_cons hi
        obtain ⟨bn, on, hBn, n0, n1⟩ := HC9.out.rd.getCl hxk
        subst hBn
        have hxin := nbr_in (List.mem_of_getElem? hxk)
        have hxsm := inR_small Hp.out hxin
        have hstep : tryL (tryF p n) ((X : Int), (Y : Int)) (x :: (nbrsL p ((X : Int), (Y : Int))).drop (k + 1)) sk mk = RR := by rw [← hdrop]; exact HRk.out
        have y0 := n0.c0 ((HW.out.eq (b := (m9 + (pts gs (.map es clock) + (pts gm (.map es2 clock2) + (blk w.heap.size #[.int .i64 (X : Int), .int .i64 (Y : Int)] 66 + F))))) (by ac_rfl))).left
        have y1 := n1.c0 ((HW.out.eq (b := (m9 + (pts gs (.map es clock) + (pts gm (.map es2 clock2) + (blk w.heap.size #[.int .i64 (X : Int), .int .i64 (Y : Int)] 66 + F))))) (by ac_rfl))).left
        obtain ⟨xx, xy⟩ := x
        simp only at y0 y1
        have Hxin := hid hxin
        have Hxsm := hid hxsm
        clear hlk hk hxk hdrop n0 n1 hxin hxsm
        obtain ⟨b8, hb8⟩ : ∃ b8, b8 = wr.heap.size := ⟨_, rfl⟩; have HAb8 := hid (show Has (wr.alloc (.cells #[.int .i64 0, .int .i64 0] 66)) (blk b8 #[.int .i64 0, .int .i64 0] 66 + (pts gs (.map es clock) + (pts gm (.map es2 clock2) + (m9 + (blk w.heap.size #[.int .i64 (X : Int), .int .i64 (Y : Int)] 66 + F))))) by rw [hb8]; exact HW.out.alloc _); have Hb8 := hid hb8; clear hb8
        by_cases hsn : (xx, xy) ∈ sk
        · have Hstep := hid (show tryL (tryF p n) ((X : Int), (Y : Int)) ((nbrsL p ((X : Int), (Y : Int))).drop (k + 1)) sk mk = RR by
            rw [← hstep]
            conv => rhs; unfold tryL
            rw [if_pos hsn])
          clear hstep
          go_wp2_with (rw [← Hb8.out]; refine wpList_store_whole rfl (.tmp 8) (.tmp 18) 66 rfl 2 size66 b8 (.agg #[.int .i64 xx, .int .i64 xy]) rfl rfl rfl (by simp [Value.cells, Value.oneCell']) #[.int .i64 0, .int .i64 0] 66 _ HAb8.out rfl ?_; intro w21 j1 j2; have H21 := hid (show Has w21 (blk b8 #[.int .i64 xx, .int .i64 xy] 66 + (pts gs (.map es clock) + (pts gm (.map es2 clock2) + (m9 + (blk w.heap.size #[.int .i64 (X : Int), .int .i64 (Y : Int)] 66 + F))))) from j1.eq (by unfold blk; ac_rfl)); have E21 := hid ((HE.out.trans (Ext.alloc _ _)).trans j2); clear j1 j2; clear y0 y1; have z0 := (H21.out.eq (b := (blk b8 #[.int .i64 xx, .int .i64 xy] 66 + (pts gs (.map es clock) + (pts gm (.map es2 clock2) + (m9 + (blk w.heap.size #[.int .i64 (X : Int), .int .i64 (Y : Int)] 66 + F)))))) (by ac_rfl)).at_ (i := 0) rfl; have z1 := (H21.out.eq (b := (blk b8 #[.int .i64 xx, .int .i64 xy] 66 + (pts gs (.map es clock) + (pts gm (.map es2 clock2) + (m9 + (blk w.heap.size #[.int .i64 (X : Int), .int .i64 (Y : Int)] 66 + F)))))) (by ac_rfl)).at_ (i := 1) rfl; have z2 := (HEv.out.h2).c0 ((H21.out.eq (b := ((blk b8 #[.int .i64 xx, .int .i64 xy] 66 + (pts gs (.map es clock) + (pts gm (.map es2 clock2) + (m9 + blk w.heap.size #[.int .i64 (X : Int), .int .i64 (Y : Int)] 66)))) + F)) (by ac_rfl)).right); have hlk := HS.out.look1 pair66 und83 (zero4 w21) ((H21.out.eq (b := (pts gs (.map es clock) + (blk b8 #[.int .i64 xx, .int .i64 xy] 66 + (pts gm (.map es2 clock2) + (m9 + (blk w.heap.size #[.int .i64 (X : Int), .int .i64 (Y : Int)] 66 + F)))))) (by ac_rfl)).get) (q := (xx, xy)) Hxsm.out; rw [lk_mapL] at hlk; have hlk : (Instr.lookup 83 (.map (some gs)) (.agg #[.int .i64 xx, .int .i64 xy]) false).run Tryd.prog w21 = .ok (.bool true) w21 := (by rw [if_pos hsn] at hlk; exact hlk))
          go_roundw
          case rel => exact ⟨k + 1, sk, mk, es, clock, es2, clock2, Hk.out, by go_num, Hstep.out, HI.out, Hn.out, HS.out, HM.out, (H21.out.eq (b := (pts gs (.map es clock) + (pts gm (.map es2 clock2) + (m9 + (blk w.heap.size #[.int .i64 (X : Int), .int .i64 (Y : Int)] 66 + F)))) + (blk b8 #[.int .i64 xx, .int .i64 xy] 66)) (by ac_rfl)).left, E21.out⟩
          case measure => have := Hk.out; simp [intOf]; omega
        · cases hlo : lk2 mk (xx, xy) with
          | none =>
            have hres := hid (show (true, sk ++ [(xx, xy)], pt2 (pt2 mk (xx, xy) ((X : Int), (Y : Int))) ((X : Int), (Y : Int)) (xx, xy)) = RR by
              rw [← hstep]; unfold tryL; rw [if_neg hsn, hlo])
            have hlm : Option.map pairV (lk2 mk (xx, xy)) = none := by rw [hlo]; rfl
            clear hstep hlo
            go_wp2_with (first
              | (rw [← Hb9.out]; refine wpList_store_whole rfl (.tmp 9) (.tmp 28) 66 rfl 2 size66 b9 (.agg #[.int .i64 0, .int .i64 0]) rfl rfl rfl (by simp [Value.cells, Value.oneCell']) #[.int .i64 0, .int .i64 0] 66 _ HAb9.out rfl ?_; intro w61 j1 j2; have H61 := hid (show Has w61 (blk b9 #[.int .i64 0, .int .i64 0] 66 + (blk b8 #[.int .i64 xx, .int .i64 xy] 66 + (pts gs (.map esA clockA) + (pts gm (.map es2 clock2) + (m9 + (blk w.heap.size #[.int .i64 (X : Int), .int .i64 (Y : Int)] 66 + F)))))) from j1.eq (by unfold blk; ac_rfl)); have E61 := hid ((E22.out.trans (Ext.alloc _ _)).trans j2); clear j1 j2; clear z0 z1 z3 hlk)
              | (refine wpList_putM pair66 und83 rfl (.tmp 22) (.tmp 23) (.const (.bool true)) (.inl rfl) gs rfl (xx, xy) rfl (.bool true) rfl HS.out Hxsm.out _ (H21.out.eq (b := (pts gs (.map es clock) + (blk b8 #[.int .i64 xx, .int .i64 xy] 66 + (pts gm (.map es2 clock2) + (m9 + (blk w.heap.size #[.int .i64 (X : Int), .int .i64 (Y : Int)] 66 + F)))))) (by ac_rfl)) ?_; intro esA clockA w22 j1 j2 j3; rw [mapL_snoc hsn] at j1; have SA := hid j1; have H22 := hid (show Has w22 (blk b8 #[.int .i64 xx, .int .i64 xy] 66 + (pts gs (.map esA clockA) + (pts gm (.map es2 clock2) + (m9 + (blk w.heap.size #[.int .i64 (X : Int), .int .i64 (Y : Int)] 66 + F))))) from (show Has w22 (pts gs (.map esA clockA) + (blk b8 #[.int .i64 xx, .int .i64 xy] 66 + (pts gm (.map es2 clock2) + (m9 + (blk w.heap.size #[.int .i64 (X : Int), .int .i64 (Y : Int)] 66 + F))))) from j2).eq (by ac_rfl)); have E22 := hid (E21.out.trans j3); clear j1 j2 j3 z0 z1 z2 hlk; have z0 := (H22.out.eq (b := (blk b8 #[.int .i64 xx, .int .i64 xy] 66 + (pts gs (.map esA clockA) + (pts gm (.map es2 clock2) + (m9 + (blk w.heap.size #[.int .i64 (X : Int), .int .i64 (Y : Int)] 66 + F)))))) (by ac_rfl)).at_ (i := 0) rfl; have z1 := (H22.out.eq (b := (blk b8 #[.int .i64 xx, .int .i64 xy] 66 + (pts gs (.map esA clockA) + (pts gm (.map es2 clock2) + (m9 + (blk w.heap.size #[.int .i64 (X : Int), .int .i64 (Y : Int)] 66 + F)))))) (by ac_rfl)).at_ (i := 1) rfl; have z3 := (HEv.out.h3).c0 ((H22.out.eq (b := ((blk b8 #[.int .i64 xx, .int .i64 xy] 66 + (pts gs (.map esA clockA) + (pts gm (.map es2 clock2) + (m9 + blk w.heap.size #[.int .i64 (X : Int), .int .i64 (Y : Int)] 66)))) + F)) (by ac_rfl)).right); have hlk := HM.out.look2 pair66 und88 (zero66 w22) ((H22.out.eq (b := (pts gm (.map es2 clock2) + (blk b8 #[.int .i64 xx, .int .i64 xy] 66 + (pts gs (.map esA clockA) + (m9 + (blk w.heap.size #[.int .i64 (X : Int), .int .i64 (Y : Int)] 66 + F)))))) (by ac_rfl)).get) (q := (xx, xy)) Hxsm.out; rw [lkM_mE] at hlk; have hlk : (Instr.lookup 88 (.map (some gm)) (.agg #[.int .i64 xx, .int .i64 xy]) true).run Tryd.prog w22 = .ok (.tuple #[.agg #[.int .i64 0, .int .i64 0], .bool false]) w22 := (by rw [hlm] at hlk; exact hlk); obtain ⟨b9, hb9⟩ : ∃ b9, b9 = w22.heap.size := ⟨_, rfl⟩; have HAb9 := hid (show Has (w22.alloc (.cells #[.int .i64 0, .int .i64 0] 66)) (blk b9 #[.int .i64 0, .int .i64 0] 66 + (blk b8 #[.int .i64 xx, .int .i64 xy] 66 + (pts gs (.map esA clockA) + (pts gm (.map es2 clock2) + (m9 + (blk w.heap.size #[.int .i64 (X : Int), .int .i64 (Y : Int)] 66 + F)))))) by rw [hb9]; exact H22.out.alloc _); have Hb9 := hid hb9; clear hb9)
              | (rw [← Hb8.out]; refine wpList_store_whole rfl (.tmp 8) (.tmp 18) 66 rfl 2 size66 b8 (.agg #[.int .i64 xx, .int .i64 xy]) rfl rfl rfl (by simp [Value.cells, Value.oneCell']) #[.int .i64 0, .int .i64 0] 66 _ HAb8.out rfl ?_; intro w21 j1 j2; have H21 := hid (show Has w21 (blk b8 #[.int .i64 xx, .int .i64 xy] 66 + (pts gs (.map es clock) + (pts gm (.map es2 clock2) + (m9 + (blk w.heap.size #[.int .i64 (X : Int), .int .i64 (Y : Int)] 66 + F))))) from j1.eq (by unfold blk; ac_rfl)); have E21 := hid ((HE.out.trans (Ext.alloc _ _)).trans j2); clear j1 j2; clear y0 y1; have z0 := (H21.out.eq (b := (blk b8 #[.int .i64 xx, .int .i64 xy] 66 + (pts gs (.map es clock) + (pts gm (.map es2 clock2) + (m9 + (blk w.heap.size #[.int .i64 (X : Int), .int .i64 (Y : Int)] 66 + F)))))) (by ac_rfl)).at_ (i := 0) rfl; have z1 := (H21.out.eq (b := (blk b8 #[.int .i64 xx, .int .i64 xy] 66 + (pts gs (.map es clock) + (pts gm (.map es2 clock2) + (m9 + (blk w.heap.size #[.int .i64 (X : Int), .int .i64 (Y : Int)] 66 + F)))))) (by ac_rfl)).at_ (i := 1) rfl; have z2 := (HEv.out.h2).c0 ((H21.out.eq (b := ((blk b8 #[.int .i64 xx, .int .i64 xy] 66 + (pts gs (.map es clock) + (pts gm (.map es2 clock2) + (m9 + blk w.heap.size #[.int .i64 (X : Int), .int .i64 (Y : Int)] 66)))) + F)) (by ac_rfl)).right); have hlk := HS.out.look1 pair66 und83 (zero4 w21) ((H21.out.eq (b := (pts gs (.map es clock) + (blk b8 #[.int .i64 xx, .int .i64 xy] 66 + (pts gm (.map es2 clock2) + (m9 + (blk w.heap.size #[.int .i64 (X : Int), .int .i64 (Y : Int)] 66 + F)))))) (by ac_rfl)).get) (q := (xx, xy)) Hxsm.out; rw [lk_mapL] at hlk; have hlk : (Instr.lookup 83 (.map (some gs)) (.agg #[.int .i64 xx, .int .i64 xy]) false).run Tryd.prog w21 = .ok (.bool false) w21 := (by rw [if_neg hsn] at hlk; exact hlk)))
            clear hlm hsn
            have HD := hid (show Has w61.drew (blk b9 #[.int .i64 0, .int .i64 0] 66 + (blk b8 #[.int .i64 xx, .int .i64 xy] 66 + (pts gs (.map esA clockA) + (pts gm (.map es2 clock2) + (m9 + (blk w.heap.size #[.int .i64 (X : Int), .int .i64 (Y : Int)] 66 + F)))))) from H61.out.drew)
            have ED := hid (E61.out.trans (Ext.drew _))
            have hS : (fun W' : World => W'.cell? ⟨b8, 0, none⟩ = some (.int .i64 xx) ∧ W'.cell? ⟨b8, 1, none⟩ = some (.int .i64 xy) ∧ W'.cell? ⟨w.heap.size, 0, none⟩ = some (.int .i64 (X : Int)) ∧ W'.cell? ⟨w.heap.size, 1, none⟩ = some (.int .i64 (Y : Int)) ∧ W'.cell? ⟨b3, 0, none⟩ = some (.map (some gm))) w61.drew := ⟨(HD.out.eq (b := (blk b8 #[.int .i64 xx, .int .i64 xy] 66 + (blk b9 #[.int .i64 0, .int .i64 0] 66 + (pts gs (.map esA clockA) + (pts gm (.map es2 clock2) + (m9 + (blk w.heap.size #[.int .i64 (X : Int), .int .i64 (Y : Int)] 66 + F))))))) (by ac_rfl)).at_ (i := 0) rfl, (HD.out.eq (b := (blk b8 #[.int .i64 xx, .int .i64 xy] 66 + (blk b9 #[.int .i64 0, .int .i64 0] 66 + (pts gs (.map esA clockA) + (pts gm (.map es2 clock2) + (m9 + (blk w.heap.size #[.int .i64 (X : Int), .int .i64 (Y : Int)] 66 + F))))))) (by ac_rfl)).at_ (i := 1) rfl, (HD.out.eq (b := (blk w.heap.size #[.int .i64 (X : Int), .int .i64 (Y : Int)] 66 + (blk b9 #[.int .i64 0, .int .i64 0] 66 + (blk b8 #[.int .i64 xx, .int .i64 xy] 66 + (pts gs (.map esA clockA) + (pts gm (.map es2 clock2) + (m9 + F))))))) (by ac_rfl)).at_ (i := 0) rfl, (HD.out.eq (b := (blk w.heap.size #[.int .i64 (X : Int), .int .i64 (Y : Int)] 66 + (blk b9 #[.int .i64 0, .int .i64 0] 66 + (blk b8 #[.int .i64 xx, .int .i64 xy] 66 + (pts gs (.map esA clockA) + (pts gm (.map es2 clock2) + (m9 + F))))))) (by ac_rfl)).at_ (i := 1) rfl, (HEv.out.h3).c0 ((HD.out.eq (b := ((blk b9 #[.int .i64 0, .int .i64 0] 66 + (blk b8 #[.int .i64 xx, .int .i64 xy] 66 + (pts gs (.map esA clockA) + (pts gm (.map es2 clock2) + (m9 + blk w.heap.size #[.int .i64 (X : Int), .int .i64 (Y : Int)] 66))))) + F)) (by ac_rfl)).right)⟩
            refine wp_region_txt (fun W' => W'.cell? ⟨b8, 0, none⟩ = some (.int .i64 xx) ∧ W'.cell? ⟨b8, 1, none⟩ = some (.int .i64 xy) ∧ W'.cell? ⟨w.heap.size, 0, none⟩ = some (.int .i64 (X : Int)) ∧ W'.cell? ⟨w.heap.size, 1, none⟩ = some (.int .i64 (Y : Int)) ∧ W'.cell? ⟨b3, 0, none⟩ = some (.map (some gm))) (some 7)
              [(0, true), (1, true), (2, true), (3, true), (4, true), (5, true), (6, false), (7, false)] (by kernel_rfl) rfl (by kernel_rfl) (by kernel_rfl) (by repeat (first | with_reducible refine PanicOk.thn ?_ | with_reducible refine PanicOk.blk ?_ | exact PanicOk.body _ _ _)) ?_
            repeat (first
              | (refine txt_off hS rfl rfl ?_; simp only [Act.put, List.setIfInBounds_toArray, List.set_cons_zero, List.set_cons_succ])
              | (refine txt_quiet ?_ hS rfl rfl (fun W hW => ?_) ?_
                 rotate_left 1
                 · obtain ⟨hW1, hW2, hW3, hW4, hW5⟩ := hW
                   go_simp
                   exact rfl
                 simp only [Act.put, List.setIfInBounds_toArray, List.set_cons_zero, List.set_cons_succ]))
            refine txt_op rfl rfl ?_
            refine op_putM pair66 und88 (.tmp 37) (.tmp 38) (.tmp 41) rfl gm rfl (xx, xy) rfl (pairV ((X : Int), (Y : Int))) rfl HM.out Hxsm.out _ (HD.out.eq (b := (pts gm (.map es2 clock2) + (blk b9 #[.int .i64 0, .int .i64 0] 66 + (blk b8 #[.int .i64 xx, .int .i64 xy] 66 + (pts gs (.map esA clockA) + (m9 + (blk w.heap.size #[.int .i64 (X : Int), .int .i64 (Y : Int)] 66 + F))))))) (by ac_rfl)) ?_
            intro esB clockB wB j1 j2 j3
            rw [ptM_mE] at j1
            have MB := hid j1
            have EB := hid (ED.out.trans j3)
            have HB := hid (show Has wB (pts gm (.map esB clockB) + (blk b9 #[.int .i64 0, .int .i64 0] 66 + (blk b8 #[.int .i64 xx, .int .i64 xy] 66 + (pts gs (.map esA clockA) + (m9 + (blk w.heap.size #[.int .i64 (X : Int), .int .i64 (Y : Int)] 66 + F)))))) from j2)
            clear j1 j2 j3 hS
            have hS : (fun W' : World => W'.cell? ⟨b8, 0, none⟩ = some (.int .i64 xx) ∧ W'.cell? ⟨b8, 1, none⟩ = some (.int .i64 xy) ∧ W'.cell? ⟨w.heap.size, 0, none⟩ = some (.int .i64 (X : Int)) ∧ W'.cell? ⟨w.heap.size, 1, none⟩ = some (.int .i64 (Y : Int)) ∧ W'.cell? ⟨b3, 0, none⟩ = some (.map (some gm))) wB := ⟨(HB.out.eq (b := (blk b8 #[.int .i64 xx, .int .i64 xy] 66 + (blk b9 #[.int .i64 0, .int .i64 0] 66 + (pts gs (.map esA clockA) + (pts gm (.map esB clockB) + (m9 + (blk w.heap.size #[.int .i64 (X : Int), .int .i64 (Y : Int)] 66 + F))))))) (by ac_rfl)).at_ (i := 0) rfl, (HB.out.eq (b := (blk b8 #[.int .i64 xx, .int .i64 xy] 66 + (blk b9 #[.int .i64 0, .int .i64 0] 66 + (pts gs (.map esA clockA) + (pts gm (.map esB clockB) + (m9 + (blk w.heap.size #[.int .i64 (X : Int), .int .i64 (Y : Int)] 66 + F))))))) (by ac_rfl)).at_ (i := 1) rfl, (HB.out.eq (b := (blk w.heap.size #[.int .i64 (X : Int), .int .i64 (Y : Int)] 66 + (blk b9 #[.int .i64 0, .int .i64 0] 66 + (blk b8 #[.int .i64 xx, .int .i64 xy] 66 + (pts gs (.map esA clockA) + (pts gm (.map esB clockB) + (m9 + F))))))) (by ac_rfl)).at_ (i := 0) rfl, (HB.out.eq (b := (blk w.heap.size #[.int .i64 (X : Int), .int .i64 (Y : Int)] 66 + (blk b9 #[.int .i64 0, .int .i64 0] 66 + (blk b8 #[.int .i64 xx, .int .i64 xy] 66 + (pts gs (.map esA clockA) + (pts gm (.map esB clockB) + (m9 + F))))))) (by ac_rfl)).at_ (i := 1) rfl, (HEv.out.h3).c0 ((HB.out.eq (b := ((blk b9 #[.int .i64 0, .int .i64 0] 66 + (blk b8 #[.int .i64 xx, .int .i64 xy] 66 + (pts gs (.map esA clockA) + (pts gm (.map esB clockB) + (m9 + blk w.heap.size #[.int .i64 (X : Int), .int .i64 (Y : Int)] 66))))) + F)) (by ac_rfl)).right)⟩
            refine ⟨fun _ => hS, ?_⟩
            simp only [Act.put, List.setIfInBounds_toArray, List.set_cons_zero, List.set_cons_succ]
            refine txt_op rfl rfl ?_
            refine op_putM pair66 und88 (.tmp 39) (.tmp 40) (.tmp 42) rfl gm rfl ((X : Int), (Y : Int)) rfl (pairV (xx, xy)) rfl MB.out (inR_small Hp.out Hq.out) _ (HB.out.eq (b := (pts gm (.map esB clockB) + (blk b9 #[.int .i64 0, .int .i64 0] 66 + (blk b8 #[.int .i64 xx, .int .i64 xy] 66 + (pts gs (.map esA clockA) + (m9 + (blk w.heap.size #[.int .i64 (X : Int), .int .i64 (Y : Int)] 66 + F))))))) (by ac_rfl)) ?_
            intro esC clockC wC j1 j2 j3
            rw [ptM_mE] at j1
            have MC := hid j1
            have EC := hid (EB.out.trans j3)
            have HC := hid (show Has wC (pts gm (.map esC clockC) + (blk b9 #[.int .i64 0, .int .i64 0] 66 + (blk b8 #[.int .i64 xx, .int .i64 xy] 66 + (pts gs (.map esA clockA) + (m9 + (blk w.heap.size #[.int .i64 (X : Int), .int .i64 (Y : Int)] 66 + F)))))) from j2)
            clear j1 j2 j3 hS
            refine ⟨fun h => absurd rfl h, ?_⟩
            refine txt_done ?_
            simp only [Act.put]
            go_wp2
            go_ret
            exact ⟨by rw [← hres.out]; rfl, esA, clockA, esC, clockC, by rw [← hres.out]; exact SA.out, by rw [← hres.out]; exact MC.out, (HC.out.eq (b := (pts gs (.map esA clockA) + (pts gm (.map esC clockC) + F)) + (blk b9 #[.int .i64 0, .int .i64 0] 66 + (blk b8 #[.int .i64 xx, .int .i64 xy] 66 + (m9 + blk w.heap.size #[.int .i64 (X : Int), .int .i64 (Y : Int)] 66)))) (by ac_rfl)).left, EC.out⟩
          | some b =>
            obtain ⟨bx, by'⟩ := b
            have Hbin := hid (HI.out.val _ _ hlo)
            have Hn2 := hid (show 64 < (sk ++ [(xx, xy)]).length + n by rw [List.length_append, List.length_singleton]; have := Hn.out; omega)
            have hlm : Option.map pairV (lk2 mk (xx, xy)) = some (.agg #[.int .i64 bx, .int .i64 by']) := by rw [hlo]; rfl
            have Hinv := hid (tryF_inv n (sk ++ [(xx, xy)]) mk (bx, by') (HI.out.see Hxin.out hsn) Hbin.out)
            cases hr1 : (tryF p n (sk ++ [(xx, xy)]) mk (bx, by')).1 with
            | true =>
              have hres := hid (show (true, (tryF p n (sk ++ [(xx, xy)]) mk (bx, by')).2.1, pt2 (pt2 (tryF p n (sk ++ [(xx, xy)]) mk (bx, by')).2.2 (xx, xy) ((X : Int), (Y : Int))) ((X : Int), (Y : Int)) (xx, xy)) = RR by
                rw [← hstep]; unfold tryL; rw [if_neg hsn, hlo]; simp only; rw [hr1]; rfl)
              clear hstep hlo
              go_wp2_with (first
                | (go_at_call 89; refine (IH.out ((blk b9 #[.int .i64 bx, .int .i64 by'] 66 + (blk b8 #[.int .i64 xx, .int .i64 xy] 66 + (m9 + blk w.heap.size #[.int .i64 (X : Int), .int .i64 (Y : Int)] 66))) + F) w81 (sk ++ [(xx, xy)]) mk esA clockA es2 clock2 (bx, by') (HEv.out.more _) (HI.out.see Hxin.out hsn) Hbin.out Hn2.out SA.out HM.out (H81.out.eq (b := pts gs (.map esA clockA) + (pts gm (.map es2 clock2) + ((blk b9 #[.int .i64 bx, .int .i64 by'] 66 + (blk b8 #[.int .i64 xx, .int .i64 xy] 66 + (m9 + blk w.heap.size #[.int .i64 (X : Int), .int .i64 (Y : Int)] 66))) + F))) (by ac_rfl))).mono ?_; rintro e82 w82 ⟨rfl, esR, clockR, esR2, clockR2, SR, MR, HR, ER⟩; rw [hr1]; have SR := hid SR; have MR := hid MR; have HR := hid (show Has w82 (blk b9 #[.int .i64 bx, .int .i64 by'] 66 + (blk b8 #[.int .i64 xx, .int .i64 xy] 66 + (pts gs (.map esR clockR) + (pts gm (.map esR2 clockR2) + (m9 + (blk w.heap.size #[.int .i64 (X : Int), .int .i64 (Y : Int)] 66 + F)))))) from HR.eq (by ac_rfl)); have ER := hid (E81.out.trans ER); clear v0 v1 v4)
                | (rw [← Hb9.out]; refine wpList_store_whole rfl (.tmp 9) (.tmp 28) 66 rfl 2 size66 b9 (.agg #[.int .i64 bx, .int .i64 by']) rfl rfl rfl (by simp [Value.cells, Value.oneCell']) #[.int .i64 0, .int .i64 0] 66 _ HAb9.out rfl ?_; intro w81 j1 j2; have H81 := hid (show Has w81 (blk b9 #[.int .i64 bx, .int .i64 by'] 66 + (blk b8 #[.int .i64 xx, .int .i64 xy] 66 + (pts gs (.map esA clockA) + (pts gm (.map es2 clock2) + (m9 + (blk w.heap.size #[.int .i64 (X : Int), .int .i64 (Y : Int)] 66 + F)))))) from j1.eq (by unfold blk; ac_rfl)); have E81 := hid ((E22.out.trans (Ext.alloc _ _)).trans j2); clear j1 j2; clear z0 z1 z3 hlk; have v0 := (H81.out.eq (b := (blk b9 #[.int .i64 bx, .int .i64 by'] 66 + (blk b8 #[.int .i64 xx, .int .i64 xy] 66 + (pts gs (.map esA clockA) + (pts gm (.map es2 clock2) + (m9 + (blk w.heap.size #[.int .i64 (X : Int), .int .i64 (Y : Int)] 66 + F))))))) (by ac_rfl)).at_ (i := 0) rfl; have v1 := (H81.out.eq (b := (blk b9 #[.int .i64 bx, .int .i64 by'] 66 + (blk b8 #[.int .i64 xx, .int .i64 xy] 66 + (pts gs (.map esA clockA) + (pts gm (.map es2 clock2) + (m9 + (blk w.heap.size #[.int .i64 (X : Int), .int .i64 (Y : Int)] 66 + F))))))) (by ac_rfl)).at_ (i := 1) rfl; have v4 := (HEv.out.h4).c0 ((H81.out.eq (b := ((blk b9 #[.int .i64 bx, .int .i64 by'] 66 + (blk b8 #[.int .i64 xx, .int .i64 xy] 66 + (pts gs (.map esA clockA) + (pts gm (.map es2 clock2) + (m9 + blk w.heap.size #[.int .i64 (X : Int), .int .i64 (Y : Int)] 66))))) + F)) (by ac_rfl)).right))
                | (refine wpList_putM pair66 und83 rfl (.tmp 22) (.tmp 23) (.const (.bool true)) (.inl rfl) gs rfl (xx, xy) rfl (.bool true) rfl HS.out Hxsm.out _ (H21.out.eq (b := (pts gs (.map es clock) + (blk b8 #[.int .i64 xx, .int .i64 xy] 66 + (pts gm (.map es2 clock2) + (m9 + (blk w.heap.size #[.int .i64 (X : Int), .int .i64 (Y : Int)] 66 + F)))))) (by ac_rfl)) ?_; intro esA clockA w22 j1 j2 j3; rw [mapL_snoc hsn] at j1; have SA := hid j1; have H22 := hid (show Has w22 (blk b8 #[.int .i64 xx, .int .i64 xy] 66 + (pts gs (.map esA clockA) + (pts gm (.map es2 clock2) + (m9 + (blk w.heap.size #[.int .i64 (X : Int), .int .i64 (Y : Int)] 66 + F))))) from (show Has w22 (pts gs (.map esA clockA) + (blk b8 #[.int .i64 xx, .int .i64 xy] 66 + (pts gm (.map es2 clock2) + (m9 + (blk w.heap.size #[.int .i64 (X : Int), .int .i64 (Y : Int)] 66 + F))))) from j2).eq (by ac_rfl)); have E22 := hid (E21.out.trans j3); clear j1 j2 j3 z0 z1 z2 hlk; have z0 := (H22.out.eq (b := (blk b8 #[.int .i64 xx, .int .i64 xy] 66 + (pts gs (.map esA clockA) + (pts gm (.map es2 clock2) + (m9 + (blk w.heap.size #[.int .i64 (X : Int), .int .i64 (Y : Int)] 66 + F)))))) (by ac_rfl)).at_ (i := 0) rfl; have z1 := (H22.out.eq (b := (blk b8 #[.int .i64 xx, .int .i64 xy] 66 + (pts gs (.map esA clockA) + (pts gm (.map es2 clock2) + (m9 + (blk w.heap.size #[.int .i64 (X : Int), .int .i64 (Y : Int)] 66 + F)))))) (by ac_rfl)).at_ (i := 1) rfl; have z3 := (HEv.out.h3).c0 ((H22.out.eq (b := ((blk b8 #[.int .i64 xx, .int .i64 xy] 66 + (pts gs (.map esA clockA) + (pts gm (.map es2 clock2) + (m9 + blk w.heap.size #[.int .i64 (X : Int), .int .i64 (Y : Int)] 66)))) + F)) (by ac_rfl)).right); have hlk := HM.out.look2 pair66 und88 (zero66 w22) ((H22.out.eq (b := (pts gm (.map es2 clock2) + (blk b8 #[.int .i64 xx, .int .i64 xy] 66 + (pts gs (.map esA clockA) + (m9 + (blk w.heap.size #[.int .i64 (X : Int), .int .i64 (Y : Int)] 66 + F)))))) (by ac_rfl)).get) (q := (xx, xy)) Hxsm.out; rw [lkM_mE] at hlk; have hlk : (Instr.lookup 88 (.map (some gm)) (.agg #[.int .i64 xx, .int .i64 xy]) true).run Tryd.prog w22 = .ok (.tuple #[.agg #[.int .i64 bx, .int .i64 by'], .bool true]) w22 := (by rw [hlm] at hlk; exact hlk); obtain ⟨b9, hb9⟩ : ∃ b9, b9 = w22.heap.size := ⟨_, rfl⟩; have HAb9 := hid (show Has (w22.alloc (.cells #[.int .i64 0, .int .i64 0] 66)) (blk b9 #[.int .i64 0, .int .i64 0] 66 + (blk b8 #[.int .i64 xx, .int .i64 xy] 66 + (pts gs (.map esA clockA) + (pts gm (.map es2 clock2) + (m9 + (blk w.heap.size #[.int .i64 (X : Int), .int .i64 (Y : Int)] 66 + F)))))) by rw [hb9]; exact H22.out.alloc _); have Hb9 := hid hb9; clear hb9)
                | (rw [← Hb8.out]; refine wpList_store_whole rfl (.tmp 8) (.tmp 18) 66 rfl 2 size66 b8 (.agg #[.int .i64 xx, .int .i64 xy]) rfl rfl rfl (by simp [Value.cells, Value.oneCell']) #[.int .i64 0, .int .i64 0] 66 _ HAb8.out rfl ?_; intro w21 j1 j2; have H21 := hid (show Has w21 (blk b8 #[.int .i64 xx, .int .i64 xy] 66 + (pts gs (.map es clock) + (pts gm (.map es2 clock2) + (m9 + (blk w.heap.size #[.int .i64 (X : Int), .int .i64 (Y : Int)] 66 + F))))) from j1.eq (by unfold blk; ac_rfl)); have E21 := hid ((HE.out.trans (Ext.alloc _ _)).trans j2); clear j1 j2; clear y0 y1; have z0 := (H21.out.eq (b := (blk b8 #[.int .i64 xx, .int .i64 xy] 66 + (pts gs (.map es clock) + (pts gm (.map es2 clock2) + (m9 + (blk w.heap.size #[.int .i64 (X : Int), .int .i64 (Y : Int)] 66 + F)))))) (by ac_rfl)).at_ (i := 0) rfl; have z1 := (H21.out.eq (b := (blk b8 #[.int .i64 xx, .int .i64 xy] 66 + (pts gs (.map es clock) + (pts gm (.map es2 clock2) + (m9 + (blk w.heap.size #[.int .i64 (X : Int), .int .i64 (Y : Int)] 66 + F)))))) (by ac_rfl)).at_ (i := 1) rfl; have z2 := (HEv.out.h2).c0 ((H21.out.eq (b := ((blk b8 #[.int .i64 xx, .int .i64 xy] 66 + (pts gs (.map es clock) + (pts gm (.map es2 clock2) + (m9 + blk w.heap.size #[.int .i64 (X : Int), .int .i64 (Y : Int)] 66)))) + F)) (by ac_rfl)).right); have hlk := HS.out.look1 pair66 und83 (zero4 w21) ((H21.out.eq (b := (pts gs (.map es clock) + (blk b8 #[.int .i64 xx, .int .i64 xy] 66 + (pts gm (.map es2 clock2) + (m9 + (blk w.heap.size #[.int .i64 (X : Int), .int .i64 (Y : Int)] 66 + F)))))) (by ac_rfl)).get) (q := (xx, xy)) Hxsm.out; rw [lk_mapL] at hlk; have hlk : (Instr.lookup 83 (.map (some gs)) (.agg #[.int .i64 xx, .int .i64 xy]) false).run Tryd.prog w21 = .ok (.bool false) w21 := (by rw [if_neg hsn] at hlk; exact hlk)))
              clear hlm hsn hr1
              have HD := hid (show Has w82.drew (blk b9 #[.int .i64 bx, .int .i64 by'] 66 + (blk b8 #[.int .i64 xx, .int .i64 xy] 66 + (pts gs (.map esR clockR) + (pts gm (.map esR2 clockR2) + (m9 + (blk w.heap.size #[.int .i64 (X : Int), .int .i64 (Y : Int)] 66 + F)))))) from HR.out.drew)
              have ED := hid (ER.out.trans (Ext.drew _))
              have hS : (fun W' : World => W'.cell? ⟨b8, 0, none⟩ = some (.int .i64 xx) ∧ W'.cell? ⟨b8, 1, none⟩ = some (.int .i64 xy) ∧ W'.cell? ⟨w.heap.size, 0, none⟩ = some (.int .i64 (X : Int)) ∧ W'.cell? ⟨w.heap.size, 1, none⟩ = some (.int .i64 (Y : Int)) ∧ W'.cell? ⟨b3, 0, none⟩ = some (.map (some gm))) w82.drew := ⟨(HD.out.eq (b := (blk b8 #[.int .i64 xx, .int .i64 xy] 66 + (blk b9 #[.int .i64 bx, .int .i64 by'] 66 + (pts gs (.map esR clockR) + (pts gm (.map esR2 clockR2) + (m9 + (blk w.heap.size #[.int .i64 (X : Int), .int .i64 (Y : Int)] 66 + F))))))) (by ac_rfl)).at_ (i := 0) rfl, (HD.out.eq (b := (blk b8 #[.int .i64 xx, .int .i64 xy] 66 + (blk b9 #[.int .i64 bx, .int .i64 by'] 66 + (pts gs (.map esR clockR) + (pts gm (.map esR2 clockR2) + (m9 + (blk w.heap.size #[.int .i64 (X : Int), .int .i64 (Y : Int)] 66 + F))))))) (by ac_rfl)).at_ (i := 1) rfl, (HD.out.eq (b := (blk w.heap.size #[.int .i64 (X : Int), .int .i64 (Y : Int)] 66 + (blk b9 #[.int .i64 bx, .int .i64 by'] 66 + (blk b8 #[.int .i64 xx, .int .i64 xy] 66 + (pts gs (.map esR clockR) + (pts gm (.map esR2 clockR2) + (m9 + F))))))) (by ac_rfl)).at_ (i := 0) rfl, (HD.out.eq (b := (blk w.heap.size #[.int .i64 (X : Int), .int .i64 (Y : Int)] 66 + (blk b9 #[.int .i64 bx, .int .i64 by'] 66 + (blk b8 #[.int .i64 xx, .int .i64 xy] 66 + (pts gs (.map esR clockR) + (pts gm (.map esR2 clockR2) + (m9 + F))))))) (by ac_rfl)).at_ (i := 1) rfl, (HEv.out.h3).c0 ((HD.out.eq (b := ((blk b9 #[.int .i64 bx, .int .i64 by'] 66 + (blk b8 #[.int .i64 xx, .int .i64 xy] 66 + (pts gs (.map esR clockR) + (pts gm (.map esR2 clockR2) + (m9 + blk w.heap.size #[.int .i64 (X : Int), .int .i64 (Y : Int)] 66))))) + F)) (by ac_rfl)).right)⟩
              refine wp_region_txt (fun W' => W'.cell? ⟨b8, 0, none⟩ = some (.int .i64 xx) ∧ W'.cell? ⟨b8, 1, none⟩ = some (.int .i64 xy) ∧ W'.cell? ⟨w.heap.size, 0, none⟩ = some (.int .i64 (X : Int)) ∧ W'.cell? ⟨w.heap.size, 1, none⟩ = some (.int .i64 (Y : Int)) ∧ W'.cell? ⟨b3, 0, none⟩ = some (.map (some gm))) (some 7)
                [(0, true), (1, true), (2, true), (3, true), (4, true), (5, true), (6, false), (7, false)] (by kernel_rfl) rfl (by kernel_rfl) (by kernel_rfl) (by repeat (first | with_reducible refine PanicOk.thn ?_ | with_reducible refine PanicOk.blk ?_ | exact PanicOk.body _ _ _)) ?_
              repeat (first
                | (refine txt_off hS rfl rfl ?_; simp only [Act.put, List.setIfInBounds_toArray, List.set_cons_zero, List.set_cons_succ])
                | (refine txt_quiet ?_ hS rfl rfl (fun W hW => ?_) ?_
                   rotate_left 1
                   · obtain ⟨hW1, hW2, hW3, hW4, hW5⟩ := hW
                     go_simp
                     exact rfl
                   simp only [Act.put, List.setIfInBounds_toArray, List.set_cons_zero, List.set_cons_succ]))
              refine txt_op rfl rfl ?_
              refine op_putM pair66 und88 (.tmp 37) (.tmp 38) (.tmp 41) rfl gm rfl (xx, xy) rfl (pairV ((X : Int), (Y : Int))) rfl MR.out Hxsm.out _ (HD.out.eq (b := (pts gm (.map esR2 clockR2) + (blk b9 #[.int .i64 bx, .int .i64 by'] 66 + (blk b8 #[.int .i64 xx, .int .i64 xy] 66 + (pts gs (.map esR clockR) + (m9 + (blk w.heap.size #[.int .i64 (X : Int), .int .i64 (Y : Int)] 66 + F))))))) (by ac_rfl)) ?_
              intro esB clockB wB j1 j2 j3
              rw [ptM_mE] at j1
              have MB := hid j1
              have EB := hid (ED.out.trans j3)
              have HB := hid (show Has wB (pts gm (.map esB clockB) + (blk b9 #[.int .i64 bx, .int .i64 by'] 66 + (blk b8 #[.int .i64 xx, .int .i64 xy] 66 + (pts gs (.map esR clockR) + (m9 + (blk w.heap.size #[.int .i64 (X : Int), .int .i64 (Y : Int)] 66 + F)))))) from j2)
              clear j1 j2 j3 hS
              have hS : (fun W' : World => W'.cell? ⟨b8, 0, none⟩ = some (.int .i64 xx) ∧ W'.cell? ⟨b8, 1, none⟩ = some (.int .i64 xy) ∧ W'.cell? ⟨w.heap.size, 0, none⟩ = some (.int .i64 (X : Int)) ∧ W'.cell? ⟨w.heap.size, 1, none⟩ = some (.int .i64 (Y : Int)) ∧ W'.cell? ⟨b3, 0, none⟩ = some (.map (some gm))) wB := ⟨(HB.out.eq (b := (blk b8 #[.int .i64 xx, .int .i64 xy] 66 + (blk b9 #[.int .i64 bx, .int .i64 by'] 66 + (pts gs (.map esR clockR) + (pts gm (.map esB clockB) + (m9 + (blk w.heap.size #[.int .i64 (X : Int), .int .i64 (Y : Int)] 66 + F))))))) (by ac_rfl)).at_ (i := 0) rfl, (HB.out.eq (b := (blk b8 #[.int .i64 xx, .int .i64 xy] 66 + (blk b9 #[.int .i64 bx, .int .i64 by'] 66 + (pts gs (.map esR clockR) + (pts gm (.map esB clockB) + (m9 + (blk w.heap.size #[.int .i64 (X : Int), .int .i64 (Y : Int)] 66 + F))))))) (by ac_rfl)).at_ (i := 1) rfl, (HB.out.eq (b := (blk w.heap.size #[.int .i64 (X : Int), .int .i64 (Y : Int)] 66 + (blk b9 #[.int .i64 bx, .int .i64 by'] 66 + (blk b8 #[.int .i64 xx, .int .i64 xy] 66 + (pts gs (.map esR clockR) + (pts gm (.map esB clockB) + (m9 + F))))))) (by ac_rfl)).at_ (i := 0) rfl, (HB.out.eq (b := (blk w.heap.size #[.int .i64 (X : Int), .int .i64 (Y : Int)] 66 + (blk b9 #[.int .i64 bx, .int .i64 by'] 66 + (blk b8 #[.int .i64 xx, .int .i64 xy] 66 + (pts gs (.map esR clockR) + (pts gm (.map esB clockB) + (m9 + F))))))) (by ac_rfl)).at_ (i := 1) rfl, (HEv.out.h3).c0 ((HB.out.eq (b := ((blk b9 #[.int .i64 bx, .int .i64 by'] 66 + (blk b8 #[.int .i64 xx, .int .i64 xy] 66 + (pts gs (.map esR clockR) + (pts gm (.map esB clockB) + (m9 + blk w.heap.size #[.int .i64 (X : Int), .int .i64 (Y : Int)] 66))))) + F)) (by ac_rfl)).right)⟩
              refine ⟨fun _ => hS, ?_⟩
              simp only [Act.put, List.setIfInBounds_toArray, List.set_cons_zero, List.set_cons_succ]
              refine txt_op rfl rfl ?_
              refine op_putM pair66 und88 (.tmp 39) (.tmp 40) (.tmp 42) rfl gm rfl ((X : Int), (Y : Int)) rfl (pairV (xx, xy)) rfl MB.out (inR_small Hp.out Hq.out) _ (HB.out.eq (b := (pts gm (.map esB clockB) + (blk b9 #[.int .i64 bx, .int .i64 by'] 66 + (blk b8 #[.int .i64 xx, .int .i64 xy] 66 + (pts gs (.map esR clockR) + (m9 + (blk w.heap.size #[.int .i64 (X : Int), .int .i64 (Y : Int)] 66 + F))))))) (by ac_rfl)) ?_
              intro esC clockC wC j1 j2 j3
              rw [ptM_mE] at j1
              have MC := hid j1
              have EC := hid (EB.out.trans j3)
              have HC := hid (show Has wC (pts gm (.map esC clockC) + (blk b9 #[.int .i64 bx, .int .i64 by'] 66 + (blk b8 #[.int .i64 xx, .int .i64 xy] 66 + (pts gs (.map esR clockR) + (m9 + (blk w.heap.size #[.int .i64 (X : Int), .int .i64 (Y : Int)] 66 + F)))))) from j2)
              clear j1 j2 j3 hS
              refine ⟨fun h => absurd rfl h, ?_⟩
              refine txt_done ?_
              simp only [Act.put]
              go_wp2
              go_ret
              exact ⟨by rw [← hres.out]; rfl, esR, clockR, esC, clockC, by rw [← hres.out]; exact SR.out, by rw [← hres.out]; exact MC.out, (HC.out.eq (b := (pts gs (.map esR clockR) + (pts gm (.map esC clockC) + F)) + (blk b9 #[.int .i64 bx, .int .i64 by'] 66 + (blk b8 #[.int .i64 xx, .int .i64 xy] 66 + (m9 + blk w.heap.size #[.int .i64 (X : Int), .int .i64 (Y : Int)] 66)))) (by ac_rfl)).left, EC.out⟩
            | false =>
              have Hres := hid (show tryL (tryF p n) ((X : Int), (Y : Int)) ((nbrsL p ((X : Int), (Y : Int))).drop (k + 1)) (tryF p n (sk ++ [(xx, xy)]) mk (bx, by')).2.1 (tryF p n (sk ++ [(xx, xy)]) mk (bx, by')).2.2 = RR by
                rw [← hstep]
                conv => rhs; unfold tryL
                rw [if_neg hsn, hlo]; simp only; rw [hr1]; rfl)
              clear hstep hlo
              go_wp2_with (first
                | (go_at_call 89; refine (IH.out ((blk b9 #[.int .i64 bx, .int .i64 by'] 66 + (blk b8 #[.int .i64 xx, .int .i64 xy] 66 + (m9 + blk w.heap.size #[.int .i64 (X : Int), .int .i64 (Y : Int)] 66))) + F) w81 (sk ++ [(xx, xy)]) mk esA clockA es2 clock2 (bx, by') (HEv.out.more _) (HI.out.see Hxin.out hsn) Hbin.out Hn2.out SA.out HM.out (H81.out.eq (b := pts gs (.map esA clockA) + (pts gm (.map es2 clock2) + ((blk b9 #[.int .i64 bx, .int .i64 by'] 66 + (blk b8 #[.int .i64 xx, .int .i64 xy] 66 + (m9 + blk w.heap.size #[.int .i64 (X : Int), .int .i64 (Y : Int)] 66))) + F))) (by ac_rfl))).mono ?_; rintro e82 w82 ⟨rfl, esR, clockR, esR2, clockR2, SR, MR, HR, ER⟩; rw [hr1]; have SR := hid SR; have MR := hid MR; have HR := hid (show Has w82 (blk b9 #[.int .i64 bx, .int .i64 by'] 66 + (blk b8 #[.int .i64 xx, .int .i64 xy] 66 + (pts gs (.map esR clockR) + (pts gm (.map esR2 clockR2) + (m9 + (blk w.heap.size #[.int .i64 (X : Int), .int .i64 (Y : Int)] 66 + F)))))) from HR.eq (by ac_rfl)); have ER := hid (E81.out.trans ER); clear v0 v1 v4)
                | (rw [← Hb9.out]; refine wpList_store_whole rfl (.tmp 9) (.tmp 28) 66 rfl 2 size66 b9 (.agg #[.int .i64 bx, .int .i64 by']) rfl rfl rfl (by simp [Value.cells, Value.oneCell']) #[.int .i64 0, .int .i64 0] 66 _ HAb9.out rfl ?_; intro w81 j1 j2; have H81 := hid (show Has w81 (blk b9 #[.int .i64 bx, .int .i64 by'] 66 + (blk b8 #[.int .i64 xx, .int .i64 xy] 66 + (pts gs (.map esA clockA) + (pts gm (.map es2 clock2) + (m9 + (blk w.heap.size #[.int .i64 (X : Int), .int .i64 (Y : Int)] 66 + F)))))) from j1.eq (by unfold blk; ac_rfl)); have E81 := hid ((E22.out.trans (Ext.alloc _ _)).trans j2); clear j1 j2; clear z0 z1 z3 hlk; have v0 := (H81.out.eq (b := (blk b9 #[.int .i64 bx, .int .i64 by'] 66 + (blk b8 #[.int .i64 xx, .int .i64 xy] 66 + (pts gs (.map esA clockA) + (pts gm (.map es2 clock2) + (m9 + (blk w.heap.size #[.int .i64 (X : Int), .int .i64 (Y : Int)] 66 + F))))))) (by ac_rfl)).at_ (i := 0) rfl; have v1 := (H81.out.eq (b := (blk b9 #[.int .i64 bx, .int .i64 by'] 66 + (blk b8 #[.int .i64 xx, .int .i64 xy] 66 + (pts gs (.map esA clockA) + (pts gm (.map es2 clock2) + (m9 + (blk w.heap.size #[.int .i64 (X : Int), .int .i64 (Y : Int)] 66 + F))))))) (by ac_rfl)).at_ (i := 1) rfl; have v4 := (HEv.out.h4).c0 ((H81.out.eq (b := ((blk b9 #[.int .i64 bx, .int .i64 by'] 66 + (blk b8 #[.int .i64 xx, .int .i64 xy] 66 + (pts gs (.map esA clockA) + (pts gm (.map es2 clock2) + (m9 + blk w.heap.size #[.int .i64 (X : Int), .int .i64 (Y : Int)] 66))))) + F)) (by ac_rfl)).right))
                | (refine wpList_putM pair66 und83 rfl (.tmp 22) (.tmp 23) (.const (.bool true)) (.inl rfl) gs rfl (xx, xy) rfl (.bool true) rfl HS.out Hxsm.out _ (H21.out.eq (b := (pts gs (.map es clock) + (blk b8 #[.int .i64 xx, .int .i64 xy] 66 + (pts gm (.map es2 clock2) + (m9 + (blk w.heap.size #[.int .i64 (X : Int), .int .i64 (Y : Int)] 66 + F)))))) (by ac_rfl)) ?_; intro esA clockA w22 j1 j2 j3; rw [mapL_snoc hsn] at j1; have SA := hid j1; have H22 := hid (show Has w22 (blk b8 #[.int .i64 xx, .int .i64 xy] 66 + (pts gs (.map esA clockA) + (pts gm (.map es2 clock2) + (m9 + (blk w.heap.size #[.int .i64 (X : Int), .int .i64 (Y : Int)] 66 + F))))) from (show Has w22 (pts gs (.map esA clockA) + (blk b8 #[.int .i64 xx, .int .i64 xy] 66 + (pts gm (.map es2 clock2) + (m9 + (blk w.heap.size #[.int .i64 (X : Int), .int .i64 (Y : Int)] 66 + F))))) from j2).eq (by ac_rfl)); have E22 := hid (E21.out.trans j3); clear j1 j2 j3 z0 z1 z2 hlk; have z0 := (H22.out.eq (b := (blk b8 #[.int .i64 xx, .int .i64 xy] 66 + (pts gs (.map esA clockA) + (pts gm (.map es2 clock2) + (m9 + (blk w.heap.size #[.int .i64 (X : Int), .int .i64 (Y : Int)] 66 + F)))))) (by ac_rfl)).at_ (i := 0) rfl; have z1 := (H22.out.eq (b := (blk b8 #[.int .i64 xx, .int .i64 xy] 66 + (pts gs (.map esA clockA) + (pts gm (.map es2 clock2) + (m9 + (blk w.heap.size #[.int .i64 (X : Int), .int .i64 (Y : Int)] 66 + F)))))) (by ac_rfl)).at_ (i := 1) rfl; have z3 := (HEv.out.h3).c0 ((H22.out.eq (b := ((blk b8 #[.int .i64 xx, .int .i64 xy] 66 + (pts gs (.map esA clockA) + (pts gm (.map es2 clock2) + (m9 + blk w.heap.size #[.int .i64 (X : Int), .int .i64 (Y : Int)] 66)))) + F)) (by ac_rfl)).right); have hlk := HM.out.look2 pair66 und88 (zero66 w22) ((H22.out.eq (b := (pts gm (.map es2 clock2) + (blk b8 #[.int .i64 xx, .int .i64 xy] 66 + (pts gs (.map esA clockA) + (m9 + (blk w.heap.size #[.int .i64 (X : Int), .int .i64 (Y : Int)] 66 + F)))))) (by ac_rfl)).get) (q := (xx, xy)) Hxsm.out; rw [lkM_mE] at hlk; have hlk : (Instr.lookup 88 (.map (some gm)) (.agg #[.int .i64 xx, .int .i64 xy]) true).run Tryd.prog w22 = .ok (.tuple #[.agg #[.int .i64 bx, .int .i64 by'], .bool true]) w22 := (by rw [hlm] at hlk; exact hlk); obtain ⟨b9, hb9⟩ : ∃ b9, b9 = w22.heap.size := ⟨_, rfl⟩; have HAb9 := hid (show Has (w22.alloc (.cells #[.int .i64 0, .int .i64 0] 66)) (blk b9 #[.int .i64 0, .int .i64 0] 66 + (blk b8 #[.int .i64 xx, .int .i64 xy] 66 + (pts gs (.map esA clockA) + (pts gm (.map es2 clock2) + (m9 + (blk w.heap.size #[.int .i64 (X : Int), .int .i64 (Y : Int)] 66 + F)))))) by rw [hb9]; exact H22.out.alloc _); have Hb9 := hid hb9; clear hb9)
                | (rw [← Hb8.out]; refine wpList_store_whole rfl (.tmp 8) (.tmp 18) 66 rfl 2 size66 b8 (.agg #[.int .i64 xx, .int .i64 xy]) rfl rfl rfl (by simp [Value.cells, Value.oneCell']) #[.int .i64 0, .int .i64 0] 66 _ HAb8.out rfl ?_; intro w21 j1 j2; have H21 := hid (show Has w21 (blk b8 #[.int .i64 xx, .int .i64 xy] 66 + (pts gs (.map es clock) + (pts gm (.map es2 clock2) + (m9 + (blk w.heap.size #[.int .i64 (X : Int), .int .i64 (Y : Int)] 66 + F))))) from j1.eq (by unfold blk; ac_rfl)); have E21 := hid ((HE.out.trans (Ext.alloc _ _)).trans j2); clear j1 j2; clear y0 y1; have z0 := (H21.out.eq (b := (blk b8 #[.int .i64 xx, .int .i64 xy] 66 + (pts gs (.map es clock) + (pts gm (.map es2 clock2) + (m9 + (blk w.heap.size #[.int .i64 (X : Int), .int .i64 (Y : Int)] 66 + F)))))) (by ac_rfl)).at_ (i := 0) rfl; have z1 := (H21.out.eq (b := (blk b8 #[.int .i64 xx, .int .i64 xy] 66 + (pts gs (.map es clock) + (pts gm (.map es2 clock2) + (m9 + (blk w.heap.size #[.int .i64 (X : Int), .int .i64 (Y : Int)] 66 + F)))))) (by ac_rfl)).at_ (i := 1) rfl; have z2 := (HEv.out.h2).c0 ((H21.out.eq (b := ((blk b8 #[.int .i64 xx, .int .i64 xy] 66 + (pts gs (.map es clock) + (pts gm (.map es2 clock2) + (m9 + blk w.heap.size #[.int .i64 (X : Int), .int .i64 (Y : Int)] 66)))) + F)) (by ac_rfl)).right); have hlk := HS.out.look1 pair66 und83 (zero4 w21) ((H21.out.eq (b := (pts gs (.map es clock) + (blk b8 #[.int .i64 xx, .int .i64 xy] 66 + (pts gm (.map es2 clock2) + (m9 + (blk w.heap.size #[.int .i64 (X : Int), .int .i64 (Y : Int)] 66 + F)))))) (by ac_rfl)).get) (q := (xx, xy)) Hxsm.out; rw [lk_mapL] at hlk; have hlk : (Instr.lookup 83 (.map (some gs)) (.agg #[.int .i64 xx, .int .i64 xy]) false).run Tryd.prog w21 = .ok (.bool false) w21 := (by rw [if_neg hsn] at hlk; exact hlk)))
              clear hlm hsn hr1
              go_roundw
              case rel => exact ⟨k + 1, (tryF p n (sk ++ [(xx, xy)]) mk (bx, by')).2.1, (tryF p n (sk ++ [(xx, xy)]) mk (bx, by')).2.2, esR, clockR, esR2, clockR2, Hk.out, by go_num, Hres.out, Hinv.out.1, (by have h1 := Hinv.out.2; have h2 := Hn2.out; omega), SR.out, MR.out, (HR.out.eq (b := (pts gs (.map esR clockR) + (pts gm (.map esR2 clockR2) + (m9 + (blk w.heap.size #[.int .i64 (X : Int), .int .i64 (Y : Int)] 66 + F)))) + ((blk b9 #[.int .i64 bx, .int .i64 by'] 66 + blk b8 #[.int .i64 xx, .int .i64 xy] 66))) (by ac_rfl)).left, ER.out⟩
              case measure => have := Hk.out; simp [intOf]; omega
      · have hke : k = nk := by omega
        subst hke
        have hres := hid (show (false, sk, mk) = RR by
          rw [← HRk.out, List.drop_eq_nil_iff.2 (by rw [Hnk.out]; exact Nat.le_refl _)]; rfl)
        clear hlk hk
        go_wp2
        go_ret
        exact ⟨by rw [← hres.out]; rfl, es, clock, es2, clock2, by rw [← hres.out]; exact HS.out, by rw [← hres.out]; exact HM.out, ((HW.out.eq (b := (pts gs (.map es clock) + (pts gm (.map es2 clock2) + F)) + (m9 + blk w.heap.size #[.int .i64 (X : Int), .int .i64 (Y : Int)] 66)) (by ac_rfl))).left, HE.out⟩
end Go.Proofs.YtcdhimnmbpllgaaDoor

namespace Go.Proofs.YtcdhimnmbpllgaaDoor
open Go.RowKit Go.MapKept Go.ChangeMaps
set_option linter.unusedVariables false
set_option linter.unusedSimpArgs false
set_option maxHeartbeats 4000000
set_option maxRecDepth 100000

def stepM (p : List ByteArray) (m : Mates) (c : Cl) : Mates := if blackB c then (tryF p 65 [] m c).2.2 else m
def matK (p : List ByteArray) (k : Nat) : Mates := ((cellsL p).take k).foldl (stepM p) []
def matF (p : List ByteArray) : Mates := (cellsL p).foldl (stepM p) []
theorem matK_succ {p : List ByteArray} {k : Nat} {c : Cl} (h : (cellsL p)[k]? = some c) : matK p (k + 1) = stepM p (matK p k) c := by
  unfold matK
  rw [take_more h, List.foldl_append]; rfl
theorem TInv.nil (p : List ByteArray) : TInv p [] [] := ⟨List.nodup_nil, fun x hx => (by cases hx), fun q b h => (by cases h), fun q b h => (by cases h)⟩
theorem TInv.fresh {p : List ByteArray} {s : List Cl} {m : Mates} (h : TInv p s m) : TInv p [] m := ⟨List.nodup_nil, fun x hx => (by cases hx), h.key, h.val⟩
theorem stepM_inv {p : List ByteArray} {m : Mates} {c : Cl} (h : TInv p [] m) (hc : inR p c) : TInv p [] (stepM p m c) := by
  unfold stepM
  split
  · exact (tryF_inv 65 [] m c h hc).1.fresh
  · exact h
theorem size67' : (Tryd.prog.info? 67).map (·.size) = some 1 := by kernel_rfl
theorem matched_any {F : MS} {p : List ByteArray} {A : Option Addr} {c : Nat} {w : World} (hr : RdS F RT.str p (.slice A p.length c)) (hp : RegOk p) (hf : FourOk F) (hH : Has w F) :
    Calls Tryd.prog 52 #[rgV p A c] w fun e w' => ∃ gm es clock, e = .returned (.map (some gm)) ∧ EntsAre (mE (matF p)) es clock ∧ (∀ M, Has w M → Has w' (pts gm (.map es clock) + M)) ∧ Ext w w' := by
  have hra := rd_all_str hr hH
  have hfa := hf.all hH
  have hw8 := hp.w8
  have hh8 := hp.h8
  have Hcells := hid (fun (W : World) (h : Has W (MS.all w)) => show Calls Tryd.prog 37 #[.agg #[.int .i64 (wd p), .int .i64 p.length, .slice A p.length c]] W fun e w' => ∃ v m, e = .returned v ∧ Cls (cellsL p) v m ∧ (∀ M, Has W M → Has w' (m + M)) ∧ Ext W w' from cells_any hra hp h)
  have Hblk := hid (fun (q : Cl) (hq : inR p q) (W : World) => show Calls Tryd.prog 38 #[.agg #[.int .i64 q.1, .int .i64 q.2]] W fun e w' => e = .returned (.bool (blackB q)) ∧ Kp W w' from black_any q (inR_small hp hq).1 (inR_small hp hq).2 W)
  have Htry := hid (fun (b1 b2 b3 b4 gs gm : Nat) (F : MS) (W : World) (m : Mates) (es2 : Array MapEntry) (clock2 : Nat) (qx qy : Int) (hE : TryEnv p A c b1 b2 b3 b4 gs gm F) (hI : TInv p [] m) (hq : inR p (qx, qy)) (hM : EntsAre (mE m) es2 clock2) (hW : Has W (pts gs (.map #[] 0) + (pts gm (.map es2 clock2) + F))) => show Calls Tryd.prog 89 #[.agg #[.int .i64 qx, .int .i64 qy], .pointer (some ⟨b1, 0, none⟩), .pointer (some ⟨b2, 0, none⟩), .pointer (some ⟨b3, 0, none⟩), .pointer (some ⟨b4, 0, none⟩)] W (TryPost gs gm F W (tryF p 65 [] m (qx, qy))) from try_any hp A c b1 b2 b3 b4 gs gm 65 F W [] m #[] 0 es2 clock2 (qx, qy) hE hI hq (by simp) EntsAre.none hM hW)
  have Hra := hid hra
  have Hfa := hid hfa
  have H0 := hid (show Has (w.alloc (.cells #[.int .i64 (wd p), .int .i64 p.length, .slice A p.length c] 51)) (blk w.heap.size #[.int .i64 (wd p), .int .i64 p.length, .slice A p.length c] 51 + MS.all w) from (Has.all w).alloc _)
  have E0 := hid (Ext.alloc w (.cells #[.int .i64 (wd p), .int .i64 p.length, .slice A p.length c] 51))
  have Hin := hid (fun q (h : q ∈ cellsL p) => show inR p q from mem_cells.1 h)
  have hc64 : (cellsL p).length ≤ 64 := by
    have h2 := cellsK_len p p.length
    have h3 : p.length * wd p ≤ 8 * 8 := Nat.mul_le_mul hp.h8 hp.w8
    unfold cellsL
    omega
  show Calls Tryd.prog 52 #[.agg #[.int .i64 (wd p), .int .i64 p.length, .slice A p.length c]] w _
  obtain ⟨nC, hnC⟩ : ∃ nC, nC = (cellsL p).length := ⟨_, rfl⟩
  rw [← hnC] at hc64
  have HnC := hid hnC
  have hCI : (nC : Int) ≤ 64 := by omega
  clear hr hp hf hH hra hfa hnC
  go_enter Tryd.func52, Tryd.ntmps52
  go_wp2_with (first
    | (go_at_call 37; refine (Hcells.out w1 ((H1.out.eq (b := ((blk b3 #[.map (some gm)] 88 + (pts gm (.map #[] 0) + blk w.heap.size #[.int .i64 (wd p), .int .i64 p.length, .slice A p.length c] 51)) + MS.all w)) (by ac_rfl)).right)).mono ?_; rintro e2 w2 ⟨vC, mC, rfl, hC, k2, l2⟩; have H2 := hid (k2 _ H1.out); have E2 := hid (E1.out.trans l2); clear k2 l2; obtain ⟨AC, cC, rfl, _⟩ := SlR.form hC; rw [← HnC.out] at hC ⊢; have HC := hid hC; clear u0 u1 u2 hC)
    | (rw [← Hb3.out]; refine wpList_store_whole rfl (.tmp 3) (.tmp 8) 88 rfl 1 size88 b3 (.map (some gm)) rfl rfl rfl (by simp [Value.cells, Value.oneCell']) #[.map none] 88 _ HAb3.out rfl ?_; intro w1 j1 j2; have H1 := hid (show Has w1 (blk b3 #[.map (some gm)] 88 + (pts gm (.map #[] 0) + (blk w.heap.size #[.int .i64 (wd p), .int .i64 p.length, .slice A p.length c] 51 + MS.all w))) from j1.eq (by unfold blk; ac_rfl)); have E1 := hid ((E1.out.trans (Ext.alloc _ _)).trans j2); clear j1 j2; have u0 := (H1.out.eq (b := (blk w.heap.size #[.int .i64 (wd p), .int .i64 p.length, .slice A p.length c] 51 + (blk b3 #[.map (some gm)] 88 + (pts gm (.map #[] 0) + MS.all w)))) (by ac_rfl)).at_ (i := 0) rfl; have u1 := (H1.out.eq (b := (blk w.heap.size #[.int .i64 (wd p), .int .i64 p.length, .slice A p.length c] 51 + (blk b3 #[.map (some gm)] 88 + (pts gm (.map #[] 0) + MS.all w)))) (by ac_rfl)).at_ (i := 1) rfl; have u2 := (H1.out.eq (b := (blk w.heap.size #[.int .i64 (wd p), .int .i64 p.length, .slice A p.length c] 51 + (blk b3 #[.map (some gm)] 88 + (pts gm (.map #[] 0) + MS.all w)))) (by ac_rfl)).at_ (i := 2) rfl)
    | (refine wpList_run rfl _ _ (ex_makeMap rfl) ?_; obtain ⟨gm, hgm⟩ : ∃ gm, gm = (w.alloc (.cells #[.int .i64 (wd p), .int .i64 p.length, .slice A p.length c] 51)).heap.size := ⟨_, rfl⟩; have H1 := hid (show Has ((w.alloc (.cells #[.int .i64 (wd p), .int .i64 p.length, .slice A p.length c] 51)).alloc (.map #[] 0)) (pts gm (.map #[] 0) + (blk w.heap.size #[.int .i64 (wd p), .int .i64 p.length, .slice A p.length c] 51 + MS.all w)) by rw [hgm]; exact H0.out.alloc _); have E1 := hid (E0.out.trans (Ext.alloc _ (.map #[] 0))); rw [← hgm]; generalize (w.alloc (.cells #[.int .i64 (wd p), .int .i64 p.length, .slice A p.length c] 51)).alloc (.map #[] 0) = w1 at *; clear hgm; obtain ⟨b3, hb3⟩ : ∃ b3, b3 = w1.heap.size := ⟨_, rfl⟩; have HAb3 := hid (show Has (w1.alloc (.cells #[.map none] 88)) (blk b3 #[.map none] 88 + (pts gm (.map #[] 0) + (blk w.heap.size #[.int .i64 (wd p), .int .i64 p.length, .slice A p.length c] 51 + MS.all w))) by rw [hb3]; exact H1.out.alloc _); have Hb3 := hid hb3; clear hb3))
  clear H0 E0 H1 E1 HAb3
  go_loopw [12] (fun v12 wr => ∃ (k : Nat) (es2 : Array MapEntry) (clock2 : Nat), k ≤ nC ∧ v12 = .int .i64 k ∧ EntsAre (mE (matK p k)) es2 clock2 ∧ TInv p [] (matK p k) ∧ Has wr (pts gm (.map es2 clock2) + (blk b3 #[.map (some gm)] 88 + (mC + (blk w.heap.size #[.int .i64 (wd p), .int .i64 p.length, .slice A p.length c] 51 + MS.all w)))) ∧ Ext w wr) (fun v _ => nC - (intOf v).toNat)
  case atStart => exact ⟨0, #[], 0, Nat.zero_le _, rfl, EntsAre.none, TInv.nil p, H2.out.eq (by ac_rfl), E2.out⟩
  case round =>
    obtain ⟨k, es2, clock2, hk, rfl, hM, hI, hW, hE⟩ := hrel
    have HW := hid hW
    have HE := hid hE
    have HM := hid hM
    have HI := hid hI
    clear hW hE hM hI
    by_cases hlk : k < nC
    · have hlkI : (k : Int) < nC := by omega
      have Hk := hid hlk
      obtain ⟨q, hqk⟩ : ∃ q, (cellsL p)[k]? = some q := ⟨_, List.getElem?_eq_getElem (by rw [← HnC.out]; exact hlk)⟩
      obtain ⟨bn, on, hBn, n0, n1⟩ := HC.out.rd.getCl hqk
      subst hBn
      have hqin := Hin.out q (List.mem_of_getElem? hqk)
      have hsucc := hid (matK_succ hqk)
      obtain ⟨qx, qy⟩ := q
      have y0 := n0.c0 (HW.out.eq (b := mC + (pts gm (.map es2 clock2) + (blk b3 #[.map (some gm)] 88 + (blk w.heap.size #[.int .i64 (wd p), .int .i64 p.length, .slice A p.length c] 51 + MS.all w)))) (by ac_rfl)).left
      have y1 := n1.c0 (HW.out.eq (b := mC + (pts gm (.map es2 clock2) + (blk b3 #[.map (some gm)] 88 + (blk w.heap.size #[.int .i64 (wd p), .int .i64 p.length, .slice A p.length c] 51 + MS.all w)))) (by ac_rfl)).left
      simp only at y0 y1
      have hbl := hid (fun W => Hblk.out (qx, qy) hqin W)
      have Hqin := hid hqin
      clear hlk hk hqk n0 n1 hqin
      obtain ⟨b5, hb5⟩ : ∃ b5, b5 = wr.heap.size := ⟨_, rfl⟩; have HAb5 := hid (show Has (wr.alloc (.cells #[.int .i64 0, .int .i64 0] 66)) (blk b5 #[.int .i64 0, .int .i64 0] 66 + (pts gm (.map es2 clock2) + (blk b3 #[.map (some gm)] 88 + (mC + (blk w.heap.size #[.int .i64 (wd p), .int .i64 p.length, .slice A p.length c] 51 + MS.all w))))) by rw [hb5]; exact HW.out.alloc _); have Hb5 := hid hb5; clear hb5
      cases hb : blackB (qx, qy) with
      | false =>
        have hs2 := hid (show matK p (k + 1) = matK p k by rw [hsucc.out]; unfold stepM; rw [hb]; rfl)
        go_wp2_with (first
          | (go_at_call 38; have hq := hbl.out w41; rw [hb] at hq; refine (hq).mono ?_; rintro e51 w51 ⟨rfl, k51⟩; have H51 := hid (k51.1 _ H41.out); have E51 := hid (E41.out.trans k51.2); clear k51; clear hq z0 z1)
          | (rw [← Hb5.out]; refine wpList_store_whole rfl (.tmp 5) (.tmp 15) 66 rfl 2 size66 b5 (.agg #[.int .i64 qx, .int .i64 qy]) rfl rfl rfl (by simp [Value.cells, Value.oneCell']) #[.int .i64 0, .int .i64 0] 66 _ HAb5.out rfl ?_; intro w41 j1 j2; have H41 := hid (show Has w41 (blk b5 #[.int .i64 qx, .int .i64 qy] 66 + (pts gm (.map es2 clock2) + (blk b3 #[.map (some gm)] 88 + (mC + (blk w.heap.size #[.int .i64 (wd p), .int .i64 p.length, .slice A p.length c] 51 + MS.all w))))) from j1.eq (by unfold blk; ac_rfl)); have E41 := hid ((HE.out.trans (Ext.alloc _ _)).trans j2); clear j1 j2; clear y0 y1; have z0 := (H41.out.eq (b := (blk b5 #[.int .i64 qx, .int .i64 qy] 66 + (pts gm (.map es2 clock2) + (blk b3 #[.map (some gm)] 88 + (mC + (blk w.heap.size #[.int .i64 (wd p), .int .i64 p.length, .slice A p.length c] 51 + MS.all w)))))) (by ac_rfl)).at_ (i := 0) rfl; have z1 := (H41.out.eq (b := (blk b5 #[.int .i64 qx, .int .i64 qy] 66 + (pts gm (.map es2 clock2) + (blk b3 #[.map (some gm)] 88 + (mC + (blk w.heap.size #[.int .i64 (wd p), .int .i64 p.length, .slice A p.length c] 51 + MS.all w)))))) (by ac_rfl)).at_ (i := 1) rfl))
        clear hb
        go_roundw
        case rel => exact ⟨k + 1, es2, clock2, Hk.out, by go_num, by rw [hs2.out]; exact HM.out, by rw [hs2.out]; exact HI.out, (H51.out.eq (b := (pts gm (.map es2 clock2) + (blk b3 #[.map (some gm)] 88 + (mC + (blk w.heap.size #[.int .i64 (wd p), .int .i64 p.length, .slice A p.length c] 51 + MS.all w)))) + (blk b5 #[.int .i64 qx, .int .i64 qy] 66)) (by ac_rfl)).left, E51.out⟩
        case measure => have := Hk.out; simp [intOf]; omega
      | true =>
        have hs2 := hid (show matK p (k + 1) = (tryF p 65 [] (matK p k) (qx, qy)).2.2 by rw [hsucc.out]; unfold stepM; rw [hb]; rfl)
        have hi2 := hid (show TInv p [] (matK p (k + 1)) by rw [hsucc.out]; exact stepM_inv HI.out Hqin.out)
        go_wp2_with (first
          | (go_at_call 89; refine (Htry.out w.heap.size b6 b3 b7 gs gm (blk b7 #[.func (.func 89) #[] #[.pointer (some ⟨w.heap.size, 0, none⟩), .pointer (some ⟨b6, 0, none⟩), .pointer (some ⟨b3, 0, none⟩), .pointer (some ⟨b7, 0, none⟩)]] 67 + (blk b6 #[.map (some gs)] 83 + (blk b5 #[.int .i64 qx, .int .i64 qy] 66 + (blk b3 #[.map (some gm)] 88 + (mC + (blk w.heap.size #[.int .i64 (wd p), .int .i64 p.length, .slice A p.length c] 51 + MS.all w)))))) w62 (matK p k) es2 clock2 qx qy ⟨((((((Hra.out.more _).more _).more _).more _).more _).more _), ((((((Hfa.out.more _).more _).more _).more _).more _).more _), (((((((blk_at (i := 0) rfl).less _).more _).more _).more _).more _).more _), (((((((blk_at (i := 1) rfl).less _).more _).more _).more _).more _).more _), (((((((blk_at (i := 2) rfl).less _).more _).more _).more _).more _).more _), (((blk_at (i := 0) rfl).less _).more _), (((((blk_at (i := 0) rfl).less _).more _).more _).more _), ((blk_at (i := 0) rfl).less _)⟩ HI.out Hqin.out HM.out (H62.out.eq (b := pts gs (.map #[] 0) + (pts gm (.map es2 clock2) + (blk b7 #[.func (.func 89) #[] #[.pointer (some ⟨w.heap.size, 0, none⟩), .pointer (some ⟨b6, 0, none⟩), .pointer (some ⟨b3, 0, none⟩), .pointer (some ⟨b7, 0, none⟩)]] 67 + (blk b6 #[.map (some gs)] 83 + (blk b5 #[.int .i64 qx, .int .i64 qy] 66 + (blk b3 #[.map (some gm)] 88 + (mC + (blk w.heap.size #[.int .i64 (wd p), .int .i64 p.length, .slice A p.length c] 51 + MS.all w)))))))) (by ac_rfl))).mono ?_; rintro e63 w63 ⟨rfl, esR, clockR, esR2, clockR2, SR, MR, HR, ER⟩; have MR := hid MR; have HR := hid (show Has w63 (pts gs (.map esR clockR) + (pts gm (.map esR2 clockR2) + (blk b7 #[.func (.func 89) #[] #[.pointer (some ⟨w.heap.size, 0, none⟩), .pointer (some ⟨b6, 0, none⟩), .pointer (some ⟨b3, 0, none⟩), .pointer (some ⟨b7, 0, none⟩)]] 67 + (blk b6 #[.map (some gs)] 83 + (blk b5 #[.int .i64 qx, .int .i64 qy] 66 + (blk b3 #[.map (some gm)] 88 + (mC + (blk w.heap.size #[.int .i64 (wd p), .int .i64 p.length, .slice A p.length c] 51 + MS.all w)))))))) from HR); have ER := hid (E62.out.trans ER); clear SR z0 z1 z7)
          | (rw [← Hb7.out]; refine wpList_store_whole rfl (.tmp 7) (.tmp 20) 67 rfl 1 size67 b7 (.func (.func 89) #[] #[.pointer (some ⟨w.heap.size, 0, none⟩), .pointer (some ⟨b6, 0, none⟩), .pointer (some ⟨b3, 0, none⟩), .pointer (some ⟨b7, 0, none⟩)]) rfl rfl rfl (by simp [Value.cells, Value.oneCell']) #[.nilFunc] 67 _ HAb7.out rfl ?_; intro w62 j1 j2; have H62 := hid (show Has w62 (blk b7 #[.func (.func 89) #[] #[.pointer (some ⟨w.heap.size, 0, none⟩), .pointer (some ⟨b6, 0, none⟩), .pointer (some ⟨b3, 0, none⟩), .pointer (some ⟨b7, 0, none⟩)]] 67 + (blk b6 #[.map (some gs)] 83 + (pts gs (.map #[] 0) + (blk b5 #[.int .i64 qx, .int .i64 qy] 66 + (pts gm (.map es2 clock2) + (blk b3 #[.map (some gm)] 88 + (mC + (blk w.heap.size #[.int .i64 (wd p), .int .i64 p.length, .slice A p.length c] 51 + MS.all w)))))))) from j1.eq (by unfold blk; ac_rfl)); have E62 := hid ((E61.out.trans (Ext.alloc _ _)).trans j2); clear j1 j2; have z0 := (H62.out.eq (b := (blk b5 #[.int .i64 qx, .int .i64 qy] 66 + (blk b7 #[.func (.func 89) #[] #[.pointer (some ⟨w.heap.size, 0, none⟩), .pointer (some ⟨b6, 0, none⟩), .pointer (some ⟨b3, 0, none⟩), .pointer (some ⟨b7, 0, none⟩)]] 67 + (blk b6 #[.map (some gs)] 83 + (pts gs (.map #[] 0) + (pts gm (.map es2 clock2) + (blk b3 #[.map (some gm)] 88 + (mC + (blk w.heap.size #[.int .i64 (wd p), .int .i64 p.length, .slice A p.length c] 51 + MS.all w))))))))) (by ac_rfl)).at_ (i := 0) rfl; have z1 := (H62.out.eq (b := (blk b5 #[.int .i64 qx, .int .i64 qy] 66 + (blk b7 #[.func (.func 89) #[] #[.pointer (some ⟨w.heap.size, 0, none⟩), .pointer (some ⟨b6, 0, none⟩), .pointer (some ⟨b3, 0, none⟩), .pointer (some ⟨b7, 0, none⟩)]] 67 + (blk b6 #[.map (some gs)] 83 + (pts gs (.map #[] 0) + (pts gm (.map es2 clock2) + (blk b3 #[.map (some gm)] 88 + (mC + (blk w.heap.size #[.int .i64 (wd p), .int .i64 p.length, .slice A p.length c] 51 + MS.all w))))))))) (by ac_rfl)).at_ (i := 1) rfl; have z7 := (H62.out.eq (b := (blk b7 #[.func (.func 89) #[] #[.pointer (some ⟨w.heap.size, 0, none⟩), .pointer (some ⟨b6, 0, none⟩), .pointer (some ⟨b3, 0, none⟩), .pointer (some ⟨b7, 0, none⟩)]] 67 + (blk b6 #[.map (some gs)] 83 + (pts gs (.map #[] 0) + (blk b5 #[.int .i64 qx, .int .i64 qy] 66 + (pts gm (.map es2 clock2) + (blk b3 #[.map (some gm)] 88 + (mC + (blk w.heap.size #[.int .i64 (wd p), .int .i64 p.length, .slice A p.length c] 51 + MS.all w))))))))) (by ac_rfl)).at_ (i := 0) rfl)
          | (rw [← Hb6.out]; refine wpList_store_whole rfl (.tmp 6) (.tmp 19) 83 rfl 1 size83 b6 (.map (some gs)) rfl rfl rfl (by simp [Value.cells, Value.oneCell']) #[.map none] 83 _ HAb6.out rfl ?_; intro w61 j1 j2; have H61 := hid (show Has w61 (blk b6 #[.map (some gs)] 83 + (pts gs (.map #[] 0) + (blk b5 #[.int .i64 qx, .int .i64 qy] 66 + (pts gm (.map es2 clock2) + (blk b3 #[.map (some gm)] 88 + (mC + (blk w.heap.size #[.int .i64 (wd p), .int .i64 p.length, .slice A p.length c] 51 + MS.all w))))))) from j1.eq (by unfold blk; ac_rfl)); have E61 := hid ((E60.out.trans (Ext.alloc _ _)).trans j2); clear j1 j2; obtain ⟨b7, hb7⟩ : ∃ b7, b7 = w61.heap.size := ⟨_, rfl⟩; have HAb7 := hid (show Has (w61.alloc (.cells #[.nilFunc] 67)) (blk b7 #[.nilFunc] 67 + (blk b6 #[.map (some gs)] 83 + (pts gs (.map #[] 0) + (blk b5 #[.int .i64 qx, .int .i64 qy] 66 + (pts gm (.map es2 clock2) + (blk b3 #[.map (some gm)] 88 + (mC + (blk w.heap.size #[.int .i64 (wd p), .int .i64 p.length, .slice A p.length c] 51 + MS.all w)))))))) by rw [hb7]; exact H61.out.alloc _); have Hb7 := hid hb7; clear hb7)
          | (refine wpList_run rfl _ _ (ex_makeMap rfl) ?_; obtain ⟨gs, hgs⟩ : ∃ gs, gs = w51.heap.size := ⟨_, rfl⟩; have H60 := hid (show Has (w51.alloc (.map #[] 0)) (pts gs (.map #[] 0) + (blk b5 #[.int .i64 qx, .int .i64 qy] 66 + (pts gm (.map es2 clock2) + (blk b3 #[.map (some gm)] 88 + (mC + (blk w.heap.size #[.int .i64 (wd p), .int .i64 p.length, .slice A p.length c] 51 + MS.all w)))))) by rw [hgs]; exact H51.out.alloc _); have E60 := hid (E51.out.trans (Ext.alloc _ (.map #[] 0))); rw [← hgs]; generalize w51.alloc (.map #[] 0) = w60 at *; clear hgs; obtain ⟨b6, hb6⟩ : ∃ b6, b6 = w60.heap.size := ⟨_, rfl⟩; have HAb6 := hid (show Has (w60.alloc (.cells #[.map none] 83)) (blk b6 #[.map none] 83 + (pts gs (.map #[] 0) + (blk b5 #[.int .i64 qx, .int .i64 qy] 66 + (pts gm (.map es2 clock2) + (blk b3 #[.map (some gm)] 88 + (mC + (blk w.heap.size #[.int .i64 (wd p), .int .i64 p.length, .slice A p.length c] 51 + MS.all w))))))) by rw [hb6]; exact H60.out.alloc _); have Hb6 := hid hb6; clear hb6)
          | (go_at_call 38; have hq := hbl.out w41; rw [hb] at hq; refine (hq).mono ?_; rintro e51 w51 ⟨rfl, k51⟩; have H51 := hid (k51.1 _ H41.out); have E51 := hid (E41.out.trans k51.2); clear k51; clear hq z0 z1)
          | (rw [← Hb5.out]; refine wpList_store_whole rfl (.tmp 5) (.tmp 15) 66 rfl 2 size66 b5 (.agg #[.int .i64 qx, .int .i64 qy]) rfl rfl rfl (by simp [Value.cells, Value.oneCell']) #[.int .i64 0, .int .i64 0] 66 _ HAb5.out rfl ?_; intro w41 j1 j2; have H41 := hid (show Has w41 (blk b5 #[.int .i64 qx, .int .i64 qy] 66 + (pts gm (.map es2 clock2) + (blk b3 #[.map (some gm)] 88 + (mC + (blk w.heap.size #[.int .i64 (wd p), .int .i64 p.length, .slice A p.length c] 51 + MS.all w))))) from j1.eq (by unfold blk; ac_rfl)); have E41 := hid ((HE.out.trans (Ext.alloc _ _)).trans j2); clear j1 j2; clear y0 y1; have z0 := (H41.out.eq (b := (blk b5 #[.int .i64 qx, .int .i64 qy] 66 + (pts gm (.map es2 clock2) + (blk b3 #[.map (some gm)] 88 + (mC + (blk w.heap.size #[.int .i64 (wd p), .int .i64 p.length, .slice A p.length c] 51 + MS.all w)))))) (by ac_rfl)).at_ (i := 0) rfl; have z1 := (H41.out.eq (b := (blk b5 #[.int .i64 qx, .int .i64 qy] 66 + (pts gm (.map es2 clock2) + (blk b3 #[.map (some gm)] 88 + (mC + (blk w.heap.size #[.int .i64 (wd p), .int .i64 p.length, .slice A p.length c] 51 + MS.all w)))))) (by ac_rfl)).at_ (i := 1) rfl))
        clear hb
        go_roundw
        case rel => exact ⟨k + 1, esR2, clockR2, Hk.out, by go_num, by rw [hs2.out]; exact MR.out, hi2.out, (HR.out.eq (b := (pts gm (.map esR2 clockR2) + (blk b3 #[.map (some gm)] 88 + (mC + (blk w.heap.size #[.int .i64 (wd p), .int .i64 p.length, .slice A p.length c] 51 + MS.all w)))) + ((blk b7 #[.func (.func 89) #[] #[.pointer (some ⟨w.heap.size, 0, none⟩), .pointer (some ⟨b6, 0, none⟩), .pointer (some ⟨b3, 0, none⟩), .pointer (some ⟨b7, 0, none⟩)]] 67 + (blk b6 #[.map (some gs)] 83 + (pts gs (.map esR clockR) + blk b5 #[.int .i64 qx, .int .i64 qy] 66))))) (by ac_rfl)).left, ER.out⟩
        case measure => have := Hk.out; simp [intOf]; omega
    · have hke : k = nC := by omega
      subst hke
      have hfin := hid (show matK p k = matF p by unfold matK matF; rw [HnC.out, List.take_length])
      have u0 := HW.out.right.at_ (i := 0) rfl
      clear hlk hk
      go_wp2
      go_ret
      exact ⟨gm, es2, clock2, rfl, by rw [← hfin.out]; exact HM.out, fun M hM => (Has.with_all hM (HW.out.eq (b := (pts gm (.map es2 clock2) + (blk b3 #[.map (some gm)] 88 + (mC + blk w.heap.size #[.int .i64 (wd p), .int .i64 p.length, .slice A p.length c] 51))) + MS.all w) (by ac_rfl))).eq (b := (pts gm (.map es2 clock2) + M) + (blk b3 #[.map (some gm)] 88 + (mC + blk w.heap.size #[.int .i64 (wd p), .int .i64 p.length, .slice A p.length c] 51))) (by ac_rfl) |>.left, HE.out⟩
end Go.Proofs.YtcdhimnmbpllgaaDoor

namespace Go.Proofs.YtcdhimnmbpllgaaDoor
open Go.RowKit Go.MapKept Go.ChangeMaps
set_option linter.unusedVariables false
set_option linter.unusedSimpArgs false
set_option maxHeartbeats 2000000
set_option maxRecDepth 100000

def noM (MT : Mates) (q : Cl) : Bool := (lk2 MT q).isNone
theorem unm_any {F : MS} {b6 g : Nat} {w : World} {MT : Mates} {es : Array MapEntry} {clock : Nat} (h6 : F.at b6 0 (.map (some g))) (hM : EntsAre (mE MT) es clock) (hH : Has w (pts g (.map es clock) + F)) {q : Cl} (hq : small q) :
    Calls Tryd.prog 54 #[clV q, .pointer (some ⟨b6, 0, none⟩)] w fun e w' => e = .returned (.bool (noM MT q)) ∧ Kp w w' := by
  obtain ⟨qx, qy⟩ := q
  have HA := hid (show Has (w.alloc (.cells #[.int .i64 qx, .int .i64 qy] 66)) (blk w.heap.size #[.int .i64 qx, .int .i64 qy] 66 + MS.all w) from (Has.all w).alloc _)
  have HE := hid (Ext.alloc w (.cells #[.int .i64 qx, .int .i64 qy] 66))
  have hin := hH.of_all HA.out
  have f0 := h6.c0 hin.right
  have hlk := hM.look2 pair66 und88 (zero66 (w.alloc (.cells #[.int .i64 qx, .int .i64 qy] 66))) hin.get hq
  rw [lkM_mE] at hlk
  obtain ⟨r, hr⟩ : ∃ r, r = noM MT (qx, qy) := ⟨_, rfl⟩
  rw [← hr]
  have Hr := hid hr
  clear hr
  show Calls Tryd.prog 54 #[.agg #[.int .i64 qx, .int .i64 qy], .pointer (some ⟨b6, 0, none⟩)] w _
  cases hl : lk2 MT (qx, qy) with
  | none =>
    rw [hl] at hlk
    have Hl := hid (show (Instr.lookup 88 (.map (some g)) (.agg #[.int .i64 qx, .int .i64 qy]) true).run Tryd.prog (w.alloc (.cells #[.int .i64 qx, .int .i64 qy] 66)) = .ok (.tuple #[.agg #[.int .i64 0, .int .i64 0], .bool false]) (w.alloc (.cells #[.int .i64 qx, .int .i64 qy] 66)) from hlk)
    have HB := hid (show Has ((w.alloc (.cells #[.int .i64 qx, .int .i64 qy] 66)).alloc (.cells #[.int .i64 0, .int .i64 0] 66)) (blk (w.heap.size + 1) #[.int .i64 0, .int .i64 0] 66 + (blk w.heap.size #[.int .i64 qx, .int .i64 qy] 66 + MS.all w)) by
      have h := HA.out.alloc (.cells #[.int .i64 0, .int .i64 0] 66)
      rw [show (w.alloc (.cells #[.int .i64 qx, .int .i64 qy] 66)).heap.size = w.heap.size + 1 by simp] at h
      exact h)
    have hres := hid (show r = true by rw [Hr.out]; unfold noM; rw [hl]; rfl)
    clear h6 hH hq hin hlk hM hl
    go_enter Tryd.func54, Tryd.ntmps54
    go_wp2_with (first
      | (refine wpList_run rfl _ _ (ex_look rfl Hl.out) ?_)
      | (refine wpList_store_whole rfl (.tmp 4) (.tmp 10) 66 rfl 2 size66 (w.heap.size + 1) (.agg #[.int .i64 0, .int .i64 0]) rfl rfl rfl (by simp [Value.cells, Value.oneCell']) #[.int .i64 0, .int .i64 0] 66 _ HB.out rfl ?_; intro w5 j1 j2; have H5 := hid j1; have E5 := hid ((HE.out.trans (Ext.alloc _ _)).trans j2); clear j1 j2))
    go_ret
    exact ⟨by rw [hres.out]; rfl, fun M hM => hM.of_all (H5.out.right), E5.out⟩
  | some b =>
    obtain ⟨bx, by'⟩ := b
    rw [hl] at hlk
    have Hl := hid (show (Instr.lookup 88 (.map (some g)) (.agg #[.int .i64 qx, .int .i64 qy]) true).run Tryd.prog (w.alloc (.cells #[.int .i64 qx, .int .i64 qy] 66)) = .ok (.tuple #[.agg #[.int .i64 bx, .int .i64 by'], .bool true]) (w.alloc (.cells #[.int .i64 qx, .int .i64 qy] 66)) from hlk)
    have HB := hid (show Has ((w.alloc (.cells #[.int .i64 qx, .int .i64 qy] 66)).alloc (.cells #[.int .i64 0, .int .i64 0] 66)) (blk (w.heap.size + 1) #[.int .i64 0, .int .i64 0] 66 + (blk w.heap.size #[.int .i64 qx, .int .i64 qy] 66 + MS.all w)) by
      have h := HA.out.alloc (.cells #[.int .i64 0, .int .i64 0] 66)
      rw [show (w.alloc (.cells #[.int .i64 qx, .int .i64 qy] 66)).heap.size = w.heap.size + 1 by simp] at h
      exact h)
    have hres := hid (show r = false by rw [Hr.out]; unfold noM; rw [hl]; rfl)
    clear h6 hH hq hin hlk hM hl
    go_enter Tryd.func54, Tryd.ntmps54
    go_wp2_with (first
      | (refine wpList_run rfl _ _ (ex_look rfl Hl.out) ?_)
      | (refine wpList_store_whole rfl (.tmp 4) (.tmp 10) 66 rfl 2 size66 (w.heap.size + 1) (.agg #[.int .i64 bx, .int .i64 by']) rfl rfl rfl (by simp [Value.cells, Value.oneCell']) #[.int .i64 0, .int .i64 0] 66 _ HB.out rfl ?_; intro w5 j1 j2; have H5 := hid j1; have E5 := hid ((HE.out.trans (Ext.alloc _ _)).trans j2); clear j1 j2))
    go_ret
    exact ⟨by rw [hres.out]; rfl, fun M hM => hM.of_all (H5.out.right), E5.out⟩
/-- The first cell without a mate. -/
def idxM (MT : Mates) (l : List Cl) : Int := match l.findIdx? (noM MT) with
  | some i => i
  | none => -1
theorem idxM_at {MT : Mates} {l : List Cl} {i : Nat} {q : Cl} (hq : l[i]? = some q) (h : noM MT q = true) (hno : ∀ (j : Nat) k, j < i → l[j]? = some k → noM MT k = false) : idxM MT l = i := by
  unfold idxM
  have : l.findIdx? (noM MT) = some i := by
    rw [List.findIdx?_eq_some_iff_getElem]
    have hl := (List.getElem?_eq_some_iff.1 hq).1
    refine ⟨hl, ?_, fun j hj => ?_⟩
    · rw [List.getElem?_eq_getElem hl] at hq
      injection hq with hq
      rw [hq]; exact h
    · have := hno j _ hj (List.getElem?_eq_getElem (by omega))
      rw [this]; decide
  rw [this]
theorem idxM_no {MT : Mates} {l : List Cl} (hno : ∀ (j : Nat) k, j < l.length → l[j]? = some k → noM MT k = false) : idxM MT l = -1 := by
  unfold idxM
  have : l.findIdx? (noM MT) = none := by
    rw [List.findIdx?_eq_none_iff]
    intro k hk
    obtain ⟨j, hj, rfl⟩ := List.getElem_of_mem hk
    exact hno j _ hj (List.getElem?_eq_getElem hj)
  rw [this]
theorem idxf_any {F : MS} {b6 g : Nat} {w : World} {MT : Mates} {es : Array MapEntry} {clock : Nat} {l : List Cl} {A : Option Addr} {c : Nat} (hr : RdS F RT.cl l (.slice A l.length c)) (hl : l.length ≤ 1000) (h6 : F.at b6 0 (.map (some g))) (hM : EntsAre (mE MT) es clock) (hH : Has w (pts g (.map es clock) + F)) (hs : ∀ q ∈ l, small q) :
    Calls Tryd.prog 53 #[.slice A l.length c, .func (.func 54) #[] #[.pointer (some ⟨b6, 0, none⟩)]] w fun e w' => e = .returned (.int .i64 (idxM MT l)) ∧ Kp w w' := by
  have Hc := hid (fun (W : World) (h : Has W (pts g (.map es clock) + F)) (q : Cl) (hq : q ∈ l) => show Calls Tryd.prog 54 #[.agg #[.int .i64 q.1, .int .i64 q.2], .pointer (some ⟨b6, 0, none⟩)] W fun e w' => e = .returned (.bool (noM MT q)) ∧ Kp W w' from unm_any h6 hM h (hs q hq))
  have Hr := hid hr
  have HH := hid hH
  have hNc := hr.cells.2.1
  obtain ⟨N, hN⟩ : ∃ N, N = l.length := ⟨_, rfl⟩
  rw [← hN] at Hr hNc hl ⊢
  have HN := hid hN
  have hNI : (N : Int) ≤ 1000 := by omega
  obtain ⟨rr, hrr⟩ : ∃ rr, rr = idxM MT l := ⟨_, rfl⟩
  rw [← hrr]
  have Hrr := hid hrr
  clear hr hH hN hl hrr h6 hM hs
  go_enter Tryd.func53, Tryd.ntmps53
  go_wp2
  go_loopw [8] (fun v wr => ∃ i : Nat, i ≤ N ∧ v = .int .i64 i ∧ (∀ (j : Nat) k, j < i → l[j]? = some k → noM MT k = false) ∧ Kp w wr) (fun v _ => N - (intOf v).toNat)
  case atStart => exact ⟨0, Nat.zero_le _, rfl, fun j k h => by omega, Kp.refl w⟩
  case round =>
    obtain ⟨i, hi, rfl, hno, hK⟩ := hrel
    have Hno := hid hno
    have HK := hid hK
    clear hno hK
    by_cases hlt : i < N
    · have hltI : (i : Int) < N := by omega
      obtain ⟨k, hk⟩ : ∃ k, l[i]? = some k := ⟨_, List.getElem?_eq_getElem (by rw [← HN.out]; exact hlt)⟩
      have HF := HK.out.1 _ HH.out
      have hcall := hid (Hc.out wr HF k (List.mem_of_getElem? hk))
      obtain ⟨ka, kb⟩ := k
      obtain ⟨bq, oq, hA, e0, e1⟩ := Hr.out.getCl hk
      subst hA
      have g0 := e0.c0 HF.right
      have g1 := e1.c0 HF.right
      simp only at g0 g1 hcall
      have Hlt := hid hlt
      have Hki := hid hk
      cases hq : noM MT (ka, kb) with
      | true =>
        rw [hq] at hcall
        have hres := hid (show rr = i by rw [Hrr.out]; exact idxM_at Hki.out hq Hno.out)
        clear HF hlt hk e0 e1 hq
        go_wp2_with (go_at_call 54; refine hcall.out.mono ?_; rintro e5 w5 ⟨rfl, k5⟩; have K5 := hid (HK.out.trans k5); clear k5)
        go_ret
        exact ⟨by rw [hres.out]; rfl, K5.out⟩
      | false =>
        rw [hq] at hcall
        have Hq := hid hq
        clear HF hlt hk e0 e1 hq
        go_wp2_with (go_at_call 54; refine hcall.out.mono ?_; rintro e5 w5 ⟨rfl, k5⟩; have K5 := hid (HK.out.trans k5); clear k5)
        go_roundw
        case rel => exact ⟨i + 1, Hlt.out, by go_num, fun j k h hk => by
          by_cases hji : j = i
          · subst hji
            rw [Hki.out] at hk
            injection hk with hk
            rw [← hk]; exact Hq.out
          · exact Hno.out j k (by omega) hk, K5.out⟩
        case measure => have := Hlt.out; simp [intOf]; omega
    · have hie : i = N := by omega
      subst hie
      have hres := hid (show rr = -1 by rw [Hrr.out]; exact idxM_no fun j k hj => Hno.out j k (by rw [HN.out]; exact hj))
      clear hlt
      go_wp2
      go_ret
      exact ⟨by rw [hres.out]; rfl, HK.out⟩
theorem idxC_mem' {l : List Cl} {q : Cl} : decide (0 ≤ idxC l q) = decide (q ∈ l) := by
  by_cases h : q ∈ l
  · rw [decide_eq_true h]
    unfold idxC
    cases hf : l.findIdx? (fun x => decide (x = q)) with
    | some i => exact decide_eq_true (by simp only; omega)
    | none =>
      rw [List.findIdx?_eq_none_iff] at hf
      have := hf q h
      simp at this
  · rw [decide_eq_false h]
    unfold idxC
    have : l.findIdx? (fun x => decide (x = q)) = none := by
      rw [List.findIdx?_eq_none_iff]
      intro x hx
      exact decide_eq_false (fun e => h (e ▸ hx))
    rw [this]; rfl
theorem containsC_any {F : MS} {l : List Cl} {A : Option Addr} {c : Nat} {w : World} (hr : RdS F RT.cl l (.slice A l.length c)) (hl : l.length ≤ 1000) (hH : Has w F) (a b : Int) :
    Calls Tryd.prog 55 #[.slice A l.length c, .agg #[.int .i64 a, .int .i64 b]] w fun e w' => e = .returned (.bool (decide ((a, b) ∈ l))) ∧ Kp w w' := by
  have HA := hid (show Has (w.alloc (.cells #[.int .i64 a, .int .i64 b] 66)) (blk w.heap.size #[.int .i64 a, .int .i64 b] 66 + MS.all w) from (Has.all w).alloc _)
  have HE := hid (Ext.alloc w (.cells #[.int .i64 a, .int .i64 b] 66))
  have Hix := hid (show Calls Tryd.prog 40 #[.slice A l.length c, .agg #[.int .i64 a, .int .i64 b]] _ _ from cindex_any hr hl (hH.of_all HA.out) (a, b))
  have hd := idxC_mem' (l := l) (q := (a, b))
  obtain ⟨r, hre⟩ : ∃ r, r = decide ((a, b) ∈ l) := ⟨_, rfl⟩
  rw [← hre] at hd ⊢
  obtain ⟨ix, hix⟩ : ∃ ix, ix = idxC l (a, b) := ⟨_, rfl⟩
  rw [← hix] at hd Hix
  have Hd := hid hd
  have z0 := HA.out.at_ (i := 0) rfl
  have z1 := HA.out.at_ (i := 1) rfl
  clear hr hl hH hix hre hd
  by_cases h : 0 ≤ ix
  · have hge : ix ≥ 0 := h
    have hr := hid (show r = true by rw [← Hd.out]; exact decide_eq_true h)
    go_enter Tryd.func55, Tryd.ntmps55
    go_wp2_with (go_at_call 40; refine Hix.out.mono ?_; rintro e5 w5 ⟨rfl, k5⟩; have K5 := hid k5; clear k5)
    go_ret
    exact ⟨by rw [hr.out]; first | rfl | simp [h], fun M hM => hM.of_all (K5.out.1 _ HA.out), HE.out.trans K5.out.2⟩
  · have hge : ¬ (ix ≥ 0) := h
    have hr := hid (show r = false by rw [← Hd.out]; exact decide_eq_false h)
    go_enter Tryd.func55, Tryd.ntmps55
    go_wp2_with (go_at_call 40; refine Hix.out.mono ?_; rintro e5 w5 ⟨rfl, k5⟩; have K5 := hid k5; clear k5)
    go_ret
    exact ⟨by rw [hr.out]; first | rfl | simp [h], fun M hM => hM.of_all (K5.out.1 _ HA.out), HE.out.trans K5.out.2⟩
end Go.Proofs.YtcdhimnmbpllgaaDoor

/-
  The walk of name where something is mirrored and there are turns.
-/
import Derived.Test.YteibbnmlmbhkpaaDoorPName
namespace Go.Proofs.YteibbnmlmbhkpaaDoor
open Go.RowKit
set_option linter.unusedVariables false
set_option linter.unusedSimpArgs false
set_option maxHeartbeats 2000000
set_option maxRecDepth 100000

theorem KinOk.all {F : MS} {w : World} (h : KinOk F) (hH : Has w F) : KinOk (MS.all w) := fun i k hi j v hj => at_all (h i k hi j v hj) hH
theorem PGr.all' {F : MS} {p : List ByteArray} {g : Gd} {gb : Nat} {w : World} (h : PGr F p g gb) (hH : Has w F) : PGr (MS.all w) p g gb :=
  ⟨h.pok, h.lat, at_all h.c0 hH, at_all h.c1 hH, at_all h.c2 hH, fun k e f h1 h2 h3 => at_all (h.own k e f h1 h2 h3) hH, by
    obtain ⟨A, c, h1, h2⟩ := h.all
    exact ⟨A, c, at_all h1 hH, rd_all (F := F) (T := RT.mv) (fun _ _ h => h) h2 hH⟩⟩
theorem LnV.all {F : MS} {v : Value} {pr : Int → Prop} {w : World} (h : LnV F v pr) (hH : Has w F) : LnV (MS.all w) v pr := by
  obtain ⟨g, S, es, clock, h1, h2, h3⟩ := h
  exact ⟨g, S, es, clock, h1, hH.obj h2, h3⟩
theorem Lns.all' {F : MS} {p : List ByteArray} {g : Gd} {lb : Nat} {w : World} (h : Lns F p g lb) (hH : Has w F) : Lns (MS.all w) p g lb :=
  ⟨fun k h1 h2 => by obtain ⟨v, a, b⟩ := h.mir k h1 h2; exact ⟨v, at_all a hH, b.all hH⟩, fun k h1 h2 => by obtain ⟨v, a, b⟩ := h.all k h1 h2; exact ⟨v, at_all a hH, b.all hH⟩⟩
theorem Lns.more {F : MS} {p : List ByteArray} {g : Gd} {lb : Nat} (h : Lns F p g lb) (X : MS) : Lns (X + F) p g lb :=
  ⟨fun k h1 h2 => by obtain ⟨v, a, b⟩ := h.mir k h1 h2; exact ⟨v, a.more X, b.more X⟩, fun k h1 h2 => by obtain ⟨v, a, b⟩ := h.all k h1 h2; exact ⟨v, a.more X, b.more X⟩⟩
/-- What is known behind lines. -/
structure Lin (p : List ByteArray) (g : Gd) (gb lb lv : Nat) (w w1 : World) : Prop where
  lns : Lns (MS.all w1) p g lb
  grp : PGr (MS.all w1) p g gb
  kin : KinOk (MS.all w1)
  kp : Kp w w1
theorem lines_lin {F : MS} {p : List ByteArray} {g : Gd} {gb : Nat} {w : World} (h : PGr F p g gb) (hk : KinOk F) (hH : Has w F) :
    Calls Tryd.prog 63 #[.pointer (some ⟨gb, 0, none⟩)] w fun e w' => ∃ lb, e = .returned (.pointer (some ⟨lb, 0, none⟩)) ∧ Lin p g gb lb 0 w w' :=
  (lines_any h hk hH).mono fun e w' ⟨lb, X, h1, h2, h3, h4⟩ => ⟨lb, h1, h2.all' h3, h.all' (h4.1 _ hH), hk.all (h4.1 _ hH), h4⟩
theorem Lin.end {p : List ByteArray} {g : Gd} {gb lb lv bl bn bs : Nat} {w w1 W : World} {n s : Bool} (h : Lin p g gb lb lv w w1) (hW : Has W (Flg bn bs n s (blk bl #[.pointer (some ⟨lb, 0, none⟩)] 104 + MS.all w1))) (hE : Ext w1 W) : Kp w W :=
  ⟨fun M hM => (h.kp.1 M hM).of_all (X := blk bn #[.bool n] 4 + (blk bs #[.bool s] 4 + blk bl #[.pointer (some ⟨lb, 0, none⟩)] 104)) (hW.eq (by unfold Flg; ac_rfl)), h.kp.2.trans hE⟩
theorem centres_lit {p : List ByteArray} {g : Gd} {gb lb lv bl bn bs : Nat} {w w1 W : World} (h : Lin p g gb lb lv w w1) (k : Nat) (kI : Int) (hkI : kI = k) (hk12 : k = 1 ∨ k = 2) (hW : Has W (Flg bn bs true true (blk bl #[.pointer (some ⟨lb, 0, none⟩)] 104 + MS.all w1))) :
    Calls Tryd.prog 66 #[.pointer (some ⟨gb, 0, none⟩), .int .i64 kI, .func (.func 67) #[] #[.pointer (some ⟨bl, 0, none⟩), .pointer (some ⟨bn, 0, none⟩), .pointer (some ⟨bs, 0, none⟩)]] W fun e w' => e = .returned (.tuple #[]) ∧ (∃ n s, (n = false ↔ ctr p g k (onP p g)) ∧ (s = false ↔ ctr p g k fun x y => ¬ onP p g x y) ∧ Has w' (Flg bn bs n s (blk bl #[.pointer (some ⟨lb, 0, none⟩)] 104 + MS.all w1))) ∧ Ext W w' := by
  subst hkI
  exact centres_any (h.grp.more _) (h.kin.more _) (h.lns.more _) (MS.at.less (blk_at rfl) _) k hk12 hW
theorem name_four {F : MS} {p : List ByteArray} {g : Gd} {gb : Nat} {w : World} (h : PGr F p g gb) (hk : KinOk F) (hsome : anyL p g) (h4 : ordOf (symL p g) = 4) (hH : Has w F) :
    Calls Tryd.prog 38 #[.pointer (some ⟨gb, 0, none⟩)] w fun e w' => e = .returned (.string (nameOf p g)) ∧ Kp w w' := by
  have Hlines := hid (lines_lin h hk hH)
  have Hsome := hid hsome
  obtain ⟨r, hr⟩ : ∃ r, r = ordOf (symL p g) := ⟨_, rfl⟩
  have hr4 : (r == 4) = true := by rw [hr, h4]; rfl
  have h1r : 1 < r := by rw [hr, h4]; omega
  have Hr := hid hr
  obtain ⟨nm, hnm⟩ : ∃ nm, nm = nameOf p g := ⟨_, rfl⟩
  have Hon := hid (show ctr p g 1 (onP p g) → nm = txt [112, 52, 109] from fun hc => by rw [hnm]; unfold nameOf; simp only; rw [if_neg (fun hh => hh hsome), if_pos h4, if_pos hc])
  have Hof := hid (show ¬ ctr p g 1 (onP p g) → nm = txt [112, 52, 103] from fun hc => by rw [hnm]; unfold nameOf; simp only; rw [if_neg (fun hh => hh hsome), if_pos h4, if_neg hc])
  rw [← hnm]
  clear h hk hsome h4 hH hr hnm
  go_enter Tryd.func38, Tryd.ntmps38
  go_wp2_with (first
    | (go_at_call 63; refine Hlines.out.mono ?_; rintro e1 w1 ⟨lb, rfl, hL⟩; have HL := hid hL; have HA := hid (show Has (w1.alloc (.cells #[.pointer (some ⟨lb, 0, none⟩)] 104)) (blk w1.heap.size #[.pointer (some ⟨lb, 0, none⟩)] 104 + MS.all w1) from (Has.all w1).alloc _); clear hL)
    | (go_at_call 69; refine (directions_any (HL.out.lns.more _) K7.out.right.right).mono ?_; rintro e8 w8 ⟨rfl, hw⟩; rw [hw]; clear hw)
    | (go_at_call 65; refine (any_any (HL.out.lns.more _) HA2.out).mono ?_; rintro e3 w3 ⟨⟨q, rfl, hq⟩, hw⟩; rw [hw]; have hqf : q = true := hq.2 Hsome.out; subst hqf; clear hw hq; have HA3 := hid (show Has ((w2.alloc (.cells #[.bool true] 4)).alloc (.cells #[.bool true] 4)) (blk (w2.heap.size + 1) #[.bool true] 4 + (blk w2.heap.size #[.bool true] 4 + (blk w1.heap.size #[.pointer (some ⟨lb, 0, none⟩)] 104 + MS.all w1))) from by have := (HA2.out.alloc (.cells #[.bool true] 4)).alloc (.cells #[.bool true] 4); rw [show (w2.alloc (.cells #[.bool true] 4)).heap.size = w2.heap.size + 1 by simp] at this; exact this))
    | (go_at_call 66; refine (centres_lit HL.out 1 1 rfl (.inl rfl) (HA3.out.eq (by unfold Flg; ac_rfl))).mono ?_; rintro e6 w6 ⟨rfl, ⟨n, s, hn, hs, hW⟩, hE⟩; have Hn := hid hn; have K7 := hid hW; have E7 := hid ((((E2.out.trans (Ext.alloc _ _)).trans (Ext.alloc _ _))).trans hE); clear hn hs hW hE; have f5 : w6.cell? ⟨w2.heap.size, 0, none⟩ = some (.bool n) := K7.out.at_ rfl; have f6 : w6.cell? ⟨w1.heap.size, 0, none⟩ = some (.pointer (some ⟨lb, 0, none⟩)) := K7.out.right.right.at_ rfl)
    | (go_at_call 64; refine (order_any (HL.out.grp.more _) (HL.out.kin.more _) HA.out).mono ?_; rintro e2 w2 ⟨rfl, k2⟩; rw [← Hr.out]; have K2 := hid k2; have HA2 := hid (k2.1 _ HA.out); have E2 := hid ((Ext.alloc w1 _).trans k2.2); have f3 : w2.cell? ⟨w1.heap.size, 0, none⟩ = some (.pointer (some ⟨lb, 0, none⟩)) := HA2.out.at_ rfl; clear k2))
  · rename_i hn
    have hn' : n = false := by simpa using hn
    go_ret
    exact ⟨by rw [Hon.out (Hn.out.1 hn')]; rfl, HL.out.end K7.out E7.out⟩
  · rename_i hn
    have hn' : n = true := by simpa using hn
    go_ret
    exact ⟨by rw [Hof.out (fun h => by rw [Hn.out.2 h] at hn'; cases hn')]; rfl, HL.out.end K7.out E7.out⟩
theorem name_two {F : MS} {p : List ByteArray} {g : Gd} {gb : Nat} {w : World} (h : PGr F p g gb) (hk : KinOk F) (hsome : anyL p g) (h4 : ordOf (symL p g) = 2) (hH : Has w F) :
    Calls Tryd.prog 38 #[.pointer (some ⟨gb, 0, none⟩)] w fun e w' => e = .returned (.string (nameOf p g)) ∧ Kp w w' := by
  have Hlines := hid (lines_lin h hk hH)
  have Hsome := hid hsome
  obtain ⟨r, hr⟩ : ∃ r, r = ordOf (symL p g) := ⟨_, rfl⟩
  have hr4 : (r == 2) = true := by rw [hr, h4]; rfl
  have h1r : 1 < r := by rw [hr, h4]; omega
  have Hr := hid hr
  obtain ⟨nm, hnm⟩ : ∃ nm, nm = nameOf p g := ⟨_, rfl⟩
  obtain ⟨d, hd⟩ : ∃ d, d = dirN p g 8 := ⟨_, rfl⟩
  have Hd := hid hd
  have N0 := hid (show d = 0 → nm = txt [112, 103, 103] from fun hc => by rw [hnm]; unfold nameOf; simp only; rw [if_neg (fun hh => hh hsome), if_neg (by rw [h4]; omega), if_pos h4, if_pos (by rw [← hd]; exact hc)])
  have N1 := hid (show d = 1 → nm = txt [112, 109, 103] from fun hc => by rw [hnm]; unfold nameOf; simp only; rw [if_neg (fun hh => hh hsome), if_neg (by rw [h4]; omega), if_pos h4, if_neg (by rw [← hd]; omega), if_pos (by rw [← hd]; exact hc)])
  have N2 := hid (show d ≠ 0 → d ≠ 1 → ctr p g 2 (fun x y => ¬ onP p g x y) → nm = txt [99, 109, 109] from fun h0 h1 hc => by rw [hnm]; unfold nameOf; simp only; rw [if_neg (fun hh => hh hsome), if_neg (by rw [h4]; omega), if_pos h4, if_neg (by rw [← hd]; omega), if_neg (by rw [← hd]; omega), if_pos hc])
  have N3 := hid (show d ≠ 0 → d ≠ 1 → ¬ ctr p g 2 (fun x y => ¬ onP p g x y) → nm = txt [112, 109, 109] from fun h0 h1 hc => by rw [hnm]; unfold nameOf; simp only; rw [if_neg (fun hh => hh hsome), if_neg (by rw [h4]; omega), if_pos h4, if_neg (by rw [← hd]; omega), if_neg (by rw [← hd]; omega), if_neg hc])
  rw [← hnm]
  clear h hk hsome h4 hH hr hnm hd
  go_enter Tryd.func38, Tryd.ntmps38
  go_wp2_with (first
    | (go_at_call 63; refine Hlines.out.mono ?_; rintro e1 w1 ⟨lb, rfl, hL⟩; have HL := hid hL; have HA := hid (show Has (w1.alloc (.cells #[.pointer (some ⟨lb, 0, none⟩)] 104)) (blk w1.heap.size #[.pointer (some ⟨lb, 0, none⟩)] 104 + MS.all w1) from (Has.all w1).alloc _); clear hL)
    | (go_at_call 69; refine (directions_any (HL.out.lns.more _) K7.out.right.right).mono ?_; rintro e8 w8 ⟨rfl, hw⟩; rw [hw, ← Hd.out]; clear hw)
    | (go_at_call 65; refine (any_any (HL.out.lns.more _) HA2.out).mono ?_; rintro e3 w3 ⟨⟨q, rfl, hq⟩, hw⟩; rw [hw]; have hqf : q = true := hq.2 Hsome.out; subst hqf; clear hw hq; have HA3 := hid (show Has ((w2.alloc (.cells #[.bool true] 4)).alloc (.cells #[.bool true] 4)) (blk (w2.heap.size + 1) #[.bool true] 4 + (blk w2.heap.size #[.bool true] 4 + (blk w1.heap.size #[.pointer (some ⟨lb, 0, none⟩)] 104 + MS.all w1))) from by have := (HA2.out.alloc (.cells #[.bool true] 4)).alloc (.cells #[.bool true] 4); rw [show (w2.alloc (.cells #[.bool true] 4)).heap.size = w2.heap.size + 1 by simp] at this; exact this))
    | (go_at_call 66; refine (centres_lit HL.out 2 2 rfl (.inr rfl) (HA3.out.eq (by unfold Flg; ac_rfl))).mono ?_; rintro e6 w6 ⟨rfl, ⟨n, s, hn, hs, hW⟩, hE⟩; have hs2 := hs; have K7 := hid hW; have E7 := hid ((((E2.out.trans (Ext.alloc _ _)).trans (Ext.alloc _ _))).trans hE); clear hn hs hW hE; have f5 : w6.cell? ⟨w2.heap.size, 0, none⟩ = some (.bool n) := K7.out.at_ rfl; have Hs := hid hs2; clear hs2; have f7 : w6.cell? ⟨w2.heap.size + 1, 0, none⟩ = some (.bool s) := (K7.out.eq (b := blk (w2.heap.size + 1) #[.bool s] 4 + (blk w2.heap.size #[.bool n] 4 + (blk w1.heap.size #[.pointer (some ⟨lb, 0, none⟩)] 104 + MS.all w1))) (by unfold Flg; ac_rfl)).at_ rfl; have f6 : w6.cell? ⟨w1.heap.size, 0, none⟩ = some (.pointer (some ⟨lb, 0, none⟩)) := K7.out.right.right.at_ rfl)
    | (go_at_call 64; refine (order_any (HL.out.grp.more _) (HL.out.kin.more _) HA.out).mono ?_; rintro e2 w2 ⟨rfl, k2⟩; rw [← Hr.out]; have K2 := hid k2; have HA2 := hid (k2.1 _ HA.out); have E2 := hid ((Ext.alloc w1 _).trans k2.2); have f3 : w2.cell? ⟨w1.heap.size, 0, none⟩ = some (.pointer (some ⟨lb, 0, none⟩)) := HA2.out.at_ rfl; clear k2))
  · rename_i h0
    have h0' : d = 0 := by simpa using h0
    go_ret
    exact ⟨by rw [N0.out h0']; rfl, HL.out.end K7.out E7.out⟩
  · rename_i h0 h1
    have h1' : d = 1 := by have := beq_iff_eq.1 h1; omega
    go_ret
    exact ⟨by rw [N1.out h1']; rfl, HL.out.end K7.out E7.out⟩
  · rename_i h0 h1 h2
    have h0' : d ≠ 0 := by have := beq_eq_false_iff_ne.1 h0; omega
    have h1' : d ≠ 1 := by have := beq_eq_false_iff_ne.1 h1; omega
    have h2' : ¬ ctr p g 2 (fun x y => ¬ onP p g x y) := fun hc => by rw [Hs.out.2 hc] at h2; cases h2
    go_ret
    exact ⟨by rw [N3.out h0' h1' h2']; rfl, HL.out.end K7.out E7.out⟩
  · rename_i h0 h1 h2
    have h0' : d ≠ 0 := by have := beq_eq_false_iff_ne.1 h0; omega
    have h1' : d ≠ 1 := by have := beq_eq_false_iff_ne.1 h1; omega
    have h2' : ctr p g 2 (fun x y => ¬ onP p g x y) := Hs.out.1 (by simpa using h2)
    go_ret
    exact ⟨by rw [N2.out h0' h1' h2']; rfl, HL.out.end K7.out E7.out⟩
end Go.Proofs.YteibbnmlmbhkpaaDoor

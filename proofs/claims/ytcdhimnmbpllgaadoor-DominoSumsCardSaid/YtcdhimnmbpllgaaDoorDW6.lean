/-
  The walk of from.
-/
import Derived.Test.YtcdhimnmbpllgaaDoorDW3
import Derived.Test.YtcdhimnmbpllgaaDoorDW4
import Derived.Test.YtcdhimnmbpllgaaDoorDMemo
namespace Go.Proofs.YtcdhimnmbpllgaaDoor
open Go.RowKit Go.MapKept Go.ChangeMaps
set_option linter.unusedVariables false
set_option linter.unusedSimpArgs false
set_option maxHeartbeats 4000000
set_option maxRecDepth 100000

/-- The next states, and how many ways each has. -/
def nxA (p : List ByteArray) (at' cov i : Nat) : Nat × Nat :=
  if i = 0 then (if rightD (wd p) (hsR p) at' cov then (at' + 1, cov / 2 ||| 1) else (0, 0))
  else if i = 1 then (if downD (wd p) (hsR p) at' cov then (at' + 1, cov / 2 ||| 2 ^ (wd p - 1)) else (0, 0))
  else (if freeD (wd p) (hsR p) at' cov then (0, 0) else (at' + 1, cov / 2))
def vlA (p : List ByteArray) (at' cov i : Nat) : Nat := if (nxA p at' cov i).1 = 0 then 0 else waysV p (nxA p at' cov i).1 (nxA p at' cov i).2
def smA (p : List ByteArray) (at' cov : Nat) : Nat → Nat
  | 0 => 0
  | i + 1 => smA p at' cov i + vlA p at' cov i
theorem smA_3 {p : List ByteArray} {at' cov : Nat} (h : at' < wd p * p.length) : smA p at' cov 3 = waysV p at' cov := by
  obtain ⟨k, hk⟩ : ∃ k, wd p * p.length - at' = k + 1 := ⟨wd p * p.length - at' - 1, by omega⟩
  have hk2 : wd p * p.length - (at' + 1) = k := by omega
  show 0 + vlA p at' cov 0 + vlA p at' cov 1 + vlA p at' cov 2 = _
  unfold waysV
  rw [hk]
  unfold cntF vlA nxA waysV
  simp only [if_true, if_false, Nat.zero_add, Nat.reduceEqDiff, Nat.succ_ne_self]
  congr 1
  · congr 1
    · split
      · simp [hk2]
      · simp
    · split
      · simp [hk2]
      · simp
  · split
    · simp
    · simp [hk2]
theorem nxA_ok {p : List ByteArray} {at' cov : Nat} (hw : 1 ≤ wd p) (hc : cov < 2 ^ wd p) (i : Nat) : (nxA p at' cov i).1 = 0 ∧ (nxA p at' cov i).2 = 0 ∨ ((nxA p at' cov i).1 = at' + 1 ∧ (nxA p at' cov i).2 < 2 ^ wd p) := by
  have h2 := cov_over hw hc
  have h3 := cov_or (b := 0) (by omega) h2
  have h4 := cov_or (b := wd p - 1) (by omega) h2
  unfold nxA
  split
  · split
    · exact .inr ⟨rfl, h3⟩
    · exact .inl ⟨rfl, rfl⟩
  · split
    · split
      · exact .inr ⟨rfl, h4⟩
      · exact .inl ⟨rfl, rfl⟩
    · split
      · exact .inl ⟨rfl, rfl⟩
      · exact .inr ⟨rfl, h2⟩
theorem ways_le {p : List ByteArray} (hp : RegOk p) {at' cov : Nat} (ha : at' ≤ wd p * p.length) (hc : cov < 2 ^ wd p) : waysV p at' cov ≤ 4294967296 :=
  cntF_small hp.w1 hp.w8 hp.h8 (fun x y h => hsR_in x y h) (by omega) hc
theorem smA_le {p : List ByteArray} (hp : RegOk p) {at' cov : Nat} (ha : at' < wd p * p.length) (hc : cov < 2 ^ wd p) (i : Nat) : smA p at' cov i ≤ i * 4294967296 := by
  induction i with
  | zero => exact Nat.le_refl _
  | succ i ih =>
    have h1 : vlA p at' cov i ≤ 4294967296 := by
      unfold vlA
      split
      · exact Nat.zero_le _
      · rename_i hne
        rcases nxA_ok (p := p) (at' := at') (cov := cov) hp.w1 hc i with ⟨h, _⟩ | ⟨h, h'⟩
        · exact absurd h hne
        · rw [h]; exact ways_le hp (by omega) h'
    rw [Nat.succ_mul]
    exact Nat.add_le_add ih h1
theorem wrap_sm {a : Nat} (h : a ≤ 4 * 4294967296) : IntKind.i64.wrap (a : Int) = a := by rw [IntKind.wrap_i64]; omega
/-- What from hands back. -/
def FromPost (p : List ByteArray) (g : Nat) (w : World) (es : Array MapEntry) (clock at' cov : Nat) (e : Ending) (w' : World) : Prop :=
  e = .returned (.int .i64 (waysV p at' cov)) ∧ ∃ S' es' clock', EntsAre S' es' clock' ∧ MemoOk p S' ∧ (∀ M, Has w (pts g (.map es clock) + M) → Has w' (pts g (.map es' clock') + M)) ∧ Ext w w'
def FromC (p : List ByteArray) (A : Option Addr) (c g k : Nat) : Prop := ∀ (F : MS) (w : World) (S : Ents) (es : Array MapEntry) (clock at' cov : Nat), RdS F RT.str p (.slice A p.length c) → Has w (pts g (.map es clock) + F) → EntsAre S es clock → MemoOk p S → at' + k = wd p * p.length → cov < 2 ^ wd p →
  Calls Tryd.prog 34 #[ctV p A c g, stV at' cov] w (FromPost p g w es clock at' cov)
theorem cov256 {p : List ByteArray} (hp : RegOk p) {cov : Nat} (hc : cov < 2 ^ wd p) : cov < 256 := Nat.lt_of_lt_of_le hc (Nat.pow_le_pow_right (by omega) hp.w8)
theorem wh64 {p : List ByteArray} (hp : RegOk p) : wd p * p.length ≤ 64 := Nat.mul_le_mul hp.w8 hp.h8
theorem from_zero {p : List ByteArray} (hp : RegOk p) (A : Option Addr) (c g : Nat) : FromC p A c g 0 := by
  intro F w S es clock at' cov hr hH hS hM hk hc
  have hN := wh64 hp
  have hw8 := hp.w8
  have hh8 := hp.h8
  have hways : waysV p at' cov = 1 := by unfold waysV; rw [show wd p * p.length - at' = 0 by omega]; rfl
  have Hw := hid (show FromPost p g w es clock at' cov (.returned (.int .i64 1)) = FromPost p g w es clock at' cov (.returned (.int .i64 1)) from rfl)
  have HB := hid (Has.but hH.get)
  have HS := hid hS
  have HM := hid hM
  have hmul : (wd p : Int) * (p.length : Int) = (at' : Int) := by rw [← Int.natCast_mul]; omega
  have Hways := hid hways
  obtain ⟨b1, hb1⟩ : ∃ b1, b1 = w.heap.size := ⟨_, rfl⟩
  show Calls Tryd.prog 34 #[.agg #[.int .i64 (wd p), .int .i64 p.length, .slice A p.length c, .map (some g)], .agg #[.int .i64 at', .int .i64 cov]] w _
  generalize (wd p : Int) = WW at *
  generalize (p.length : Int) = HH at *
  have hat : (at' : Int) ≤ 64 := by omega
  obtain ⟨AA, hAA⟩ : ∃ AA : Int, AA = (at' : Int) := ⟨_, rfl⟩
  rw [← hAA] at hmul hat
  have hat0 : 0 ≤ AA := by omega
  rw [← hAA]
  clear hr hH hS hM hk hc hN hw8 hh8 hways hb1 hAA
  go_enter Tryd.func34, Tryd.ntmps34
  go_wp2
  go_ret
  exact ⟨by rw [Hways.out]; rfl, S, es, clock, HS.out, HM.out, fun M hM => Has.of_but (((HB.out.alloc _).right.alloc _).right) ((Ext.alloc _ _).trans (Ext.alloc _ _)) M hM, (Ext.alloc _ _).trans (Ext.alloc _ _)⟩
theorem und108 : Tryd.prog.underlying 108 = some (.slice 60) := by kernel_rfl
theorem from_step {p : List ByteArray} (hp : RegOk p) (A : Option Addr) (c g k : Nat) (ih : FromC p A c g k) : FromC p A c g (k + 1) := by
  intro F w S es clock at' cov hr hH hS hM hk hc
  have hN := wh64 hp
  have hlt : at' < wd p * p.length := by omega
  have hc256 := cov256 hp hc
  have HB := hid (Has.but hH.get)
  have HS := hid hS
  have HM := hid hM
  have Hp := hid hp
  have Hc := hid hc
  have Hk := hid hk
  have Hlt := hid hlt
  have Hr := hid hr
  have HH0 := hid hH
  have Hih := hid ih
  have hsmall : small ((at' : Int), (cov : Int)) := ⟨⟨by show (-1000 : Int) ≤ at'; omega, by show (at' : Int) ≤ 1000; omega⟩, by show (-1000 : Int) ≤ cov; omega, by show (cov : Int) ≤ 1000; omega⟩
  have Hsmall := hid hsmall
  obtain ⟨NN, hNN⟩ : ∃ NN : Int, NN = ((wd p * p.length : Nat) : Int) := ⟨_, rfl⟩
  have hmul : (wd p : Int) * (p.length : Int) = NN := by rw [hNN, Int.natCast_mul]
  have hNr : NN ≤ 64 := by omega
  have hatN : (at' : Int) < NN := by omega
  have hatne : ¬ ((at' : Int) = NN) := by omega
  obtain ⟨b1, hb1⟩ : ∃ b1, b1 = w.heap.size := ⟨_, rfl⟩
  obtain ⟨Gm, hGm⟩ : ∃ Gm, Gm = blk (b1 + 1) #[.int .i64 at', .int .i64 cov] 60 + (blk b1 #[.int .i64 (wd p), .int .i64 p.length, .slice A p.length c, .map (some g)] 56 + MS.but w g) := ⟨_, rfl⟩
  have Keep := hid (show ∀ W o X, Ext w W → Has W (pts g o + (X + Gm)) → (W.cell? ⟨b1, 0, none⟩ = some (.int .i64 (wd p)) ∧ W.cell? ⟨b1, 1, none⟩ = some (.int .i64 p.length) ∧ W.cell? ⟨b1, 2, none⟩ = some (.slice A p.length c) ∧ W.cell? ⟨b1, 3, none⟩ = some (.map (some g)) ∧ W.cell? ⟨b1 + 1, 0, none⟩ = some (.int .i64 at') ∧ W.cell? ⟨b1 + 1, 1, none⟩ = some (.int .i64 cov)) ∧ Has W (pts g o + F) from fun W o X hE h => by
    rw [hGm] at h
    have h1 := h.right.right
    have h2 := h1.right
    exact ⟨⟨h2.at_ rfl, h2.at_ rfl, h2.at_ rfl, h2.at_ rfl, h1.at_ rfl, h1.at_ rfl⟩, Has.of_but (o := .map es clock) (h.eq (b := pts g o + MS.but w g + (X + (blk (b1 + 1) #[.int .i64 at', .int .i64 cov] 60 + blk b1 #[.int .i64 (wd p), .int .i64 p.length, .slice A p.length c, .map (some g)] 56))) (by ac_rfl)).left hE F HH0.out⟩)
  have Out := hid (show ∀ W o X, Ext w W → Has W (pts g o + (X + Gm)) → ∀ M, Has w (pts g (.map es clock) + M) → Has W (pts g o + M) from fun W o X hE h => by
    rw [hGm] at h
    exact Has.of_but (h.eq (b := pts g o + MS.but w g + (X + (blk (b1 + 1) #[.int .i64 at', .int .i64 cov] 60 + blk b1 #[.int .i64 (wd p), .int .i64 p.length, .slice A p.length c, .map (some g)] 56))) (by ac_rfl)).left hE)
  obtain ⟨W3, hW3⟩ : ∃ W3, W3 = (w.alloc (.cells #[.int .i64 (wd p), .int .i64 p.length, .slice A p.length c, .map (some g)] 56)).alloc (.cells #[.int .i64 at', .int .i64 cov] 60) := ⟨_, rfl⟩
  have HE3 := hid (show Ext w W3 by rw [hW3]; exact (Ext.alloc _ _).trans (Ext.alloc _ _))
  have HW3 := hid (show Has W3 (pts g (.map es clock) + (0 + Gm)) by
    rw [hW3, hGm, hb1, MS.zero_add]
    have h1 := (HB.out.alloc (.cells #[.int .i64 (wd p), .int .i64 p.length, .slice A p.length c, .map (some g)] 56)).alloc (.cells #[.int .i64 at', .int .i64 cov] 60)
    rw [show (w.alloc (.cells #[.int .i64 (wd p), .int .i64 p.length, .slice A p.length c, .map (some g)] 56)).heap.size = w.heap.size + 1 by simp] at h1
    exact h1.eq (by unfold blk; ac_rfl))
  obtain ⟨⟨c0, c1, c2, c3, c4, c5⟩, hWF⟩ := Keep.out W3 _ _ HE3.out HW3.out
  have hlook := HS.out.look2 pair60 und54 (zero3 W3) HW3.out.get hsmall
  have Hb1 := hid hb1
  have HW3e := hid hW3
  have hat64 : (at' : Int) < 64 := by omega
  have hcovI : (cov : Int) < 256 := by omega
  show Calls Tryd.prog 34 #[.agg #[.int .i64 (wd p), .int .i64 p.length, .slice A p.length c, .map (some g)], .agg #[.int .i64 at', .int .i64 cov]] w _
  clear hr hH hS hM hp hc hk hlt hN ih hNN hsmall hWF hGm hW3 hb1
  cases hl : lkM S ((at' : Int), (cov : Int)) with
  | some v =>
    have hv := HM.out.get hl
    subst hv
    rw [hl] at hlook
    have Hl := hid hlook
    clear hlook hl
    go_enter Tryd.func34, Tryd.ntmps34
    go_wp2_with (first
      | (rw [← Hb1.out]; rw [← HW3e.out]; refine wpList_run rfl _ _ (ex_look rfl Hl.out) ?_))
    go_ret
    exact ⟨rfl, S, es, clock, HS.out, HM.out, fun M hM => Out.out W3 _ _ HE3.out HW3.out M hM, HE3.out⟩
  | none =>
    rw [hl] at hlook
    have Hl := hid hlook
    clear hlook hl
    have Hright := hid (fun (W : World) (hW : Has W F) => show Calls Tryd.prog 74 #[.agg #[.int .i64 (wd p), .int .i64 p.length, .slice A p.length c, .map (some g)], .agg #[.int .i64 at', .int .i64 cov]] W fun e w' => ∃ x y : Nat, (x, y) = nxA p at' cov 0 ∧ e = .returned (.agg #[.int .i64 x, .int .i64 y]) ∧ Kp W w' from (right_any (F := F) Hr.out Hp.out hW (by omega) hc256).mono (by
      rintro e w' ⟨rfl, h⟩
      refine ⟨(nxA p at' cov 0).1, (nxA p at' cov 0).2, rfl, ?_, h⟩
      unfold nxA
      simp only [if_true]
      split <;> rfl))
    have Hdown := hid (fun (W : World) (hW : Has W F) => show Calls Tryd.prog 75 #[.agg #[.int .i64 (wd p), .int .i64 p.length, .slice A p.length c, .map (some g)], .agg #[.int .i64 at', .int .i64 cov]] W fun e w' => ∃ x y : Nat, (x, y) = nxA p at' cov 1 ∧ e = .returned (.agg #[.int .i64 x, .int .i64 y]) ∧ Kp W w' from (down_any (F := F) Hr.out Hp.out hW (by omega) hc256).mono (by
      rintro e w' ⟨rfl, h⟩
      refine ⟨(nxA p at' cov 1).1, (nxA p at' cov 1).2, rfl, ?_, h⟩
      unfold nxA
      simp only [Nat.succ_ne_self, if_true, if_false]
      split <;> rfl))
    have Hover := hid (fun (W : World) (hW : Has W F) => show Calls Tryd.prog 76 #[.agg #[.int .i64 (wd p), .int .i64 p.length, .slice A p.length c, .map (some g)], .agg #[.int .i64 at', .int .i64 cov]] W fun e w' => ∃ x y : Nat, (x, y) = nxA p at' cov 2 ∧ e = .returned (.agg #[.int .i64 x, .int .i64 y]) ∧ Kp W w' from (over_any (F := F) Hr.out Hp.out hW (by omega) hc256).mono (by
      rintro e w' ⟨rfl, h⟩
      refine ⟨(nxA p at' cov 2).1, (nxA p at' cov 2).2, rfl, ?_, h⟩
      unfold nxA
      simp only [Nat.reduceEqDiff, if_false, show ¬ ((2 : Nat) = 0) by omega, show ¬ ((2 : Nat) = 1) by omega]
      split <;> rfl))
    go_enter Tryd.func34, Tryd.ntmps34
    go_wp2_with (first
      | (rw [← Hb1.out]; rw [← HW3e.out]; refine wpList_run rfl _ _ (ex_look rfl Hl.out) ?_))
    refine wp_region_txt (fun W => W.cell? ⟨b1, 0, none⟩ = some (.int .i64 (wd p)) ∧ W.cell? ⟨b1, 1, none⟩ = some (.int .i64 p.length) ∧ W.cell? ⟨b1, 2, none⟩ = some (.slice A p.length c) ∧ W.cell? ⟨b1, 3, none⟩ = some (.map (some g)) ∧ W.cell? ⟨b1 + 1, 0, none⟩ = some (.int .i64 at') ∧ W.cell? ⟨b1 + 1, 1, none⟩ = some (.int .i64 cov)) none
      [(0, true), (1, true), (3, true), (4, true), (6, true), (7, true), (11, true), (2, false), (5, false), (8, false), (9, false), (10, true)] (by kernel_rfl) rfl (by kernel_rfl) (by kernel_rfl) (by repeat (first | with_reducible refine PanicOk.thn ?_ | with_reducible refine PanicOk.blk ?_ | exact PanicOk.body _ _ _)) ?_
    have hS : W3.drew.cell? ⟨b1, 0, none⟩ = some (.int .i64 (wd p)) ∧ W3.drew.cell? ⟨b1, 1, none⟩ = some (.int .i64 p.length) ∧ W3.drew.cell? ⟨b1, 2, none⟩ = some (.slice A p.length c) ∧ W3.drew.cell? ⟨b1, 3, none⟩ = some (.map (some g)) ∧ W3.drew.cell? ⟨b1 + 1, 0, none⟩ = some (.int .i64 at') ∧ W3.drew.cell? ⟨b1 + 1, 1, none⟩ = some (.int .i64 cov) := (Keep.out W3 _ _ HE3.out HW3.out).1
    repeat
      (refine txt_quiet ?_ hS rfl rfl (fun W hW => ?_) ?_
       rotate_left 1
       · obtain ⟨hW1, hW2, hW3, hW4, hW5, hW6⟩ := hW
         go_simp
         exact rfl
       simp only [Act.put, List.setIfInBounds_toArray, List.set_cons_zero, List.set_cons_succ])
    refine txt_op rfl rfl ?_
    refine op_call 74 #[.agg #[.int .i64 (wd p), .int .i64 p.length, .slice A p.length c, .map (some g)], .agg #[.int .i64 at', .int .i64 cov]] W3.drew (by go_simp) _ (Hright.out W3.drew (Keep.out W3 _ _ HE3.out HW3.out).2.right.drew) ?_
    rintro e4 W4 ⟨x0, y0, n0, rfl, k4⟩
    have N0 := hid n0
    have HW4 := hid (k4.1 _ HW3.out.drew)
    have HE4 := hid ((HE3.out.trans (Ext.drew _)).trans k4.2)
    refine ⟨_, rfl, fun _ => (Keep.out W4 _ _ HE4.out HW4.out).1, ?_⟩
    clear hS k4 n0
    simp only [Act.put, List.setIfInBounds_toArray, List.set_cons_zero, List.set_cons_succ]
    refine txt_op rfl rfl ?_
    refine op_call 75 #[.agg #[.int .i64 (wd p), .int .i64 p.length, .slice A p.length c, .map (some g)], .agg #[.int .i64 at', .int .i64 cov]] W4 (by go_simp) _ (Hdown.out W4 (Keep.out W4 _ _ HE4.out HW4.out).2.right) ?_
    rintro e5 W5 ⟨x1, y1, n1, rfl, k5⟩
    have N1 := hid n1
    have HW5 := hid (k5.1 _ HW4.out)
    have HE5 := hid (HE4.out.trans k5.2)
    refine ⟨_, rfl, fun _ => (Keep.out W5 _ _ HE5.out HW5.out).1, ?_⟩
    clear k5 n1
    simp only [Act.put, List.setIfInBounds_toArray, List.set_cons_zero, List.set_cons_succ]
    refine txt_op rfl rfl ?_
    refine op_call 76 #[.agg #[.int .i64 (wd p), .int .i64 p.length, .slice A p.length c, .map (some g)], .agg #[.int .i64 at', .int .i64 cov]] W5 (by go_simp) _ (Hover.out W5 (Keep.out W5 _ _ HE5.out HW5.out).2.right) ?_
    rintro e6 W6 ⟨x2, y2, n2, rfl, k6⟩
    have N2 := hid n2
    have HW6 := hid (k6.1 _ HW5.out)
    have HE6 := hid (HE5.out.trans k6.2)
    refine ⟨_, rfl, fun _ => (Keep.out W6 _ _ HE6.out HW6.out).1, ?_⟩
    clear k6 n2
    simp only [Act.put, List.setIfInBounds_toArray, List.set_cons_zero, List.set_cons_succ]
    refine txt_op rfl rfl ?_
    refine op_run (.slice (some ⟨W6.heap.size, 0, none⟩) 3 3) (W6.alloc (.cells #[.int .i64 x0, .int .i64 y0, .int .i64 x1, .int .i64 y1, .int .i64 x2, .int .i64 y2] 60)) (by go_simp) ?_
    obtain ⟨b3, hb3⟩ : ∃ b3, b3 = W6.heap.size := ⟨_, rfl⟩
    have HW7 := hid (show Has (W6.alloc (.cells #[.int .i64 x0, .int .i64 y0, .int .i64 x1, .int .i64 y1, .int .i64 x2, .int .i64 y2] 60)) (pts g (.map es clock) + (blk b3 #[.int .i64 x0, .int .i64 y0, .int .i64 x1, .int .i64 y1, .int .i64 x2, .int .i64 y2] 60 + Gm)) by
      rw [hb3]
      exact (HW6.out.alloc _).eq (by unfold blk; rw [MS.zero_add]; ac_rfl))
    have HE7 := hid (show Ext w (W6.alloc (.cells #[.int .i64 x0, .int .i64 y0, .int .i64 x1, .int .i64 y1, .int .i64 x2, .int .i64 y2] 60)) from HE6.out.trans (Ext.alloc _ _))
    rw [← hb3]
    generalize W6.alloc (.cells #[.int .i64 x0, .int .i64 y0, .int .i64 x1, .int .i64 y1, .int .i64 x2, .int .i64 y2] 60) = W7 at *
    clear hb3
    refine ⟨fun _ => (Keep.out W7 _ _ HE7.out HW7.out).1, ?_⟩
    simp only [Act.put, List.setIfInBounds_toArray, List.set_cons_zero, List.set_cons_succ]
    have hS := (Keep.out W7 _ _ HE7.out HW7.out).1
    repeat
      (refine txt_quiet ?_ hS rfl rfl (fun W hW => ?_) ?_
       rotate_left 1
       · obtain ⟨hW1, hW2, hW3, hW4, hW5, hW6⟩ := hW
         go_simp
         exact rfl
       simp only [Act.put, List.setIfInBounds_toArray, List.set_cons_zero, List.set_cons_succ])
    refine txt_done ?_
    go_wp2
    have HW7' := hid HW7.out
    clear c0 c1 c2 c3 c4 c5 hS
    go_loopw [7, 40] (fun v7 v40 wr => ∃ i : Nat, i ≤ 3 ∧ v40 = .int .i64 i ∧ v7 = .int .i64 (smA p at' cov i : Nat) ∧ ∃ S' es' clock', EntsAre S' es' clock' ∧ MemoOk p S' ∧ Has wr (pts g (.map es' clock') + (blk b3 #[.int .i64 x0, .int .i64 y0, .int .i64 x1, .int .i64 y1, .int .i64 x2, .int .i64 y2] 60 + Gm)) ∧ Ext w wr) (fun _ v _ => 3 - (intOf v).toNat)
    case atStart => exact ⟨0, by omega, rfl, rfl, S, es, clock, HS.out, HM.out, HW7.out, HE7.out⟩
    case round =>
      obtain ⟨i, hi, rfl, rfl, S', es', clock', hS', hM', hHr, hE⟩ := hrel
      have HS' := hid hS'
      have HM' := hid hM'
      have HHr := hid hHr
      have HE := hid hE
      obtain ⟨⟨c0, c1, c2, c3, c4, c5⟩, _⟩ := Keep.out wr _ _ hE hHr
      clear hS' hM' hHr hE
      by_cases h3 : i < 3
      · have h3I : (i : Int) < 3 := by omega
        obtain ⟨xa, ya, hxy⟩ : ∃ x y, (x, y) = nxA p at' cov i := ⟨_, _, rfl⟩
        have hcells : wr.cell? ⟨b3, i * 2, none⟩ = some (.int .i64 xa) ∧ wr.cell? ⟨b3, i * 2 + 1, none⟩ = some (.int .i64 ya) := by
          have hh := HHr.out.right
          have h012 : i = 0 ∨ i = 1 ∨ i = 2 := by omega
          rcases h012 with rfl | rfl | rfl
          · have e := hxy.trans N0.out.symm
            injection e with e1 e2
            rw [e1, e2]
            exact ⟨hh.at_ rfl, hh.at_ rfl⟩
          · have e := hxy.trans N1.out.symm
            injection e with e1 e2
            rw [e1, e2]
            exact ⟨hh.at_ rfl, hh.at_ rfl⟩
          · have e := hxy.trans N2.out.symm
            injection e with e1 e2
            rw [e1, e2]
            exact ⟨hh.at_ rfl, hh.at_ rfl⟩
        obtain ⟨f0, f1⟩ := hcells
        have Hxy := hid hxy
        have hok := nxA_ok (p := p) (at' := at') (cov := cov) Hp.out.w1 Hc.out i
        rw [← hxy] at hok
        simp only at hok
        obtain ⟨b4, hb4⟩ : ∃ b4, b4 = wr.heap.size := ⟨_, rfl⟩
        have HA := hid (show Has (wr.alloc (.cells #[.int .i64 0, .int .i64 0] 60)) (blk b4 #[.int .i64 0, .int .i64 0] 60 + (pts g (.map es' clock') + (blk b3 #[.int .i64 x0, .int .i64 y0, .int .i64 x1, .int .i64 y1, .int .i64 x2, .int .i64 y2] 60 + Gm))) by rw [hb4]; exact HHr.out.alloc _)
        have HAE := hid (HE.out.trans (Ext.alloc wr (.cells #[.int .i64 0, .int .i64 0] 60)))
        have Hb4 := hid hb4
        have Hi3 := hid h3
        clear hxy hb4 h3 hi
        rcases hok with ⟨hx0, hy0⟩ | ⟨hx1, hy1⟩
        · have hsame : smA p at' cov (i + 1) = smA p at' cov i := by
            show smA p at' cov i + vlA p at' cov i = _
            unfold vlA
            rw [← Hxy.out]
            simp only
            rw [if_pos hx0]
            rfl
          have Hsame := hid hsame
          subst hx0
          subst hy0
          clear hsame
          go_wp2_with (first
            | (rw [← Hb4.out]; refine wpList_store_whole rfl (.tmp 9) (.tmp 43) 60 rfl 2 size60 b4 (.agg #[.int .i64 (0 : Nat), .int .i64 (0 : Nat)]) rfl rfl rfl (by simp [Value.cells, Value.oneCell']) #[.int .i64 0, .int .i64 0] 60 _ HA.out rfl ?_; intro w5 j1 j2; have HW5' := hid (show Has w5 (blk b4 #[.int .i64 (0 : Nat), .int .i64 (0 : Nat)] 60 + (pts g (.map es' clock') + (blk b3 #[.int .i64 x0, .int .i64 y0, .int .i64 x1, .int .i64 y1, .int .i64 x2, .int .i64 y2] 60 + Gm))) from j1); have HE5' := hid (HAE.out.trans j2); have r0 : w5.cell? ⟨b4, 0, none⟩ = some (.int .i64 (0 : Nat)) := HW5'.out.at_ rfl; have r1 : w5.cell? ⟨b4, 1, none⟩ = some (.int .i64 (0 : Nat)) := HW5'.out.at_ rfl; have HWq := hid (show Has w5 (pts g (.map es' clock') + ((blk b4 #[.int .i64 (0 : Nat), .int .i64 (0 : Nat)] 60 + blk b3 #[.int .i64 x0, .int .i64 y0, .int .i64 x1, .int .i64 y1, .int .i64 x2, .int .i64 y2] 60) + Gm)) from HW5'.out.eq (by ac_rfl)); obtain ⟨⟨d0, d1, d2, d3, d4, d5⟩, hF5⟩ := Keep.out w5 _ _ HE5'.out HWq.out; have HF5 := hid hF5; clear j1 j2 hF5))
          go_roundw
          case rel => exact ⟨i + 1, Hi3.out, by go_num, by rw [Hsame.out], S', es', clock', HS'.out, HM'.out, HWq.out.eq (b := pts g (.map es' clock') + (blk b3 #[.int .i64 x0, .int .i64 y0, .int .i64 x1, .int .i64 y1, .int .i64 x2, .int .i64 y2] 60 + Gm) + blk b4 #[.int .i64 (0 : Nat), .int .i64 (0 : Nat)] 60) (by ac_rfl) |>.left, HE5'.out⟩
          case measure => have := Hi3.out; simp [intOf]; omega
        · have hstep : smA p at' cov (i + 1) = smA p at' cov i + waysV p xa ya := by
            show smA p at' cov i + vlA p at' cov i = _
            unfold vlA
            rw [← Hxy.out]
            simp only
            rw [if_neg (by omega)]
          have hle := smA_le Hp.out Hlt.out Hc.out (i + 1)
          have hle2 : smA p at' cov (i + 1) ≤ 4 * 4294967296 := Nat.le_trans hle (Nat.mul_le_mul_right _ (by have := Hi3.out; omega))
          have hwr : IntKind.i64.wrap (((smA p at' cov i : Nat) : Int) + ((waysV p xa ya : Nat) : Int)) = ((smA p at' cov (i + 1) : Nat) : Int) := by
            rw [← Int.natCast_add, ← hstep]
            exact wrap_sm hle2
          have hcall := hid (fun (W : World) (hW : Has W (pts g (.map es' clock') + F)) => show Calls Tryd.prog 34 #[.agg #[.int .i64 (wd p), .int .i64 p.length, .slice A p.length c, .map (some g)], .agg #[.int .i64 xa, .int .i64 ya]] W _ from Hih.out F W S' es' clock' xa ya Hr.out hW HS'.out HM'.out (by have := Hk.out; omega) hy1)
          have hxp : (0 : Int) < xa := by omega
          have hxb : (xa : Int) ≤ 64 := by omega
          clear hle hle2 hstep hx1
          obtain ⟨s0, hs0⟩ : ∃ s0, s0 = ((smA p at' cov i : Nat) : Int) := ⟨_, rfl⟩
          obtain ⟨s1, hs1⟩ : ∃ s1, s1 = ((smA p at' cov (i + 1) : Nat) : Int) := ⟨_, rfl⟩
          obtain ⟨wv, hwv⟩ : ∃ wv, wv = ((waysV p xa ya : Nat) : Int) := ⟨_, rfl⟩
          rw [← hs0, ← hs1, ← hwv] at hwr
          rw [← hs0]
          have Hs1 := hid hs1
          have Hwv := hid hwv
          clear hs0 hs1 hwv hy1
          go_wp2_with (first
            | (rw [← Hb4.out]; refine wpList_store_whole rfl (.tmp 9) (.tmp 43) 60 rfl 2 size60 b4 (.agg #[.int .i64 xa, .int .i64 ya]) rfl rfl rfl (by simp [Value.cells, Value.oneCell']) #[.int .i64 0, .int .i64 0] 60 _ HA.out rfl ?_; intro w5 j1 j2; have HW5' := hid (show Has w5 (blk b4 #[.int .i64 xa, .int .i64 ya] 60 + (pts g (.map es' clock') + (blk b3 #[.int .i64 x0, .int .i64 y0, .int .i64 x1, .int .i64 y1, .int .i64 x2, .int .i64 y2] 60 + Gm))) from j1); have HE5' := hid (HAE.out.trans j2); have r0 : w5.cell? ⟨b4, 0, none⟩ = some (.int .i64 xa) := HW5'.out.at_ rfl; have r1 : w5.cell? ⟨b4, 1, none⟩ = some (.int .i64 ya) := HW5'.out.at_ rfl; have HWq := hid (show Has w5 (pts g (.map es' clock') + ((blk b4 #[.int .i64 xa, .int .i64 ya] 60 + blk b3 #[.int .i64 x0, .int .i64 y0, .int .i64 x1, .int .i64 y1, .int .i64 x2, .int .i64 y2] 60) + Gm)) from HW5'.out.eq (by ac_rfl)); obtain ⟨⟨d0, d1, d2, d3, d4, d5⟩, hF5⟩ := Keep.out w5 _ _ HE5'.out HWq.out; have HF5 := hid hF5; clear j1 j2 hF5)
            | (go_at_call 34; refine (hcall.out w5 HF5.out).mono ?_; rintro e6 w6 ⟨rfl, S2, es2, clock2, z1, z2, z3, z4⟩; have HS2 := hid z1; have HM2 := hid z2; have HW6 := hid (z3 _ HWq.out); have HE6 := hid (HE5'.out.trans z4); rw [← Hwv.out]; clear z1 z2 z3 z4))
          go_roundw
          case rel => exact ⟨i + 1, Hi3.out, by go_num, by rw [Hs1.out], S2, es2, clock2, HS2.out, HM2.out, HW6.out.eq (b := pts g (.map es2 clock2) + (blk b3 #[.int .i64 x0, .int .i64 y0, .int .i64 x1, .int .i64 y1, .int .i64 x2, .int .i64 y2] 60 + Gm) + blk b4 #[.int .i64 xa, .int .i64 ya] 60) (by ac_rfl) |>.left, HE6.out⟩
          case measure => have := Hi3.out; simp [intOf]; omega
      · have hi3 : i = 3 := by omega
        subst hi3
        rw [smA_3 Hlt.out]
        clear h3 hi
        obtain ⟨wv, hwv⟩ : ∃ wv, wv = ((waysV p at' cov : Nat) : Int) := ⟨_, rfl⟩
        have Hwv := hid hwv
        rw [← hwv]
        clear hwv
        go_wp2_with (refine wpList_putM pair60 und54 rfl (.tmp 54) (.tmp 55) (.tmp 56) (.inl rfl) g rfl ((at' : Int), (cov : Int)) rfl (.int .i64 wv) rfl HS'.out Hsmall.out _ HHr.out ?_; intro es2 clock2 w2 z1 z2 z3; have HS2 := hid z1; have HW2 := hid z2; have HE2 := hid (HE.out.trans z3); clear z1 z2 z3)
        go_ret
        exact ⟨by show Ending.returned (.int .i64 wv) = _; rw [Hwv.out], _, es2, clock2, HS2.out, by rw [Hwv.out]; exact HM'.out.put (Nat.le_of_lt Hlt.out) Hc.out, fun M hM => Out.out _ _ _ HE2.out HW2.out M hM, HE2.out⟩
theorem from_any {p : List ByteArray} (hp : RegOk p) (A : Option Addr) (c g : Nat) : ∀ k, FromC p A c g k
  | 0 => from_zero hp A c g
  | k + 1 => from_step hp A c g k (from_any hp A c g k)
end Go.Proofs.YtcdhimnmbpllgaaDoor

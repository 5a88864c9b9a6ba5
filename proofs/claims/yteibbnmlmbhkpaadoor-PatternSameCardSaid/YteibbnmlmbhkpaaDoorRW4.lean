/-
  The walk of the reference's KindOf, mirrored, mirror, fixes, near, centre.
-/
import Derived.Test.YteibbnmlmbhkpaaDoorRW3
import Derived.Test.YteibbnmlmbhkpaaDoorPLines
namespace Go.Proofs.YteibbnmlmbhkpaaDoor
open Go.RowKit
set_option linter.unusedVariables false
set_option linter.unusedSimpArgs false
set_option maxHeartbeats 1000000
set_option maxRecDepth 100000

/-- The cells of a move in a block. -/
def MvAt (W : World) (b o : Nat) (a b' c d e f : Int) : Prop := W.cell? ⟨b, o, none⟩ = some (.int .i64 a) ∧ W.cell? ⟨b, o + 1, none⟩ = some (.int .i64 b') ∧ W.cell? ⟨b, o + 2, none⟩ = some (.int .i64 c) ∧ W.cell? ⟨b, o + 3, none⟩ = some (.int .i64 d) ∧ W.cell? ⟨b, o + 4, none⟩ = some (.int .i64 e) ∧ W.cell? ⟨b, o + 5, none⟩ = some (.int .i64 f)
theorem ifs4 (a b c d a' b' c' d' : Int) (W : World) : (if a = a' then if b = b' then if c = c' then if d = d' then
              Result.ok (Next.value (Value.bool true)) W
          else Result.ok (Next.value (Value.bool false)) W
        else Result.ok (Next.value (Value.bool false)) W
      else Result.ok (Next.value (Value.bool false)) W
    else Result.ok (Next.value (Value.bool false)) W) = Result.ok (Next.value (Value.bool (decide ((⟨a, b, c, d, 0, 0⟩ : Mv) = ⟨a', b', c', d', 0, 0⟩)))) W := by
  simp only [Mv.mk.injEq]
  repeat' split <;> simp [*]
theorem refKindOf_any (m : Mv) (w : World) :
    Calls Tryd.prog 23 #[m.v] w fun e w' => e = .returned (.int .i64 (kindOf m)) ∧ Kp w w' := by
  obtain ⟨a, b, c', d, e, f⟩ := m
  obtain ⟨r, hr⟩ : ∃ r, r = kindOf ⟨a, b, c', d, e, f⟩ := ⟨_, rfl⟩
  rw [← hr]
  have Hr := hid (show r = kindIx ⟨a, b, c', d, 0, 0⟩ from hr)
  obtain ⟨W1, hW1⟩ : ∃ W1, W1 = w.alloc (.cells #[.int .i64 a, .int .i64 b, .int .i64 c', .int .i64 d, .int .i64 0, .int .i64 0] 41) := ⟨_, rfl⟩
  have HEA := hid (show Ext w W1 by rw [hW1]; exact Ext.alloc w _)
  obtain ⟨gm, hgm⟩ : ∃ gm, gm = w.heap.size := ⟨_, rfl⟩
  have HG := hid (show Has W1 (blk gm #[.int .i64 a, .int .i64 b, .int .i64 c', .int .i64 d, .int .i64 0, .int .i64 0] 41 + MS.all w) by rw [hW1, hgm]; exact (Has.all w).alloc _)
  clear hr
  show Calls Tryd.prog 23 #[.agg #[.int .i64 a, .int .i64 b, .int .i64 c', .int .i64 d, .int .i64 e, .int .i64 f]] w _
  go_enter Tryd.func23, Tryd.ntmps23
  go_wp2
  rw [← hW1, ← hgm]
  clear hW1 hgm
  go_loopw [3] (fun v wr => ∃ i : Nat, i ≤ 8 ∧ v = .int .i64 i ∧ (∀ j k, j < i → kinds[j]? = some k → k ≠ ⟨a, b, c', d, 0, 0⟩) ∧ Has wr (blk gm #[.int .i64 a, .int .i64 b, .int .i64 c', .int .i64 d, .int .i64 0, .int .i64 0] 41 + MS.all w) ∧ Ext w wr) (fun v _ => 8 - (intOf v).toNat)
  case atStart => exact ⟨0, Nat.zero_le _, rfl, fun j k h => by omega, HG.out, HEA.out⟩
  case round =>
    obtain ⟨i, hi, rfl, hno, hW, hE⟩ := hrel
    have Hno := hid hno
    have HW := hid hW
    have HE := hid hE
    clear hno hW hE HG HEA
    by_cases hlt : i < 8
    · have hltI : (i : Int) < 8 := by omega
      have Hlt := hid hlt
      obtain ⟨ka, kb, kc, kd, hknd⟩ := knd_eq i
      have Hki := hid (show kinds[i]? = some ⟨ka, kb, kc, kd, 0, 0⟩ by rw [kinds_at i hlt, hknd])
      have Hk := hid (show ∀ W, Calls Tryd.prog 43 #[.int .i64 i] W fun e w' => e = .returned (.agg #[.int .i64 ka, .int .i64 kb, .int .i64 kc, .int .i64 kd, .int .i64 0, .int .i64 0]) ∧ Kp W w' from fun W => by have := kind_at i hlt W; rw [hknd] at this; exact this)
      have Keep := hid (show ∀ W, Has W (blk gm #[.int .i64 a, .int .i64 b, .int .i64 c', .int .i64 d, .int .i64 0, .int .i64 0] 41 + MS.all w) → W.cell? ⟨gm, 0, none⟩ = some (.int .i64 a) ∧ W.cell? ⟨gm, 1, none⟩ = some (.int .i64 b) ∧ W.cell? ⟨gm, 2, none⟩ = some (.int .i64 c') ∧ W.cell? ⟨gm, 3, none⟩ = some (.int .i64 d) ∧ W.cell? ⟨gm, 4, none⟩ = some (.int .i64 0) ∧ W.cell? ⟨gm, 5, none⟩ = some (.int .i64 0) from fun W h => ⟨h.at_ rfl, h.at_ rfl, h.at_ rfl, h.at_ rfl, h.at_ rfl, h.at_ rfl⟩)
      have hS := Keep.out wr.drew HW.out.drew
      clear hlt hknd
      cases hq : decide ((⟨ka, kb, kc, kd, 0, 0⟩ : Mv) = ⟨a, b, c', d, 0, 0⟩) with
      | true =>
        have hif := fun W => ifs4 ka kb kc kd a b c' d W
        rw [hq] at hif
        have Hq := hid (of_decide_eq_true hq)
        clear hq
        go_wp2
        refine wp_region_txt (fun W => W.cell? ⟨gm, 0, none⟩ = some (.int .i64 a) ∧ W.cell? ⟨gm, 1, none⟩ = some (.int .i64 b) ∧ W.cell? ⟨gm, 2, none⟩ = some (.int .i64 c') ∧ W.cell? ⟨gm, 3, none⟩ = some (.int .i64 d) ∧ W.cell? ⟨gm, 4, none⟩ = some (.int .i64 0) ∧ W.cell? ⟨gm, 5, none⟩ = some (.int .i64 0)) none
          [(0, true), (2, true), (1, false), (3, true)] (by kernel_rfl) rfl (by kernel_rfl) (by kernel_rfl) (by repeat (first | with_reducible refine PanicOk.thn ?_ | with_reducible refine PanicOk.blk ?_ | exact PanicOk.body _ _ _)) ?_
        repeat
          (refine txt_quiet ?_ hS rfl rfl (fun W hW => ?_) ?_
           rotate_left 1
           · obtain ⟨hW1, hW2, hW3, hW4, hW5, hW6⟩ := hW
             go_simp
             exact rfl
           simp only [Act.put, List.setIfInBounds_toArray, List.set_cons_zero, List.set_cons_succ])
        refine txt_op rfl rfl ?_
        refine op_call 43 #[.int .i64 i] wr.drew (by go_simp) _ (Hk.out wr.drew) ?_
        rintro e1 w1 ⟨rfl, k1⟩
        have K1 := hid (k1.1 _ HW.out.drew)
        have E1 := hid ((HE.out.trans (Ext.drew _)).trans k1.2)
        refine ⟨_, rfl, fun _ => Keep.out w1 K1.out, ?_⟩
        clear hS k1
        simp only [Act.put, List.setIfInBounds_toArray, List.set_cons_zero, List.set_cons_succ]
        have hS := Keep.out w1 K1.out
        repeat
          (refine txt_quiet ?_ hS rfl rfl (fun W hW => ?_) ?_
           rotate_left 1
           · obtain ⟨hW1, hW2, hW3, hW4, hW5, hW6⟩ := hW
             go_simp
             exact rfl
           simp only [Act.put, List.setIfInBounds_toArray, List.set_cons_zero, List.set_cons_succ])
        refine txt_done ?_
        go_wp2
        go_ret
        refine ⟨by rw [Hr.out, kindIx_at Hlt.out Hki.out Hq.out Hno.out]; rfl, fun M hM => hM.of_all K1.out, E1.out⟩
      | false =>
        have hif := fun W => ifs4 ka kb kc kd a b c' d W
        rw [hq] at hif
        have Hq := hid (of_decide_eq_false hq)
        clear hq
        go_wp2
        refine wp_region_txt (fun W => W.cell? ⟨gm, 0, none⟩ = some (.int .i64 a) ∧ W.cell? ⟨gm, 1, none⟩ = some (.int .i64 b) ∧ W.cell? ⟨gm, 2, none⟩ = some (.int .i64 c') ∧ W.cell? ⟨gm, 3, none⟩ = some (.int .i64 d) ∧ W.cell? ⟨gm, 4, none⟩ = some (.int .i64 0) ∧ W.cell? ⟨gm, 5, none⟩ = some (.int .i64 0)) none
          [(0, true), (2, true), (1, false), (3, true)] (by kernel_rfl) rfl (by kernel_rfl) (by kernel_rfl) (by repeat (first | with_reducible refine PanicOk.thn ?_ | with_reducible refine PanicOk.blk ?_ | exact PanicOk.body _ _ _)) ?_
        repeat
          (refine txt_quiet ?_ hS rfl rfl (fun W hW => ?_) ?_
           rotate_left 1
           · obtain ⟨hW1, hW2, hW3, hW4, hW5, hW6⟩ := hW
             go_simp
             exact rfl
           simp only [Act.put, List.setIfInBounds_toArray, List.set_cons_zero, List.set_cons_succ])
        refine txt_op rfl rfl ?_
        refine op_call 43 #[.int .i64 i] wr.drew (by go_simp) _ (Hk.out wr.drew) ?_
        rintro e1 w1 ⟨rfl, k1⟩
        have K1 := hid (k1.1 _ HW.out.drew)
        have E1 := hid ((HE.out.trans (Ext.drew _)).trans k1.2)
        refine ⟨_, rfl, fun _ => Keep.out w1 K1.out, ?_⟩
        clear hS k1
        simp only [Act.put, List.setIfInBounds_toArray, List.set_cons_zero, List.set_cons_succ]
        have hS := Keep.out w1 K1.out
        repeat
          (refine txt_quiet ?_ hS rfl rfl (fun W hW => ?_) ?_
           rotate_left 1
           · obtain ⟨hW1, hW2, hW3, hW4, hW5, hW6⟩ := hW
             go_simp
             exact rfl
           simp only [Act.put, List.setIfInBounds_toArray, List.set_cons_zero, List.set_cons_succ])
        refine txt_done ?_
        go_wp2
        go_roundw
        case rel => exact ⟨i + 1, Hlt.out, by go_num, fun j k h hk => by
          by_cases hji : j = i
          · subst hji
            rw [Hki.out] at hk
            injection hk with hk
            exact fun h => Hq.out (by rw [hk, h])
          · exact Hno.out j k (by omega) hk, K1.out, E1.out⟩
        case measure => have := Hlt.out; simp [intOf]; omega
    · have hie : i = 8 := by omega
      subst hie
      clear hlt
      go_wp2
      go_ret
      exact ⟨by rw [Hr.out, kindIx_no Hno.out]; rfl, fun M hM => hM.of_all HW.out, HE.out⟩
/-- A mirrored move; a mirror. -/
def isMir (m : Mv) : Bool := (kindOf m == 4 && m.e == 0) || (kindOf m == 5 && m.f == 0) || (kindOf m == 6 && m.e + m.f == 0) || (kindOf m == 7 && m.e == m.f)
theorem mirrored_any (m : Mv) (w : World) :
    Calls Tryd.prog 95 #[m.v] w fun e w' => e = .returned (.bool (decide (4 ≤ kindOf m))) ∧ Kp w w' := by
  have Hk := hid (fun W => refKindOf_any m W)
  obtain ⟨a, b, c', d, e, f⟩ := m
  obtain ⟨r, hr⟩ : ∃ r, r = kindOf ⟨a, b, c', d, e, f⟩ := ⟨_, rfl⟩
  rw [← hr] at Hk ⊢
  have HA := hid ((Has.all w).alloc (.cells #[.int .i64 a, .int .i64 b, .int .i64 c', .int .i64 d, .int .i64 e, .int .i64 f] 41))
  have HE := hid (Ext.alloc w (.cells #[.int .i64 a, .int .i64 b, .int .i64 c', .int .i64 d, .int .i64 e, .int .i64 f] 41))
  clear hr
  show Calls Tryd.prog 95 #[.agg #[.int .i64 a, .int .i64 b, .int .i64 c', .int .i64 d, .int .i64 e, .int .i64 f]] w _
  go_enter Tryd.func95, Tryd.ntmps95
  go_wp2_with (go_at_call 23; refine (Hk.out _).mono ?_; rintro e1 w1 ⟨rfl, k1⟩; have K1 := hid (k1.1 _ HA.out); have E1 := hid (HE.out.trans k1.2); clear k1)
  go_ret
  exact ⟨rfl, fun M hM => hM.of_all K1.out, E1.out⟩
theorem mirror_any (m : Mv) (w : World) (he : -1000 ≤ m.e ∧ m.e ≤ 1000) (hf : -1000 ≤ m.f ∧ m.f ≤ 1000) :
    Calls Tryd.prog 94 #[m.v] w fun e w' => e = .returned (.bool (isMir m)) ∧ Kp w w' := by
  have Hk := hid (fun W => refKindOf_any m W)
  obtain ⟨q, hq⟩ : ∃ q, q = isMir m := ⟨_, rfl⟩
  rw [← hq]
  obtain ⟨a, b, c', d, e, f⟩ := m
  obtain ⟨r, hr⟩ : ∃ r, r = kindOf ⟨a, b, c', d, e, f⟩ := ⟨_, rfl⟩
  unfold isMir at hq
  rw [← hr] at Hk hq
  simp only at he hf hq
  have Hq := hid hq
  have HA := hid (show Has (w.alloc (.cells #[.int .i64 a, .int .i64 b, .int .i64 c', .int .i64 d, .int .i64 e, .int .i64 f] 41)) (blk w.heap.size #[.int .i64 a, .int .i64 b, .int .i64 c', .int .i64 d, .int .i64 e, .int .i64 f] 41 + MS.all w) from (Has.all w).alloc _)
  have HE := hid (Ext.alloc w (.cells #[.int .i64 a, .int .i64 b, .int .i64 c', .int .i64 d, .int .i64 e, .int .i64 f] 41))
  have hw : IntKind.i64.wrap (e + f) = e + f := by rw [IntKind.wrap_i64]; omega
  clear hr hq he hf
  show Calls Tryd.prog 94 #[.agg #[.int .i64 a, .int .i64 b, .int .i64 c', .int .i64 d, .int .i64 e, .int .i64 f]] w _
  by_cases h4 : r = 4
  · have h4b : (r == 4) = true := by simp [h4]
    go_enter Tryd.func94, Tryd.ntmps94
    go_wp2_with (go_at_call 23; refine (Hk.out _).mono ?_; rintro e1 w1 ⟨rfl, k1⟩; have K1 := hid (k1.1 _ HA.out); have E1 := hid (HE.out.trans k1.2); clear k1; have g4 : w1.cell? ⟨w.heap.size, 4, none⟩ = some (.int .i64 e) := K1.out.at_ rfl; have g5 : w1.cell? ⟨w.heap.size, 5, none⟩ = some (.int .i64 f) := K1.out.at_ rfl)
    go_ret
    exact ⟨by rw [Hq.out, h4]; simp, fun M hM => hM.of_all K1.out, E1.out⟩
  by_cases h5 : r = 5
  · have h4b : (r == 4) = false := by simp [h4]
    have h5b : (r == 5) = true := by simp [h5]
    go_enter Tryd.func94, Tryd.ntmps94
    go_wp2_with (go_at_call 23; refine (Hk.out _).mono ?_; rintro e1 w1 ⟨rfl, k1⟩; have K1 := hid (k1.1 _ HA.out); have E1 := hid (HE.out.trans k1.2); clear k1; have g4 : w1.cell? ⟨w.heap.size, 4, none⟩ = some (.int .i64 e) := K1.out.at_ rfl; have g5 : w1.cell? ⟨w.heap.size, 5, none⟩ = some (.int .i64 f) := K1.out.at_ rfl)
    go_ret
    exact ⟨by rw [Hq.out, h5]; simp, fun M hM => hM.of_all K1.out, E1.out⟩
  by_cases h6 : r = 6
  · have h4b : (r == 4) = false := by simp [h4]
    have h5b : (r == 5) = false := by simp [h5]
    have h6b : (r == 6) = true := by simp [h6]
    go_enter Tryd.func94, Tryd.ntmps94
    go_wp2_with (go_at_call 23; refine (Hk.out _).mono ?_; rintro e1 w1 ⟨rfl, k1⟩; have K1 := hid (k1.1 _ HA.out); have E1 := hid (HE.out.trans k1.2); clear k1; have g4 : w1.cell? ⟨w.heap.size, 4, none⟩ = some (.int .i64 e) := K1.out.at_ rfl; have g5 : w1.cell? ⟨w.heap.size, 5, none⟩ = some (.int .i64 f) := K1.out.at_ rfl)
    go_ret
    exact ⟨by rw [Hq.out, h6]; simp, fun M hM => hM.of_all K1.out, E1.out⟩
  by_cases h7 : r = 7
  · have h4b : (r == 4) = false := by simp [h4]
    have h5b : (r == 5) = false := by simp [h5]
    have h6b : (r == 6) = false := by simp [h6]
    have h7b : (r == 7) = true := by simp [h7]
    go_enter Tryd.func94, Tryd.ntmps94
    go_wp2_with (go_at_call 23; refine (Hk.out _).mono ?_; rintro e1 w1 ⟨rfl, k1⟩; have K1 := hid (k1.1 _ HA.out); have E1 := hid (HE.out.trans k1.2); clear k1; have g4 : w1.cell? ⟨w.heap.size, 4, none⟩ = some (.int .i64 e) := K1.out.at_ rfl; have g5 : w1.cell? ⟨w.heap.size, 5, none⟩ = some (.int .i64 f) := K1.out.at_ rfl)
    go_ret
    exact ⟨by rw [Hq.out, h7]; simp, fun M hM => hM.of_all K1.out, E1.out⟩
  · have h4b : (r == 4) = false := by simp [h4]
    have h5b : (r == 5) = false := by simp [h5]
    have h6b : (r == 6) = false := by simp [h6]
    have h7b : (r == 7) = false := by simp [h7]
    go_enter Tryd.func94, Tryd.ntmps94
    go_wp2_with (go_at_call 23; refine (Hk.out _).mono ?_; rintro e1 w1 ⟨rfl, k1⟩; have K1 := hid (k1.1 _ HA.out); have E1 := hid (HE.out.trans k1.2); clear k1)
    go_ret
    exact ⟨by rw [Hq.out]; simp [h4, h5, h6, h7], fun M hM => hM.of_all K1.out, E1.out⟩
/-- Twice the coordinates of a centre. -/
def cenX (m : Mv) : Int := if kindOf m = 1 then m.e - m.f else if kindOf m = 3 then m.e + m.f else m.e
def cenY (m : Mv) : Int := if kindOf m = 1 then m.e + m.f else if kindOf m = 3 then m.f - m.e else m.f
theorem centre_any (m : Mv) (w : World) (he : -1000 ≤ m.e ∧ m.e ≤ 1000) (hf : -1000 ≤ m.f ∧ m.f ≤ 1000) :
    Calls Tryd.prog 91 #[m.v] w fun e w' => e = .returned (.tuple #[.int .i64 (cenX m), .int .i64 (cenY m)]) ∧ Kp w w' := by
  have Hk := hid (fun W => refKindOf_any m W)
  obtain ⟨x, hx⟩ : ∃ x, x = cenX m := ⟨_, rfl⟩
  obtain ⟨y, hy⟩ : ∃ y, y = cenY m := ⟨_, rfl⟩
  rw [← hx, ← hy]
  obtain ⟨a, b, c', d, e, f⟩ := m
  obtain ⟨r, hr⟩ : ∃ r, r = kindOf ⟨a, b, c', d, e, f⟩ := ⟨_, rfl⟩
  unfold cenX at hx
  unfold cenY at hy
  rw [← hr] at Hk hx hy
  simp only at he hf hx hy
  have Hx := hid hx
  have Hy := hid hy
  have HA := hid (show Has (w.alloc (.cells #[.int .i64 a, .int .i64 b, .int .i64 c', .int .i64 d, .int .i64 e, .int .i64 f] 41)) (blk w.heap.size #[.int .i64 a, .int .i64 b, .int .i64 c', .int .i64 d, .int .i64 e, .int .i64 f] 41 + MS.all w) from (Has.all w).alloc _)
  have HE := hid (Ext.alloc w (.cells #[.int .i64 a, .int .i64 b, .int .i64 c', .int .i64 d, .int .i64 e, .int .i64 f] 41))
  have hw : IntKind.i64.wrap (e + f) = e + f := by rw [IntKind.wrap_i64]; omega
  have hw2 : IntKind.i64.wrap (e - f) = e - f := by rw [IntKind.wrap_i64]; omega
  have hw3 : IntKind.i64.wrap (f - e) = f - e := by rw [IntKind.wrap_i64]; omega
  clear hr hx hy he hf
  show Calls Tryd.prog 91 #[.agg #[.int .i64 a, .int .i64 b, .int .i64 c', .int .i64 d, .int .i64 e, .int .i64 f]] w _
  by_cases h1 : r = 1
  · have h1b : (r == 1) = true := by simp [h1]
    have hxx := hid (show x = e - f by rw [Hx.out, if_pos h1])
    have hyy := hid (show y = e + f by rw [Hy.out, if_pos h1])
    go_enter Tryd.func91, Tryd.ntmps91
    go_wp2_with (go_at_call 23; refine (Hk.out _).mono ?_; rintro e1 w1 ⟨rfl, k1⟩; have K1 := hid (k1.1 _ HA.out); have E1 := hid (HE.out.trans k1.2); clear k1; have g4 : w1.cell? ⟨w.heap.size, 4, none⟩ = some (.int .i64 e) := K1.out.at_ rfl; have g5 : w1.cell? ⟨w.heap.size, 5, none⟩ = some (.int .i64 f) := K1.out.at_ rfl)
    go_quiet (fail)
    go_wp2
    go_ret2
    exact ⟨by rw [hxx.out, hyy.out]; rfl, Kp.drewN ⟨fun M hM => hM.of_all K1.out, E1.out⟩ _⟩
  by_cases h3 : r = 3
  · have h1b : (r == 1) = false := by simp [h1]
    have h3b : (r == 3) = true := by simp [h3]
    have hxx := hid (show x = e + f by rw [Hx.out, if_neg h1, if_pos h3])
    have hyy := hid (show y = f - e by rw [Hy.out, if_neg h1, if_pos h3])
    go_enter Tryd.func91, Tryd.ntmps91
    go_wp2_with (go_at_call 23; refine (Hk.out _).mono ?_; rintro e1 w1 ⟨rfl, k1⟩; have K1 := hid (k1.1 _ HA.out); have E1 := hid (HE.out.trans k1.2); clear k1; have g4 : w1.cell? ⟨w.heap.size, 4, none⟩ = some (.int .i64 e) := K1.out.at_ rfl; have g5 : w1.cell? ⟨w.heap.size, 5, none⟩ = some (.int .i64 f) := K1.out.at_ rfl)
    go_quiet (fail)
    go_wp2
    go_ret2
    exact ⟨by rw [hxx.out, hyy.out]; rfl, Kp.drewN ⟨fun M hM => hM.of_all K1.out, E1.out⟩ _⟩
  · have h1b : (r == 1) = false := by simp [h1]
    have h3b : (r == 3) = false := by simp [h3]
    have hxx := hid (show x = e by rw [Hx.out, if_neg h1, if_neg h3])
    have hyy := hid (show y = f by rw [Hy.out, if_neg h1, if_neg h3])
    go_enter Tryd.func91, Tryd.ntmps91
    go_wp2_with (go_at_call 23; refine (Hk.out _).mono ?_; rintro e1 w1 ⟨rfl, k1⟩; have K1 := hid (k1.1 _ HA.out); have E1 := hid (HE.out.trans k1.2); clear k1; have g4 : w1.cell? ⟨w.heap.size, 4, none⟩ = some (.int .i64 e) := K1.out.at_ rfl; have g5 : w1.cell? ⟨w.heap.size, 5, none⟩ = some (.int .i64 f) := K1.out.at_ rfl)
    go_quiet (fail)
    go_wp2
    go_ret2
    exact ⟨by rw [hxx.out, hyy.out]; rfl, Kp.drewN ⟨fun M hM => hM.of_all K1.out, E1.out⟩ _⟩
/-- Near the middle. -/
def nearB (x y : Int) : Bool := decide (0 ≤ x ∧ x ≤ 12 ∧ 0 ≤ y ∧ y ≤ 12)
theorem near_any (x y : Int) (w : World) : Calls Tryd.prog 92 #[.int .i64 x, .int .i64 y] w fun e w' => e = .returned (.bool (nearB x y)) ∧ w' = w := by
  unfold nearB
  by_cases h1 : 0 ≤ x
  rotate_left
  · go_enter Tryd.func92, Tryd.ntmps92
    go_wp2
    go_ret
    exact ⟨by rw [decide_eq_false (by omega)]; rfl, rfl⟩
  by_cases h2 : x ≤ 12
  rotate_left
  · go_enter Tryd.func92, Tryd.ntmps92
    go_wp2
    go_ret
    exact ⟨by rw [decide_eq_false (by omega)]; rfl, rfl⟩
  by_cases h3 : 0 ≤ y
  rotate_left
  · go_enter Tryd.func92, Tryd.ntmps92
    go_wp2
    go_ret
    exact ⟨by rw [decide_eq_false (by omega)]; rfl, rfl⟩
  by_cases h4 : y ≤ 12
  · go_enter Tryd.func92, Tryd.ntmps92
    go_wp2
    go_ret
    exact ⟨by simp [h1, h2, h3, h4], rfl⟩
  · go_enter Tryd.func92, Tryd.ntmps92
    go_wp2
    go_ret
    exact ⟨by rw [decide_eq_false (by omega)]; rfl, rfl⟩
/-- Does a move leave a point where it is? -/
def fixB (m : Mv) (x y : Int) : Bool := decide (m.a * x + m.b * y + 2 * m.e = x ∧ m.c * x + m.d * y + 2 * m.f = y)
def SmallM (m : Mv) : Prop := (-1 ≤ m.a ∧ m.a ≤ 1) ∧ (-1 ≤ m.b ∧ m.b ≤ 1) ∧ (-1 ≤ m.c ∧ m.c ≤ 1) ∧ (-1 ≤ m.d ∧ m.d ≤ 1)
theorem small_mul {a x : Int} (h : -1 ≤ a ∧ a ≤ 1) (hx : -1000 ≤ x ∧ x ≤ 1000) : -1000 ≤ a * x ∧ a * x ≤ 1000 := by
  have : a = -1 ∨ a = 0 ∨ a = 1 := by omega
  rcases this with rfl | rfl | rfl <;> omega
theorem fixes_any (m : Mv) (x y : Int) (w : World) (hm : SmallM m) (he : -1000 ≤ m.e ∧ m.e ≤ 1000) (hf : -1000 ≤ m.f ∧ m.f ≤ 1000) (hx : -1000 ≤ x ∧ x ≤ 1000) (hy : -1000 ≤ y ∧ y ≤ 1000) :
    Calls Tryd.prog 103 #[m.v, .int .i64 x, .int .i64 y] w fun e w' => e = .returned (.bool (fixB m x y)) ∧ Kp w w' := by
  obtain ⟨a, b, c', d, e, f⟩ := m
  unfold SmallM at hm
  simp only at hm he hf
  obtain ⟨ha, hb, hc, hd⟩ := hm
  have ax := small_mul ha hx
  have ay := small_mul hb hy
  have cx := small_mul hc hx
  have cy := small_mul hd hy
  have Hq := hid (show fixB ⟨a, b, c', d, e, f⟩ x y = decide (a * x + b * y + 2 * e = x ∧ c' * x + d * y + 2 * f = y) from rfl)
  generalize hq : fixB ⟨a, b, c', d, e, f⟩ x y = q at *
  clear hq
  have HA := hid (show Has (w.alloc (.cells #[.int .i64 a, .int .i64 b, .int .i64 c', .int .i64 d, .int .i64 e, .int .i64 f] 41)) (blk w.heap.size #[.int .i64 a, .int .i64 b, .int .i64 c', .int .i64 d, .int .i64 e, .int .i64 f] 41 + MS.all w) from (Has.all w).alloc _)
  have HE := hid (Ext.alloc w (.cells #[.int .i64 a, .int .i64 b, .int .i64 c', .int .i64 d, .int .i64 e, .int .i64 f] 41))
  show Calls Tryd.prog 103 #[.agg #[.int .i64 a, .int .i64 b, .int .i64 c', .int .i64 d, .int .i64 e, .int .i64 f], .int .i64 x, .int .i64 y] w _
  have w1 : IntKind.i64.wrap (a * x) = a * x := by rw [IntKind.wrap_i64]; omega
  have w2 : IntKind.i64.wrap (b * y) = b * y := by rw [IntKind.wrap_i64]; omega
  have w3 : IntKind.i64.wrap (c' * x) = c' * x := by rw [IntKind.wrap_i64]; omega
  have w4 : IntKind.i64.wrap (d * y) = d * y := by rw [IntKind.wrap_i64]; omega
  have w5 : IntKind.i64.wrap (2 * e) = 2 * e := by rw [IntKind.wrap_i64]; omega
  have w6 : IntKind.i64.wrap (2 * f) = 2 * f := by rw [IntKind.wrap_i64]; omega
  have w7 : IntKind.i64.wrap (a * x + b * y) = a * x + b * y := by rw [IntKind.wrap_i64]; omega
  have w8 : IntKind.i64.wrap (c' * x + d * y) = c' * x + d * y := by rw [IntKind.wrap_i64]; omega
  have w9 : IntKind.i64.wrap (a * x + b * y + 2 * e) = a * x + b * y + 2 * e := by rw [IntKind.wrap_i64]; omega
  have w10 : IntKind.i64.wrap (c' * x + d * y + 2 * f) = c' * x + d * y + 2 * f := by rw [IntKind.wrap_i64]; omega
  clear ha hb hc hd ax ay cx cy he hf hx hy
  by_cases h1 : a * x + b * y + 2 * e = x
  · have h1b : (a * x + b * y + 2 * e == x) = true := by rw [beq_iff_eq]; exact h1
    have Hq2 := hid (show q = (c' * x + d * y + 2 * f == y) by rw [Hq.out, Bool.eq_iff_iff]; simp [h1])
    clear h1
    go_enter Tryd.func103, Tryd.ntmps103
    go_wp2
    go_ret
    exact ⟨by rw [Hq2.out]; rfl, fun M hM => hM.of_all HA.out, HE.out⟩
  · have h1b : (a * x + b * y + 2 * e == x) = false := by rw [beq_eq_false_iff_ne]; exact h1
    have Hq2 := hid (show q = false by rw [Hq.out]; simp [h1])
    clear h1
    go_enter Tryd.func103, Tryd.ntmps103
    go_wp2
    go_ret
    exact ⟨by rw [Hq2.out]; rfl, fun M hM => hM.of_all HA.out, HE.out⟩
end Go.Proofs.YteibbnmlmbhkpaaDoor

/-
  The walks of Smallest's closures.
-/
import Derived.Test.YteibbnmlmbhkpaaDoorRW5
namespace Go.Proofs.YteibbnmlmbhkpaaDoor
open Go.RowKit
set_option linter.unusedVariables false
set_option linter.unusedSimpArgs false
set_option maxHeartbeats 2000000
set_option maxRecDepth 100000

theorem shiftX_any (n : Int) (w : World) : Calls Tryd.prog 52 #[.int .i64 n] w fun e w' => e = .returned (.agg #[.int .i64 1, .int .i64 0, .int .i64 0, .int .i64 1, .int .i64 n, .int .i64 0]) ∧ Kp w w' := by
  have HA := hid (show Has (w.alloc (.cells #[.int .i64 0, .int .i64 0, .int .i64 0, .int .i64 0, .int .i64 0, .int .i64 0] 41)) (blk w.heap.size #[.int .i64 0, .int .i64 0, .int .i64 0, .int .i64 0, .int .i64 0, .int .i64 0] 41 + MS.all w) from (Has.all w).alloc _)
  have HE := hid (Ext.alloc w (.cells #[.int .i64 0, .int .i64 0, .int .i64 0, .int .i64 0, .int .i64 0, .int .i64 0] 41))
  go_enter Tryd.func52, Tryd.ntmps52
  go_wp2_with (refine wpList_store_whole rfl (.tmp 2) (.tmp 4) 41 rfl 6 size41 w.heap.size (.agg #[.int .i64 1, .int .i64 0, .int .i64 0, .int .i64 1, .int .i64 n, .int .i64 0]) rfl rfl rfl (by simp [Value.cells, Value.oneCell']) #[.int .i64 0, .int .i64 0, .int .i64 0, .int .i64 0, .int .i64 0, .int .i64 0] 41 _ HA.out rfl ?_; intro w6 k1 k2; have K6 := hid (show Has w6 (blk w.heap.size #[.int .i64 1, .int .i64 0, .int .i64 0, .int .i64 1, .int .i64 n, .int .i64 0] 41 + MS.all w) from k1); have E6 := hid (HE.out.trans k2); clear k1 k2)
  have q0 : w6.cell? ⟨w.heap.size, 0, none⟩ = some (.int .i64 1) := K6.out.at_ rfl
  have q1 : w6.cell? ⟨w.heap.size, 1, none⟩ = some (.int .i64 0) := K6.out.at_ rfl
  have q2 : w6.cell? ⟨w.heap.size, 2, none⟩ = some (.int .i64 0) := K6.out.at_ rfl
  have q3 : w6.cell? ⟨w.heap.size, 3, none⟩ = some (.int .i64 1) := K6.out.at_ rfl
  have q4 : w6.cell? ⟨w.heap.size, 4, none⟩ = some (.int .i64 n) := K6.out.at_ rfl
  have q5 : w6.cell? ⟨w.heap.size, 5, none⟩ = some (.int .i64 0) := K6.out.at_ rfl
  exact bodyPost_ret (v := .agg #[.int .i64 1, .int .i64 0, .int .i64 0, .int .i64 1, .int .i64 n, .int .i64 0]) (by simp [results, Tryd.results52, go_sem, q0, q1, q2, q3, q4, q5]) rfl ⟨rfl, fun M hM => hM.of_all K6.out, E6.out⟩
theorem shiftY_any (n : Int) (w : World) : Calls Tryd.prog 53 #[.int .i64 n] w fun e w' => e = .returned (.agg #[.int .i64 1, .int .i64 0, .int .i64 0, .int .i64 1, .int .i64 0, .int .i64 n]) ∧ Kp w w' := by
  have HA := hid (show Has (w.alloc (.cells #[.int .i64 0, .int .i64 0, .int .i64 0, .int .i64 0, .int .i64 0, .int .i64 0] 41)) (blk w.heap.size #[.int .i64 0, .int .i64 0, .int .i64 0, .int .i64 0, .int .i64 0, .int .i64 0] 41 + MS.all w) from (Has.all w).alloc _)
  have HE := hid (Ext.alloc w (.cells #[.int .i64 0, .int .i64 0, .int .i64 0, .int .i64 0, .int .i64 0, .int .i64 0] 41))
  go_enter Tryd.func53, Tryd.ntmps53
  go_wp2_with (refine wpList_store_whole rfl (.tmp 2) (.tmp 4) 41 rfl 6 size41 w.heap.size (.agg #[.int .i64 1, .int .i64 0, .int .i64 0, .int .i64 1, .int .i64 0, .int .i64 n]) rfl rfl rfl (by simp [Value.cells, Value.oneCell']) #[.int .i64 0, .int .i64 0, .int .i64 0, .int .i64 0, .int .i64 0, .int .i64 0] 41 _ HA.out rfl ?_; intro w6 k1 k2; have K6 := hid (show Has w6 (blk w.heap.size #[.int .i64 1, .int .i64 0, .int .i64 0, .int .i64 1, .int .i64 0, .int .i64 n] 41 + MS.all w) from k1); have E6 := hid (HE.out.trans k2); clear k1 k2)
  have q0 : w6.cell? ⟨w.heap.size, 0, none⟩ = some (.int .i64 1) := K6.out.at_ rfl
  have q1 : w6.cell? ⟨w.heap.size, 1, none⟩ = some (.int .i64 0) := K6.out.at_ rfl
  have q2 : w6.cell? ⟨w.heap.size, 2, none⟩ = some (.int .i64 0) := K6.out.at_ rfl
  have q3 : w6.cell? ⟨w.heap.size, 3, none⟩ = some (.int .i64 1) := K6.out.at_ rfl
  have q4 : w6.cell? ⟨w.heap.size, 4, none⟩ = some (.int .i64 0) := K6.out.at_ rfl
  have q5 : w6.cell? ⟨w.heap.size, 5, none⟩ = some (.int .i64 n) := K6.out.at_ rfl
  exact bodyPost_ret (v := .agg #[.int .i64 1, .int .i64 0, .int .i64 0, .int .i64 1, .int .i64 0, .int .i64 n]) (by simp [results, Tryd.results53, go_sem, q0, q1, q2, q3, q4, q5]) rfl ⟨rfl, fun M hM => hM.of_all K6.out, E6.out⟩
section
variable {P : Program} {ops : Array Oper} {Q : Exit → Act → World → Prop} {S : World → Prop} {last : Option Nat} {i : Nat} {o : Oper} {tl : List Oper} {rest : List (Nat × Bool)} {a : Act} {w : World}
theorem txt_eff_off (hS : S w) (hi : ops.toList.drop i = o :: tl) (hg : Region.wanted o (yielded ops a.tmps) = false)
    (h : wpTxt P ops Q S last rest (a.put o.dst undef) w) : wpTxt P ops Q S last ((i, false) :: rest) a w := by
  unfold wpTxt wpOp
  simp only [at_drop hi, hg, Bool.false_eq_true, if_false]
  exact ⟨fun _ => hS, h⟩
end
/-- The least number with which something holds, up to a greatest one. -/
structure IsMin (q : Nat → Bool) (most n : Nat) : Prop where
  n1 : 1 ≤ n
  nm : n ≤ most
  no : ∀ i, 1 ≤ i → i < n → q i = false
  hit : n < most → q n = true
theorem IsMin.uniq {q : Nat → Bool} {most n n' : Nat} (h : IsMin q most n) (h' : IsMin q most n') : n = n' := by
  rcases Nat.lt_trichotomy n n' with hl | hl | hl
  · have := h'.no n h.n1 hl
    rw [h.hit (by have := h'.nm; omega)] at this; cases this
  · exact hl
  · have := h.no n' h'.n1 hl
    rw [h'.hit (by have := h.nm; omega)] at this; cases this
theorem leastX_any {F : MS} {p : List ByteArray} {fb bx : Nat} {w : World} (h : Flo F p fb) (hp : PatOk p) (hx : F.at bx 0 (.pointer (some ⟨fb, 0, none⟩))) (hH : Has w F) (most : Nat) (h1 : 1 ≤ most) (h6 : most ≤ 6) :
    Calls Tryd.prog 50 #[.int .i64 most, .func (.func 52) #[] #[], .pointer (some ⟨bx, 0, none⟩)] w fun e w' => ∃ n : Nat, e = .returned (.int .i64 n) ∧ IsMin (fun n => shB p n 0) most n ∧ Kp w w' := by
  have Hk := hid (fun (W : World) (hW : Has W F) (n : Nat) => show Calls Tryd.prog 51 #[.pointer (some ⟨fb, 0, none⟩), .agg #[.int .i64 1, .int .i64 0, .int .i64 0, .int .i64 1, .int .i64 n, .int .i64 0]] W fun e w' => e = .returned (.bool (shB p n 0)) ∧ Kp W w' from keeps_any h hp hW ⟨1, 0, 0, 1, n, 0⟩)
  have Hx := hid hx
  have HH := hid hH
  have H1 := hid h1
  have hmI : (most : Int) ≤ 6 := by omega
  clear h hp hx hH h1 h6
  go_enter Tryd.func50, Tryd.ntmps50
  go_wp2
  go_loopw [6] (fun v wr => ∃ n : Nat, 1 ≤ n ∧ n ≤ most ∧ v = .int .i64 n ∧ (∀ i, 1 ≤ i → i < n → (fun n => shB p n 0) i = false) ∧ Kp w wr) (fun v _ => most - (intOf v).toNat)
  case atStart => exact ⟨1, Nat.le_refl _, H1.out, rfl, fun i h1 h2 => by omega, Kp.refl _⟩
  case round =>
    obtain ⟨n, hn1, hnm, rfl, hno, hK⟩ := hrel
    have Hn1 := hid hn1
    have Hnm := hid hnm
    have Hno := hid hno
    have HK := hid hK
    have HF := hid (hK.1 _ HH.out)
    clear hno hK
    have hS : wr.drew.cell? ⟨bx, 0, none⟩ = some (.pointer (some ⟨fb, 0, none⟩)) := Hx.out.c0 HF.out.drew
    by_cases hlt : n < most
    · have hltI : (n : Int) < most := by omega
      have Hlt := hid hlt
      clear hn1 hnm hlt
      obtain ⟨q, hq⟩ : ∃ q, q = shB p n 0 := ⟨_, rfl⟩
      have Hkq := hid (fun (W : World) (hW : Has W F) => Hk.out W hW n)
      rw [← hq] at Hkq
      have Hq := hid hq
      clear hq
      cases q with
      | true =>
        go_wp2
        refine wp_region_txt (fun W => W.cell? ⟨bx, 0, none⟩ = some (.pointer (some ⟨fb, 0, none⟩))) none
          [(0, true), (1, true), (2, true), (3, true), (4, true), (5, true), (6, true), (7, false), (8, false), (9, true), (10, true)] (by kernel_rfl) rfl (by kernel_rfl) (by kernel_rfl) (by repeat (first | with_reducible refine PanicOk.thn ?_ | with_reducible refine PanicOk.blk ?_ | exact PanicOk.body _ _ _)) ?_
        repeat
          (refine txt_quiet ?_ hS rfl rfl (fun W hW => ?_) ?_
           rotate_left 1
           · obtain hW1 := hW
             go_simp
             exact rfl
           simp only [Act.put, List.setIfInBounds_toArray, List.set_cons_zero, List.set_cons_succ])
        refine txt_op rfl rfl ?_
        refine op_call 52 #[.int .i64 n] wr.drew (by go_simp) _ (shiftX_any n wr.drew) ?_
        rintro e1 w1 ⟨rfl, k1⟩
        have K1 := hid (k1.1 _ HF.out.drew)
        have E1 := hid ((Kp.drewN HK.out 1).trans k1)
        refine ⟨_, rfl, fun _ => Hx.out.c0 K1.out, ?_⟩
        clear hS k1
        simp only [Act.put, List.setIfInBounds_toArray, List.set_cons_zero, List.set_cons_succ]
        have hS := Hx.out.c0 K1.out
        refine txt_op rfl rfl ?_
        refine op_call 51 #[.pointer (some ⟨fb, 0, none⟩), .agg #[.int .i64 1, .int .i64 0, .int .i64 0, .int .i64 1, .int .i64 n, .int .i64 0]] w1 (by go_simp) _ (Hkq.out w1 K1.out) ?_
        rintro e2 w2 ⟨rfl, k1⟩
        have K2 := hid (k1.1 _ K1.out)
        have E2 := hid (E1.out.trans k1)
        refine ⟨_, rfl, fun _ => Hx.out.c0 K2.out, ?_⟩
        clear hS k1
        simp only [Act.put, List.setIfInBounds_toArray, List.set_cons_zero, List.set_cons_succ]
        have hS := Hx.out.c0 K2.out
        repeat
          (refine txt_quiet ?_ hS rfl rfl (fun W hW => ?_) ?_
           rotate_left 1
           · obtain hW1 := hW
             go_simp
             exact rfl
           simp only [Act.put, List.setIfInBounds_toArray, List.set_cons_zero, List.set_cons_succ])
        refine txt_done ?_
        go_wp2
        go_ret
        exact ⟨n, rfl, ⟨Hn1.out, Hnm.out, Hno.out, fun _ => Hq.out.symm⟩, E2.out⟩
      | false =>
        go_wp2
        refine wp_region_txt (fun W => W.cell? ⟨bx, 0, none⟩ = some (.pointer (some ⟨fb, 0, none⟩))) none
          [(0, true), (1, true), (2, true), (3, true), (4, true), (5, true), (6, true), (7, false), (8, false), (9, true), (10, true)] (by kernel_rfl) rfl (by kernel_rfl) (by kernel_rfl) (by repeat (first | with_reducible refine PanicOk.thn ?_ | with_reducible refine PanicOk.blk ?_ | exact PanicOk.body _ _ _)) ?_
        repeat
          (refine txt_quiet ?_ hS rfl rfl (fun W hW => ?_) ?_
           rotate_left 1
           · obtain hW1 := hW
             go_simp
             exact rfl
           simp only [Act.put, List.setIfInBounds_toArray, List.set_cons_zero, List.set_cons_succ])
        refine txt_op rfl rfl ?_
        refine op_call 52 #[.int .i64 n] wr.drew (by go_simp) _ (shiftX_any n wr.drew) ?_
        rintro e1 w1 ⟨rfl, k1⟩
        have K1 := hid (k1.1 _ HF.out.drew)
        have E1 := hid ((Kp.drewN HK.out 1).trans k1)
        refine ⟨_, rfl, fun _ => Hx.out.c0 K1.out, ?_⟩
        clear hS k1
        simp only [Act.put, List.setIfInBounds_toArray, List.set_cons_zero, List.set_cons_succ]
        have hS := Hx.out.c0 K1.out
        refine txt_op rfl rfl ?_
        refine op_call 51 #[.pointer (some ⟨fb, 0, none⟩), .agg #[.int .i64 1, .int .i64 0, .int .i64 0, .int .i64 1, .int .i64 n, .int .i64 0]] w1 (by go_simp) _ (Hkq.out w1 K1.out) ?_
        rintro e2 w2 ⟨rfl, k1⟩
        have K2 := hid (k1.1 _ K1.out)
        have E2 := hid (E1.out.trans k1)
        refine ⟨_, rfl, fun _ => Hx.out.c0 K2.out, ?_⟩
        clear hS k1
        simp only [Act.put, List.setIfInBounds_toArray, List.set_cons_zero, List.set_cons_succ]
        have hS := Hx.out.c0 K2.out
        repeat
          (refine txt_quiet ?_ hS rfl rfl (fun W hW => ?_) ?_
           rotate_left 1
           · obtain hW1 := hW
             go_simp
             exact rfl
           simp only [Act.put, List.setIfInBounds_toArray, List.set_cons_zero, List.set_cons_succ])
        refine txt_done ?_
        go_wp2
        go_roundw
        case rel => exact ⟨n + 1, by omega, Hlt.out, by go_num, fun i h1 h2 => by
          by_cases hin : i = n
          · rw [hin]; exact Hq.out.symm
          · exact Hno.out i h1 (by omega), E2.out⟩
        case measure => have := Hlt.out; simp [intOf]; omega
    · have hne : n = most := by omega
      subst hne
      clear hlt hn1 hnm
      go_wp2
      refine wp_region_txt (fun W => W.cell? ⟨bx, 0, none⟩ = some (.pointer (some ⟨fb, 0, none⟩))) none
        [(0, true), (1, true), (2, true), (3, true), (4, true), (5, true), (6, true), (7, false), (8, false), (9, true), (10, true)] (by kernel_rfl) rfl (by kernel_rfl) (by kernel_rfl) (by repeat (first | with_reducible refine PanicOk.thn ?_ | with_reducible refine PanicOk.blk ?_ | exact PanicOk.body _ _ _)) ?_
      repeat
        (refine txt_quiet ?_ hS rfl rfl (fun W hW => ?_) ?_
         rotate_left 1
         · obtain hW1 := hW
           go_simp
           exact rfl
         simp only [Act.put, List.setIfInBounds_toArray, List.set_cons_zero, List.set_cons_succ])
      refine txt_off hS rfl rfl ?_
      simp only [Act.put, List.setIfInBounds_toArray, List.set_cons_zero, List.set_cons_succ]
      refine txt_off hS rfl rfl ?_
      simp only [Act.put, List.setIfInBounds_toArray, List.set_cons_zero, List.set_cons_succ]
      refine txt_off hS rfl rfl ?_
      simp only [Act.put, List.setIfInBounds_toArray, List.set_cons_zero, List.set_cons_succ]
      refine txt_eff_off hS rfl rfl ?_
      simp only [Act.put, List.setIfInBounds_toArray, List.set_cons_zero, List.set_cons_succ]
      refine txt_eff_off hS rfl rfl ?_
      simp only [Act.put, List.setIfInBounds_toArray, List.set_cons_zero, List.set_cons_succ]
      refine txt_off hS rfl rfl ?_
      simp only [Act.put, List.setIfInBounds_toArray, List.set_cons_zero, List.set_cons_succ]
      repeat
        (refine txt_quiet ?_ hS rfl rfl (fun W hW => ?_) ?_
         rotate_left 1
         · obtain hW1 := hW
           go_simp
           exact rfl
         simp only [Act.put, List.setIfInBounds_toArray, List.set_cons_zero, List.set_cons_succ])
      refine txt_done ?_
      go_wp2
      go_ret
      exact ⟨n, rfl, ⟨Hn1.out, Nat.le_refl _, Hno.out, fun h => absurd h (Nat.lt_irrefl _)⟩, Kp.drewN HK.out 1⟩
theorem leastY_any {F : MS} {p : List ByteArray} {fb bx : Nat} {w : World} (h : Flo F p fb) (hp : PatOk p) (hx : F.at bx 0 (.pointer (some ⟨fb, 0, none⟩))) (hH : Has w F) (most : Nat) (h1 : 1 ≤ most) (h6 : most ≤ 6) :
    Calls Tryd.prog 50 #[.int .i64 most, .func (.func 53) #[] #[], .pointer (some ⟨bx, 0, none⟩)] w fun e w' => ∃ n : Nat, e = .returned (.int .i64 n) ∧ IsMin (fun n => shB p 0 n) most n ∧ Kp w w' := by
  have Hk := hid (fun (W : World) (hW : Has W F) (n : Nat) => show Calls Tryd.prog 51 #[.pointer (some ⟨fb, 0, none⟩), .agg #[.int .i64 1, .int .i64 0, .int .i64 0, .int .i64 1, .int .i64 0, .int .i64 n]] W fun e w' => e = .returned (.bool (shB p 0 n)) ∧ Kp W w' from keeps_any h hp hW ⟨1, 0, 0, 1, 0, n⟩)
  have Hx := hid hx
  have HH := hid hH
  have H1 := hid h1
  have hmI : (most : Int) ≤ 6 := by omega
  clear h hp hx hH h1 h6
  go_enter Tryd.func50, Tryd.ntmps50
  go_wp2
  go_loopw [6] (fun v wr => ∃ n : Nat, 1 ≤ n ∧ n ≤ most ∧ v = .int .i64 n ∧ (∀ i, 1 ≤ i → i < n → (fun n => shB p 0 n) i = false) ∧ Kp w wr) (fun v _ => most - (intOf v).toNat)
  case atStart => exact ⟨1, Nat.le_refl _, H1.out, rfl, fun i h1 h2 => by omega, Kp.refl _⟩
  case round =>
    obtain ⟨n, hn1, hnm, rfl, hno, hK⟩ := hrel
    have Hn1 := hid hn1
    have Hnm := hid hnm
    have Hno := hid hno
    have HK := hid hK
    have HF := hid (hK.1 _ HH.out)
    clear hno hK
    have hS : wr.drew.cell? ⟨bx, 0, none⟩ = some (.pointer (some ⟨fb, 0, none⟩)) := Hx.out.c0 HF.out.drew
    by_cases hlt : n < most
    · have hltI : (n : Int) < most := by omega
      have Hlt := hid hlt
      clear hn1 hnm hlt
      obtain ⟨q, hq⟩ : ∃ q, q = shB p 0 n := ⟨_, rfl⟩
      have Hkq := hid (fun (W : World) (hW : Has W F) => Hk.out W hW n)
      rw [← hq] at Hkq
      have Hq := hid hq
      clear hq
      cases q with
      | true =>
        go_wp2
        refine wp_region_txt (fun W => W.cell? ⟨bx, 0, none⟩ = some (.pointer (some ⟨fb, 0, none⟩))) none
          [(0, true), (1, true), (2, true), (3, true), (4, true), (5, true), (6, true), (7, false), (8, false), (9, true), (10, true)] (by kernel_rfl) rfl (by kernel_rfl) (by kernel_rfl) (by repeat (first | with_reducible refine PanicOk.thn ?_ | with_reducible refine PanicOk.blk ?_ | exact PanicOk.body _ _ _)) ?_
        repeat
          (refine txt_quiet ?_ hS rfl rfl (fun W hW => ?_) ?_
           rotate_left 1
           · obtain hW1 := hW
             go_simp
             exact rfl
           simp only [Act.put, List.setIfInBounds_toArray, List.set_cons_zero, List.set_cons_succ])
        refine txt_op rfl rfl ?_
        refine op_call 53 #[.int .i64 n] wr.drew (by go_simp) _ (shiftY_any n wr.drew) ?_
        rintro e1 w1 ⟨rfl, k1⟩
        have K1 := hid (k1.1 _ HF.out.drew)
        have E1 := hid ((Kp.drewN HK.out 1).trans k1)
        refine ⟨_, rfl, fun _ => Hx.out.c0 K1.out, ?_⟩
        clear hS k1
        simp only [Act.put, List.setIfInBounds_toArray, List.set_cons_zero, List.set_cons_succ]
        have hS := Hx.out.c0 K1.out
        refine txt_op rfl rfl ?_
        refine op_call 51 #[.pointer (some ⟨fb, 0, none⟩), .agg #[.int .i64 1, .int .i64 0, .int .i64 0, .int .i64 1, .int .i64 0, .int .i64 n]] w1 (by go_simp) _ (Hkq.out w1 K1.out) ?_
        rintro e2 w2 ⟨rfl, k1⟩
        have K2 := hid (k1.1 _ K1.out)
        have E2 := hid (E1.out.trans k1)
        refine ⟨_, rfl, fun _ => Hx.out.c0 K2.out, ?_⟩
        clear hS k1
        simp only [Act.put, List.setIfInBounds_toArray, List.set_cons_zero, List.set_cons_succ]
        have hS := Hx.out.c0 K2.out
        repeat
          (refine txt_quiet ?_ hS rfl rfl (fun W hW => ?_) ?_
           rotate_left 1
           · obtain hW1 := hW
             go_simp
             exact rfl
           simp only [Act.put, List.setIfInBounds_toArray, List.set_cons_zero, List.set_cons_succ])
        refine txt_done ?_
        go_wp2
        go_ret
        exact ⟨n, rfl, ⟨Hn1.out, Hnm.out, Hno.out, fun _ => Hq.out.symm⟩, E2.out⟩
      | false =>
        go_wp2
        refine wp_region_txt (fun W => W.cell? ⟨bx, 0, none⟩ = some (.pointer (some ⟨fb, 0, none⟩))) none
          [(0, true), (1, true), (2, true), (3, true), (4, true), (5, true), (6, true), (7, false), (8, false), (9, true), (10, true)] (by kernel_rfl) rfl (by kernel_rfl) (by kernel_rfl) (by repeat (first | with_reducible refine PanicOk.thn ?_ | with_reducible refine PanicOk.blk ?_ | exact PanicOk.body _ _ _)) ?_
        repeat
          (refine txt_quiet ?_ hS rfl rfl (fun W hW => ?_) ?_
           rotate_left 1
           · obtain hW1 := hW
             go_simp
             exact rfl
           simp only [Act.put, List.setIfInBounds_toArray, List.set_cons_zero, List.set_cons_succ])
        refine txt_op rfl rfl ?_
        refine op_call 53 #[.int .i64 n] wr.drew (by go_simp) _ (shiftY_any n wr.drew) ?_
        rintro e1 w1 ⟨rfl, k1⟩
        have K1 := hid (k1.1 _ HF.out.drew)
        have E1 := hid ((Kp.drewN HK.out 1).trans k1)
        refine ⟨_, rfl, fun _ => Hx.out.c0 K1.out, ?_⟩
        clear hS k1
        simp only [Act.put, List.setIfInBounds_toArray, List.set_cons_zero, List.set_cons_succ]
        have hS := Hx.out.c0 K1.out
        refine txt_op rfl rfl ?_
        refine op_call 51 #[.pointer (some ⟨fb, 0, none⟩), .agg #[.int .i64 1, .int .i64 0, .int .i64 0, .int .i64 1, .int .i64 0, .int .i64 n]] w1 (by go_simp) _ (Hkq.out w1 K1.out) ?_
        rintro e2 w2 ⟨rfl, k1⟩
        have K2 := hid (k1.1 _ K1.out)
        have E2 := hid (E1.out.trans k1)
        refine ⟨_, rfl, fun _ => Hx.out.c0 K2.out, ?_⟩
        clear hS k1
        simp only [Act.put, List.setIfInBounds_toArray, List.set_cons_zero, List.set_cons_succ]
        have hS := Hx.out.c0 K2.out
        repeat
          (refine txt_quiet ?_ hS rfl rfl (fun W hW => ?_) ?_
           rotate_left 1
           · obtain hW1 := hW
             go_simp
             exact rfl
           simp only [Act.put, List.setIfInBounds_toArray, List.set_cons_zero, List.set_cons_succ])
        refine txt_done ?_
        go_wp2
        go_roundw
        case rel => exact ⟨n + 1, by omega, Hlt.out, by go_num, fun i h1 h2 => by
          by_cases hin : i = n
          · rw [hin]; exact Hq.out.symm
          · exact Hno.out i h1 (by omega), E2.out⟩
        case measure => have := Hlt.out; simp [intOf]; omega
    · have hne : n = most := by omega
      subst hne
      clear hlt hn1 hnm
      go_wp2
      refine wp_region_txt (fun W => W.cell? ⟨bx, 0, none⟩ = some (.pointer (some ⟨fb, 0, none⟩))) none
        [(0, true), (1, true), (2, true), (3, true), (4, true), (5, true), (6, true), (7, false), (8, false), (9, true), (10, true)] (by kernel_rfl) rfl (by kernel_rfl) (by kernel_rfl) (by repeat (first | with_reducible refine PanicOk.thn ?_ | with_reducible refine PanicOk.blk ?_ | exact PanicOk.body _ _ _)) ?_
      repeat
        (refine txt_quiet ?_ hS rfl rfl (fun W hW => ?_) ?_
         rotate_left 1
         · obtain hW1 := hW
           go_simp
           exact rfl
         simp only [Act.put, List.setIfInBounds_toArray, List.set_cons_zero, List.set_cons_succ])
      refine txt_off hS rfl rfl ?_
      simp only [Act.put, List.setIfInBounds_toArray, List.set_cons_zero, List.set_cons_succ]
      refine txt_off hS rfl rfl ?_
      simp only [Act.put, List.setIfInBounds_toArray, List.set_cons_zero, List.set_cons_succ]
      refine txt_off hS rfl rfl ?_
      simp only [Act.put, List.setIfInBounds_toArray, List.set_cons_zero, List.set_cons_succ]
      refine txt_eff_off hS rfl rfl ?_
      simp only [Act.put, List.setIfInBounds_toArray, List.set_cons_zero, List.set_cons_succ]
      refine txt_eff_off hS rfl rfl ?_
      simp only [Act.put, List.setIfInBounds_toArray, List.set_cons_zero, List.set_cons_succ]
      refine txt_off hS rfl rfl ?_
      simp only [Act.put, List.setIfInBounds_toArray, List.set_cons_zero, List.set_cons_succ]
      repeat
        (refine txt_quiet ?_ hS rfl rfl (fun W hW => ?_) ?_
         rotate_left 1
         · obtain hW1 := hW
           go_simp
           exact rfl
         simp only [Act.put, List.setIfInBounds_toArray, List.set_cons_zero, List.set_cons_succ])
      refine txt_done ?_
      go_wp2
      go_ret
      exact ⟨n, rfl, ⟨Hn1.out, Nat.le_refl _, Hno.out, fun h => absurd h (Nat.lt_irrefl _)⟩, Kp.drewN HK.out 1⟩
end Go.Proofs.YteibbnmlmbhkpaaDoor

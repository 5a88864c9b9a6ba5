/-
  The walks of the reference's parallel and own.
-/
import Derived.Test.YteibbnmlmbhkpaaDoorRW8
import Derived.Test.YteibbnmlmbhkpaaDoorPNames2
namespace Go.Proofs.YteibbnmlmbhkpaaDoor
open Go.RowKit
set_option linter.unusedVariables false
set_option linter.unusedSimpArgs false
set_option maxHeartbeats 2000000
set_option maxRecDepth 100000

section
variable {P : Program} {ops : Array Oper} {Q : Exit → Act → World → Prop} {S : World → Prop} {last : Option Nat} {i : Nat} {o : Oper} {tl : List Oper} {rest : List (Nat × Bool)} {a : Act} {w : World}
theorem txt_op_off (hS : S w) (hi : ops.toList.drop i = o :: tl) (hg : Region.wanted o (yielded ops a.tmps) = false)
    (h : wpTxt P ops Q S last rest (a.put o.dst undef) w) : wpTxt P ops Q S last ((i, false) :: rest) a w := by
  unfold wpTxt wpOp
  simp only [at_drop hi, hg, Bool.false_eq_true, if_false]
  exact ⟨fun _ => hS, h⟩
end
/-- How many of the kinds of mirrors so far. -/
def cntK (a4 a5 a6 a7 : Bool) (k : Nat) : Nat := (if 4 < k then a4.toNat else 0) + (if 5 < k then a5.toNat else 0) + (if 6 < k then a6.toNat else 0) + (if 7 < k then a7.toNat else 0)
theorem parallel_any (o : Int) (fl mi a4 a5 a6 a7 al tu : Bool) (w : World) :
    Calls Tryd.prog 72 #[.agg #[.int .i64 o, .bool fl, .bool mi, .bool false, .bool false, .bool false, .bool false, .bool a4, .bool a5, .bool a6, .bool a7, .bool al, .bool tu]] w fun e w' => e = .returned (.bool (decide (cnt4 a4 a5 a6 a7 = 1))) ∧ Kp w w' := by
  have HA := hid (show Has (w.alloc (.cells #[.int .i64 o, .bool fl, .bool mi, .bool false, .bool false, .bool false, .bool false, .bool a4, .bool a5, .bool a6, .bool a7, .bool al, .bool tu] 116)) (blk w.heap.size #[.int .i64 o, .bool fl, .bool mi, .bool false, .bool false, .bool false, .bool false, .bool a4, .bool a5, .bool a6, .bool a7, .bool al, .bool tu] 116 + MS.all w) from (Has.all w).alloc _)
  have HE := hid (Ext.alloc w (.cells #[.int .i64 o, .bool fl, .bool mi, .bool false, .bool false, .bool false, .bool false, .bool a4, .bool a5, .bool a6, .bool a7, .bool al, .bool tu] 116))
  go_enter Tryd.func72, Tryd.ntmps72
  go_wp2
  obtain ⟨gb, hgb⟩ : ∃ gb, gb = w.heap.size := ⟨_, rfl⟩
  rw [← hgb] at HA ⊢
  clear hgb
  go_loopw [3, 4] (fun vn v wr => ∃ k : Nat, 4 ≤ k ∧ k ≤ 8 ∧ v = .int .i64 k ∧ vn = .int .i64 (cntK a4 a5 a6 a7 k) ∧ Has wr (blk gb #[.int .i64 o, .bool fl, .bool mi, .bool false, .bool false, .bool false, .bool false, .bool a4, .bool a5, .bool a6, .bool a7, .bool al, .bool tu] 116 + MS.all w) ∧ Ext w wr) (fun _ v _ => 8 - (intOf v).toNat)
  case atStart => exact ⟨4, Nat.le_refl _, by omega, rfl, rfl, HA.out, HE.out⟩
  case round =>
    obtain ⟨k, h4, h8, rfl, rfl, hW, hE⟩ := hrel
    have HW := hid hW
    have HE2 := hid hE
    clear hW hE HA HE
    have q4 : wr.cell? ⟨gb, 7, none⟩ = some (.bool a4) := HW.out.at_ rfl
    have q5 : wr.cell? ⟨gb, 8, none⟩ = some (.bool a5) := HW.out.at_ rfl
    have q6 : wr.cell? ⟨gb, 9, none⟩ = some (.bool a6) := HW.out.at_ rfl
    have q7 : wr.cell? ⟨gb, 10, none⟩ = some (.bool a7) := HW.out.at_ rfl
    by_cases hlt : k < 8
    · have h : k = 4 ∨ k = 5 ∨ k = 6 ∨ k = 7 := by omega
      have hc := hid (show cntK a4 a5 a6 a7 k ≤ 4 by unfold cntK; cases a4 <;> cases a5 <;> cases a6 <;> cases a7 <;> simp <;> (repeat' split) <;> omega)
      clear hlt h4 h8
      rcases h with rfl | rfl | rfl | rfl

      · have hs1 := hid (show a4 = true → cntK a4 a5 a6 a7 5 = cntK a4 a5 a6 a7 4 + 1 from fun h => by unfold cntK; simp [h])
        have hs0 := hid (show a4 = false → cntK a4 a5 a6 a7 5 = cntK a4 a5 a6 a7 4 from fun h => by unfold cntK; simp [h])
        generalize cntK a4 a5 a6 a7 4 = n at *
        have hnI : (n : Int) ≤ 4 := by have := hc.out; omega
        have hn0 : (0 : Int) ≤ n := by omega
        have hwn : IntKind.i64.wrap ((n : Int) + 1) = n + 1 := by rw [IntKind.wrap_i64]; omega
        obtain ⟨q, hq⟩ : ∃ q, q = a4 := ⟨_, rfl⟩
        rw [← hq] at q4
        have Hq := hid hq
        clear hq
        cases q with
        | true =>
          go_wp2
          go_roundw
          case rel => exact ⟨5, by omega, by omega, rfl, by rw [hs1.out Hq.out.symm]; go_num, HW.out, HE2.out⟩
          case measure => simp [intOf]
        | false =>
          go_wp2
          go_roundw
          case rel => exact ⟨5, by omega, by omega, rfl, by rw [hs0.out Hq.out.symm], HW.out, HE2.out⟩
          case measure => simp [intOf]
      · have hs1 := hid (show a5 = true → cntK a4 a5 a6 a7 6 = cntK a4 a5 a6 a7 5 + 1 from fun h => by unfold cntK; simp [h])
        have hs0 := hid (show a5 = false → cntK a4 a5 a6 a7 6 = cntK a4 a5 a6 a7 5 from fun h => by unfold cntK; simp [h])
        generalize cntK a4 a5 a6 a7 5 = n at *
        have hnI : (n : Int) ≤ 4 := by have := hc.out; omega
        have hn0 : (0 : Int) ≤ n := by omega
        have hwn : IntKind.i64.wrap ((n : Int) + 1) = n + 1 := by rw [IntKind.wrap_i64]; omega
        obtain ⟨q, hq⟩ : ∃ q, q = a5 := ⟨_, rfl⟩
        rw [← hq] at q5
        have Hq := hid hq
        clear hq
        cases q with
        | true =>
          go_wp2
          go_roundw
          case rel => exact ⟨6, by omega, by omega, rfl, by rw [hs1.out Hq.out.symm]; go_num, HW.out, HE2.out⟩
          case measure => simp [intOf]
        | false =>
          go_wp2
          go_roundw
          case rel => exact ⟨6, by omega, by omega, rfl, by rw [hs0.out Hq.out.symm], HW.out, HE2.out⟩
          case measure => simp [intOf]
      · have hs1 := hid (show a6 = true → cntK a4 a5 a6 a7 7 = cntK a4 a5 a6 a7 6 + 1 from fun h => by unfold cntK; simp [h])
        have hs0 := hid (show a6 = false → cntK a4 a5 a6 a7 7 = cntK a4 a5 a6 a7 6 from fun h => by unfold cntK; simp [h])
        generalize cntK a4 a5 a6 a7 6 = n at *
        have hnI : (n : Int) ≤ 4 := by have := hc.out; omega
        have hn0 : (0 : Int) ≤ n := by omega
        have hwn : IntKind.i64.wrap ((n : Int) + 1) = n + 1 := by rw [IntKind.wrap_i64]; omega
        obtain ⟨q, hq⟩ : ∃ q, q = a6 := ⟨_, rfl⟩
        rw [← hq] at q6
        have Hq := hid hq
        clear hq
        cases q with
        | true =>
          go_wp2
          go_roundw
          case rel => exact ⟨7, by omega, by omega, rfl, by rw [hs1.out Hq.out.symm]; go_num, HW.out, HE2.out⟩
          case measure => simp [intOf]
        | false =>
          go_wp2
          go_roundw
          case rel => exact ⟨7, by omega, by omega, rfl, by rw [hs0.out Hq.out.symm], HW.out, HE2.out⟩
          case measure => simp [intOf]
      · have hs1 := hid (show a7 = true → cntK a4 a5 a6 a7 8 = cntK a4 a5 a6 a7 7 + 1 from fun h => by unfold cntK; simp [h])
        have hs0 := hid (show a7 = false → cntK a4 a5 a6 a7 8 = cntK a4 a5 a6 a7 7 from fun h => by unfold cntK; simp [h])
        generalize cntK a4 a5 a6 a7 7 = n at *
        have hnI : (n : Int) ≤ 4 := by have := hc.out; omega
        have hn0 : (0 : Int) ≤ n := by omega
        have hwn : IntKind.i64.wrap ((n : Int) + 1) = n + 1 := by rw [IntKind.wrap_i64]; omega
        obtain ⟨q, hq⟩ : ∃ q, q = a7 := ⟨_, rfl⟩
        rw [← hq] at q7
        have Hq := hid hq
        clear hq
        cases q with
        | true =>
          go_wp2
          go_roundw
          case rel => exact ⟨8, by omega, by omega, rfl, by rw [hs1.out Hq.out.symm]; go_num, HW.out, HE2.out⟩
          case measure => simp [intOf]
        | false =>
          go_wp2
          go_roundw
          case rel => exact ⟨8, by omega, by omega, rfl, by rw [hs0.out Hq.out.symm], HW.out, HE2.out⟩
          case measure => simp [intOf]
    · have hke : k = 8 := by omega
      subst hke
      have hend := hid (show cntK a4 a5 a6 a7 8 = cnt4 a4 a5 a6 a7 by unfold cntK cnt4; simp)
      clear hlt h4 h8
      go_wp2
      go_ret
      refine ⟨?_, fun M hM => hM.of_all HW.out, HE2.out⟩
      have : (((cntK a4 a5 a6 a7 8 : Nat) : Int) == 1) = decide (cnt4 a4 a5 a6 a7 = 1) := by rw [hend.out, Bool.eq_iff_iff]; simp; omega
      rw [← this]; rfl

theorem own_any {F : MS} {l : List Mv} {A : Option Addr} {c : Nat} {w : World} (hr : RdS F RT.mv l (.slice A l.length c)) (hl : l.length ≤ 1000000) (hm : ∀ m ∈ l, In14 m) (hH : Has w F) :
    Calls Tryd.prog 73 #[.slice A l.length c] w fun e w' => e = .returned (.bool (ownL l)) ∧ Kp w w' := by
  have Hr := hid hr
  have HH := hid hH
  have Hm := hid hm
  have hnc := hr.cells.2.1
  obtain ⟨N, hN⟩ : ∃ N, N = l.length := ⟨_, rfl⟩
  rw [← hN] at Hr hnc hl ⊢
  have HN := hid hN
  have hNI : (N : Int) ≤ 1000000 := by omega
  obtain ⟨q, hq⟩ : ∃ q, q = ownL l := ⟨_, rfl⟩
  rw [← hq]
  have Hq := hid hq
  clear hr hH hm hN hl hq
  go_enter Tryd.func73, Tryd.ntmps73
  go_wp2
  go_loopw [3] (fun v wr => ∃ i : Nat, i ≤ N ∧ v = .int .i64 i ∧ (∀ m ∈ l.take i, (!glB m || l.any (mateB m)) = true) ∧ Kp w wr) (fun v _ => N - (intOf v).toNat)
  case atStart => exact ⟨0, Nat.zero_le _, rfl, by simp, Kp.refl _⟩
  case round =>
    obtain ⟨i, hi, rfl, hno, hK⟩ := hrel
    have Hno := hid hno
    have HK := hid hK
    clear hno hK
    by_cases hlt : i < N
    · have hltI : (i : Int) < N := by omega
      have Hlt := hid hlt
      obtain ⟨m, hm⟩ : ∃ m, l[i]? = some m := ⟨_, List.getElem?_eq_getElem (by have := HN.out; omega)⟩
      obtain ⟨b, o, hA, hcs⟩ := Hr.out.mvAt hm
      subst hA
      have Hcs := hid hcs
      have Hnext := hid (show (!glB m || l.any (mateB m)) = true → ∀ m ∈ l.take (i + 1), (!glB m || l.any (mateB m)) = true from fun h m' hm' => by
        rw [take_more hm] at hm'
        rcases List.mem_append.1 hm' with hm' | hm'
        · exact Hno.out m' hm'
        · rw [List.mem_singleton.1 hm']; exact h)
      have Hmem := hid (List.mem_of_getElem? hm)
      have h14 := Hm.out m (List.mem_of_getElem? hm)
      obtain ⟨km, hk8, hkm⟩ := h14.kind
      have Hoff := hid h14.off
      have Hmird := hid (fun W => mirrored_any m W)
      have Hmir := hid (fun W => mirror_any m W (by have := h14.off; omega) (by have := h14.off; omega))
      have Hkm := hid (fun W => refKindOf_any m W)
      obtain ⟨mir, hmir⟩ : ∃ mir, mir = isMir m := ⟨_, rfl⟩
      rw [← hmir] at Hmir
      rw [hkm] at Hmird Hkm
      have Hgl := hid (show glB m = ((decide (4 ≤ (km : Int)) && !mir) && decide ((-7 ≤ m.e ∧ m.e ≤ 7) ∧ (-7 ≤ m.f ∧ m.f ≤ 7))) by unfold glB; rw [hkm, hmir])
      have Hmt := hid (show ∀ n, mateB m n = (kindOf n == (km : Int) && (isMir n && (lineAt km m.e m.f == lineAt km n.e n.f))) from fun n => by unfold mateB smB; rw [hkm])
      have hNc1 : N ≤ c := hnc
      have HWr := hid (HK.out.1 _ HH.out)
      obtain ⟨n0, n1, n2, n3, n4, n5⟩ := Hcs.out wr HWr.out
      obtain ⟨G, hG⟩ : ∃ G, G = MS.all wr := ⟨_, rfl⟩
      have HG := hid (show Has wr G by rw [hG]; exact Has.all wr)
      have HKp := hid (show ∀ W X, Has W (X + G) → Ext wr W → Kp w W from fun W X h hE => HK.out.trans ⟨fun M hM => hM.of_all (by rw [hG] at h; exact h), hE⟩)
      have HF := hid (show ∀ W X, Has W (X + G) → Has W F from fun W X h => HWr.out.of_all (by rw [hG] at h; exact h))
      obtain ⟨ma, mb, mc, md, me, mf⟩ := m
      simp only at n0 n1 n2 n3 n4 n5
      have HA1 := hid (show Has (wr.alloc (.cells #[.int .i64 ma, .int .i64 mb, .int .i64 mc, .int .i64 md, .int .i64 me, .int .i64 mf] 41)) (blk wr.heap.size #[.int .i64 ma, .int .i64 mb, .int .i64 mc, .int .i64 md, .int .i64 me, .int .i64 mf] 41 + G) from HG.out.alloc _)
      have EA1 := hid (Ext.alloc wr (.cells #[.int .i64 ma, .int .i64 mb, .int .i64 mc, .int .i64 md, .int .i64 me, .int .i64 mf] 41))
      obtain ⟨⟨o1, o2⟩, o3, o4⟩ := Hoff.out
      simp only at o1 o2 o3 o4
      clear hlt hi hcs hm h14 hkm hmir hG
      by_cases h4 : 4 ≤ km
      rotate_left
      · have hg := hid (show glB ⟨ma, mb, mc, md, me, mf⟩ = false by rw [Hgl.out, decide_eq_false (by omega)]; rfl)
        have hd : decide (4 ≤ (km : Int)) = false := decide_eq_false (by omega)
        rw [hd] at Hmird
        clear o1 o2 o3 o4 h4 hd
        go_wp2_with (go_at_call 95; refine (Hmird.out _).mono ?_; rintro e1 w1 ⟨rfl, k1⟩; have K1 := hid (k1.1 _ HA1.out); have E1 := hid (EA1.out.trans k1.2); clear k1)
        go_roundw
        case rel => exact ⟨i + 1, Hlt.out, by go_num, Hnext.out (by rw [hg.out]; rfl), HKp.out _ _ K1.out E1.out⟩
        case measure => have := Hlt.out; simp [intOf]; omega
      have hd : decide (4 ≤ (km : Int)) = true := decide_eq_true (by omega)
      rw [hd] at Hmird
      have H4 := hid h4
      cases mir with
      | true =>
        have hg := hid (show glB ⟨ma, mb, mc, md, me, mf⟩ = false by rw [Hgl.out]; simp)
        clear o1 o2 o3 o4 h4 hd
        go_wp2_with (first
          | (go_at_call 95; refine (Hmird.out _).mono ?_; rintro e1 w1 ⟨rfl, k1⟩; have K1 := hid (k1.1 _ HA1.out); have E1 := hid (EA1.out.trans k1.2); clear k1; have p0 : w1.cell? ⟨wr.heap.size, 0, none⟩ = some (.int .i64 ma) := K1.out.at_ rfl; have p1 : w1.cell? ⟨wr.heap.size, 1, none⟩ = some (.int .i64 mb) := K1.out.at_ rfl; have p2 : w1.cell? ⟨wr.heap.size, 2, none⟩ = some (.int .i64 mc) := K1.out.at_ rfl; have p3 : w1.cell? ⟨wr.heap.size, 3, none⟩ = some (.int .i64 md) := K1.out.at_ rfl; have p4 : w1.cell? ⟨wr.heap.size, 4, none⟩ = some (.int .i64 me) := K1.out.at_ rfl; have p5 : w1.cell? ⟨wr.heap.size, 5, none⟩ = some (.int .i64 mf) := K1.out.at_ rfl)
          | (go_at_call 94; refine (Hmir.out _).mono ?_; rintro e2 w2 ⟨rfl, k2⟩; have K2 := hid (k2.1 _ K1.out); have E2 := hid (E1.out.trans k2.2); clear k2))
        go_roundw
        case rel => exact ⟨i + 1, Hlt.out, by go_num, Hnext.out (by rw [hg.out]; rfl), HKp.out _ _ K2.out E2.out⟩
        case measure => have := Hlt.out; simp [intOf]; omega
      | false =>
        by_cases hr1 : -7 ≤ me
        rotate_left
        · have hg := hid (show glB ⟨ma, mb, mc, md, me, mf⟩ = false by rw [Hgl.out, show decide ((-7 ≤ (⟨ma, mb, mc, md, me, mf⟩ : Mv).e ∧ (⟨ma, mb, mc, md, me, mf⟩ : Mv).e ≤ 7) ∧ (-7 ≤ (⟨ma, mb, mc, md, me, mf⟩ : Mv).f ∧ (⟨ma, mb, mc, md, me, mf⟩ : Mv).f ≤ 7)) = false from decide_eq_false (by show ¬ ((-7 ≤ me ∧ me ≤ 7) ∧ (-7 ≤ mf ∧ mf ≤ 7)); omega)]; simp)
          have hn1 : me < -7 := by omega
          clear hr1 h4 hd
          go_wp2_with (first
          | (go_at_call 95; refine (Hmird.out _).mono ?_; rintro e1 w1 ⟨rfl, k1⟩; have K1 := hid (k1.1 _ HA1.out); have E1 := hid (EA1.out.trans k1.2); clear k1; have p0 : w1.cell? ⟨wr.heap.size, 0, none⟩ = some (.int .i64 ma) := K1.out.at_ rfl; have p1 : w1.cell? ⟨wr.heap.size, 1, none⟩ = some (.int .i64 mb) := K1.out.at_ rfl; have p2 : w1.cell? ⟨wr.heap.size, 2, none⟩ = some (.int .i64 mc) := K1.out.at_ rfl; have p3 : w1.cell? ⟨wr.heap.size, 3, none⟩ = some (.int .i64 md) := K1.out.at_ rfl; have p4 : w1.cell? ⟨wr.heap.size, 4, none⟩ = some (.int .i64 me) := K1.out.at_ rfl; have p5 : w1.cell? ⟨wr.heap.size, 5, none⟩ = some (.int .i64 mf) := K1.out.at_ rfl)
          | (go_at_call 94; refine (Hmir.out _).mono ?_; rintro e2 w2 ⟨rfl, k2⟩; have K2 := hid (k2.1 _ K1.out); have E2 := hid (E1.out.trans k2.2); clear k2; have r0 : w2.cell? ⟨wr.heap.size, 0, none⟩ = some (.int .i64 ma) := K2.out.at_ rfl; have r1 : w2.cell? ⟨wr.heap.size, 1, none⟩ = some (.int .i64 mb) := K2.out.at_ rfl; have r2 : w2.cell? ⟨wr.heap.size, 2, none⟩ = some (.int .i64 mc) := K2.out.at_ rfl; have r3 : w2.cell? ⟨wr.heap.size, 3, none⟩ = some (.int .i64 md) := K2.out.at_ rfl; have r4 : w2.cell? ⟨wr.heap.size, 4, none⟩ = some (.int .i64 me) := K2.out.at_ rfl; have r5 : w2.cell? ⟨wr.heap.size, 5, none⟩ = some (.int .i64 mf) := K2.out.at_ rfl))
          go_roundw
          case rel => exact ⟨i + 1, Hlt.out, by go_num, Hnext.out (by rw [hg.out]; rfl), HKp.out _ _ K2.out E2.out⟩
          case measure => have := Hlt.out; simp [intOf]; omega
        by_cases hr2 : me ≤ 7
        rotate_left
        · have hg := hid (show glB ⟨ma, mb, mc, md, me, mf⟩ = false by rw [Hgl.out, show decide ((-7 ≤ (⟨ma, mb, mc, md, me, mf⟩ : Mv).e ∧ (⟨ma, mb, mc, md, me, mf⟩ : Mv).e ≤ 7) ∧ (-7 ≤ (⟨ma, mb, mc, md, me, mf⟩ : Mv).f ∧ (⟨ma, mb, mc, md, me, mf⟩ : Mv).f ≤ 7)) = false from decide_eq_false (by show ¬ ((-7 ≤ me ∧ me ≤ 7) ∧ (-7 ≤ mf ∧ mf ≤ 7)); omega)]; simp)
          have hn2 : 7 < me := by omega
          clear hr2 h4 hd
          go_wp2_with (first
          | (go_at_call 95; refine (Hmird.out _).mono ?_; rintro e1 w1 ⟨rfl, k1⟩; have K1 := hid (k1.1 _ HA1.out); have E1 := hid (EA1.out.trans k1.2); clear k1; have p0 : w1.cell? ⟨wr.heap.size, 0, none⟩ = some (.int .i64 ma) := K1.out.at_ rfl; have p1 : w1.cell? ⟨wr.heap.size, 1, none⟩ = some (.int .i64 mb) := K1.out.at_ rfl; have p2 : w1.cell? ⟨wr.heap.size, 2, none⟩ = some (.int .i64 mc) := K1.out.at_ rfl; have p3 : w1.cell? ⟨wr.heap.size, 3, none⟩ = some (.int .i64 md) := K1.out.at_ rfl; have p4 : w1.cell? ⟨wr.heap.size, 4, none⟩ = some (.int .i64 me) := K1.out.at_ rfl; have p5 : w1.cell? ⟨wr.heap.size, 5, none⟩ = some (.int .i64 mf) := K1.out.at_ rfl)
          | (go_at_call 94; refine (Hmir.out _).mono ?_; rintro e2 w2 ⟨rfl, k2⟩; have K2 := hid (k2.1 _ K1.out); have E2 := hid (E1.out.trans k2.2); clear k2; have r0 : w2.cell? ⟨wr.heap.size, 0, none⟩ = some (.int .i64 ma) := K2.out.at_ rfl; have r1 : w2.cell? ⟨wr.heap.size, 1, none⟩ = some (.int .i64 mb) := K2.out.at_ rfl; have r2 : w2.cell? ⟨wr.heap.size, 2, none⟩ = some (.int .i64 mc) := K2.out.at_ rfl; have r3 : w2.cell? ⟨wr.heap.size, 3, none⟩ = some (.int .i64 md) := K2.out.at_ rfl; have r4 : w2.cell? ⟨wr.heap.size, 4, none⟩ = some (.int .i64 me) := K2.out.at_ rfl; have r5 : w2.cell? ⟨wr.heap.size, 5, none⟩ = some (.int .i64 mf) := K2.out.at_ rfl))
          go_roundw
          case rel => exact ⟨i + 1, Hlt.out, by go_num, Hnext.out (by rw [hg.out]; rfl), HKp.out _ _ K2.out E2.out⟩
          case measure => have := Hlt.out; simp [intOf]; omega
        by_cases hr3 : -7 ≤ mf
        rotate_left
        · have hg := hid (show glB ⟨ma, mb, mc, md, me, mf⟩ = false by rw [Hgl.out, show decide ((-7 ≤ (⟨ma, mb, mc, md, me, mf⟩ : Mv).e ∧ (⟨ma, mb, mc, md, me, mf⟩ : Mv).e ≤ 7) ∧ (-7 ≤ (⟨ma, mb, mc, md, me, mf⟩ : Mv).f ∧ (⟨ma, mb, mc, md, me, mf⟩ : Mv).f ≤ 7)) = false from decide_eq_false (by show ¬ ((-7 ≤ me ∧ me ≤ 7) ∧ (-7 ≤ mf ∧ mf ≤ 7)); omega)]; simp)
          have hn3 : mf < -7 := by omega
          clear hr3 h4 hd
          go_wp2_with (first
          | (go_at_call 95; refine (Hmird.out _).mono ?_; rintro e1 w1 ⟨rfl, k1⟩; have K1 := hid (k1.1 _ HA1.out); have E1 := hid (EA1.out.trans k1.2); clear k1; have p0 : w1.cell? ⟨wr.heap.size, 0, none⟩ = some (.int .i64 ma) := K1.out.at_ rfl; have p1 : w1.cell? ⟨wr.heap.size, 1, none⟩ = some (.int .i64 mb) := K1.out.at_ rfl; have p2 : w1.cell? ⟨wr.heap.size, 2, none⟩ = some (.int .i64 mc) := K1.out.at_ rfl; have p3 : w1.cell? ⟨wr.heap.size, 3, none⟩ = some (.int .i64 md) := K1.out.at_ rfl; have p4 : w1.cell? ⟨wr.heap.size, 4, none⟩ = some (.int .i64 me) := K1.out.at_ rfl; have p5 : w1.cell? ⟨wr.heap.size, 5, none⟩ = some (.int .i64 mf) := K1.out.at_ rfl)
          | (go_at_call 94; refine (Hmir.out _).mono ?_; rintro e2 w2 ⟨rfl, k2⟩; have K2 := hid (k2.1 _ K1.out); have E2 := hid (E1.out.trans k2.2); clear k2; have r0 : w2.cell? ⟨wr.heap.size, 0, none⟩ = some (.int .i64 ma) := K2.out.at_ rfl; have r1 : w2.cell? ⟨wr.heap.size, 1, none⟩ = some (.int .i64 mb) := K2.out.at_ rfl; have r2 : w2.cell? ⟨wr.heap.size, 2, none⟩ = some (.int .i64 mc) := K2.out.at_ rfl; have r3 : w2.cell? ⟨wr.heap.size, 3, none⟩ = some (.int .i64 md) := K2.out.at_ rfl; have r4 : w2.cell? ⟨wr.heap.size, 4, none⟩ = some (.int .i64 me) := K2.out.at_ rfl; have r5 : w2.cell? ⟨wr.heap.size, 5, none⟩ = some (.int .i64 mf) := K2.out.at_ rfl))
          go_roundw
          case rel => exact ⟨i + 1, Hlt.out, by go_num, Hnext.out (by rw [hg.out]; rfl), HKp.out _ _ K2.out E2.out⟩
          case measure => have := Hlt.out; simp [intOf]; omega
        by_cases hr4 : mf ≤ 7
        rotate_left
        · have hg := hid (show glB ⟨ma, mb, mc, md, me, mf⟩ = false by rw [Hgl.out, show decide ((-7 ≤ (⟨ma, mb, mc, md, me, mf⟩ : Mv).e ∧ (⟨ma, mb, mc, md, me, mf⟩ : Mv).e ≤ 7) ∧ (-7 ≤ (⟨ma, mb, mc, md, me, mf⟩ : Mv).f ∧ (⟨ma, mb, mc, md, me, mf⟩ : Mv).f ≤ 7)) = false from decide_eq_false (by show ¬ ((-7 ≤ me ∧ me ≤ 7) ∧ (-7 ≤ mf ∧ mf ≤ 7)); omega)]; simp)
          have hn4 : 7 < mf := by omega
          clear hr4 h4 hd
          go_wp2_with (first
          | (go_at_call 95; refine (Hmird.out _).mono ?_; rintro e1 w1 ⟨rfl, k1⟩; have K1 := hid (k1.1 _ HA1.out); have E1 := hid (EA1.out.trans k1.2); clear k1; have p0 : w1.cell? ⟨wr.heap.size, 0, none⟩ = some (.int .i64 ma) := K1.out.at_ rfl; have p1 : w1.cell? ⟨wr.heap.size, 1, none⟩ = some (.int .i64 mb) := K1.out.at_ rfl; have p2 : w1.cell? ⟨wr.heap.size, 2, none⟩ = some (.int .i64 mc) := K1.out.at_ rfl; have p3 : w1.cell? ⟨wr.heap.size, 3, none⟩ = some (.int .i64 md) := K1.out.at_ rfl; have p4 : w1.cell? ⟨wr.heap.size, 4, none⟩ = some (.int .i64 me) := K1.out.at_ rfl; have p5 : w1.cell? ⟨wr.heap.size, 5, none⟩ = some (.int .i64 mf) := K1.out.at_ rfl)
          | (go_at_call 94; refine (Hmir.out _).mono ?_; rintro e2 w2 ⟨rfl, k2⟩; have K2 := hid (k2.1 _ K1.out); have E2 := hid (E1.out.trans k2.2); clear k2; have r0 : w2.cell? ⟨wr.heap.size, 0, none⟩ = some (.int .i64 ma) := K2.out.at_ rfl; have r1 : w2.cell? ⟨wr.heap.size, 1, none⟩ = some (.int .i64 mb) := K2.out.at_ rfl; have r2 : w2.cell? ⟨wr.heap.size, 2, none⟩ = some (.int .i64 mc) := K2.out.at_ rfl; have r3 : w2.cell? ⟨wr.heap.size, 3, none⟩ = some (.int .i64 md) := K2.out.at_ rfl; have r4 : w2.cell? ⟨wr.heap.size, 4, none⟩ = some (.int .i64 me) := K2.out.at_ rfl; have r5 : w2.cell? ⟨wr.heap.size, 5, none⟩ = some (.int .i64 mf) := K2.out.at_ rfl))
          go_roundw
          case rel => exact ⟨i + 1, Hlt.out, by go_num, Hnext.out (by rw [hg.out]; rfl), HKp.out _ _ K2.out E2.out⟩
          case measure => have := Hlt.out; simp [intOf]; omega
        have hg := hid (show glB ⟨ma, mb, mc, md, me, mf⟩ = true by rw [Hgl.out, hd, show decide ((-7 ≤ (⟨ma, mb, mc, md, me, mf⟩ : Mv).e ∧ (⟨ma, mb, mc, md, me, mf⟩ : Mv).e ≤ 7) ∧ (-7 ≤ (⟨ma, mb, mc, md, me, mf⟩ : Mv).f ∧ (⟨ma, mb, mc, md, me, mf⟩ : Mv).f ≤ 7)) = true from decide_eq_true (by show (-7 ≤ me ∧ me ≤ 7) ∧ (-7 ≤ mf ∧ mf ≤ 7); omega)]; rfl)
        have g1 : ¬ me < -7 := by omega
        have g2 : ¬ 7 < me := by omega
        have g3 : ¬ mf < -7 := by omega
        have g4 : ¬ 7 < mf := by omega
        clear hd
        go_wp2_with (first
          | (go_at_call 95; refine (Hmird.out _).mono ?_; rintro e1 w1 ⟨rfl, k1⟩; have K1 := hid (k1.1 _ HA1.out); have E1 := hid (EA1.out.trans k1.2); clear k1; have p0 : w1.cell? ⟨wr.heap.size, 0, none⟩ = some (.int .i64 ma) := K1.out.at_ rfl; have p1 : w1.cell? ⟨wr.heap.size, 1, none⟩ = some (.int .i64 mb) := K1.out.at_ rfl; have p2 : w1.cell? ⟨wr.heap.size, 2, none⟩ = some (.int .i64 mc) := K1.out.at_ rfl; have p3 : w1.cell? ⟨wr.heap.size, 3, none⟩ = some (.int .i64 md) := K1.out.at_ rfl; have p4 : w1.cell? ⟨wr.heap.size, 4, none⟩ = some (.int .i64 me) := K1.out.at_ rfl; have p5 : w1.cell? ⟨wr.heap.size, 5, none⟩ = some (.int .i64 mf) := K1.out.at_ rfl)
          | (go_at_call 94; refine (Hmir.out _).mono ?_; rintro e2 w2 ⟨rfl, k2⟩; have K2 := hid (k2.1 _ K1.out); have E2 := hid (E1.out.trans k2.2); clear k2; have r0 : w2.cell? ⟨wr.heap.size, 0, none⟩ = some (.int .i64 ma) := K2.out.at_ rfl; have r1 : w2.cell? ⟨wr.heap.size, 1, none⟩ = some (.int .i64 mb) := K2.out.at_ rfl; have r2 : w2.cell? ⟨wr.heap.size, 2, none⟩ = some (.int .i64 mc) := K2.out.at_ rfl; have r3 : w2.cell? ⟨wr.heap.size, 3, none⟩ = some (.int .i64 md) := K2.out.at_ rfl; have r4 : w2.cell? ⟨wr.heap.size, 4, none⟩ = some (.int .i64 me) := K2.out.at_ rfl; have r5 : w2.cell? ⟨wr.heap.size, 5, none⟩ = some (.int .i64 mf) := K2.out.at_ rfl))
        obtain ⟨bm, hbm⟩ : ∃ bm, bm = wr.heap.size := ⟨_, rfl⟩
        rw [← hbm] at K2 ⊢
        clear p0 p1 p2 p3 p4 p5 r0 r1 r2 r3 r4 r5 n0 n1 n2 n3 n4 n5 HA1 hbm K1
        go_loopw [5, 6] (fun vis v wq => ∃ j : Nat, j ≤ N ∧ v = .int .i64 j ∧ vis = .bool ((l.take j).any (mateB ⟨ma, mb, mc, md, me, mf⟩)) ∧ Has wq (blk bm #[.int .i64 ma, .int .i64 mb, .int .i64 mc, .int .i64 md, .int .i64 me, .int .i64 mf] 41 + G) ∧ Ext wr wq) (fun _ v _ => N - (intOf v).toNat)
        case atStart => exact ⟨0, Nat.zero_le _, rfl, rfl, K2.out, E2.out⟩
        case round =>
          obtain ⟨j, hj, rfl, rfl, hW, hE⟩ := hrel
          have HW := hid hW
          have HE := hid hE
          clear hW hE K2
          by_cases hlt : j < N
          · have hltJ : (j : Int) < N := by omega
            have HltJ := hid hlt
            obtain ⟨n, hn⟩ : ∃ n, l[j]? = some n := ⟨_, List.getElem?_eq_getElem (by have := HN.out; omega)⟩
            obtain ⟨b', o', hA', hcs'⟩ := Hr.out.mvAt hn
            injection hA' with hA'
            injection hA' with hb ho _
            subst hb
            subst ho
            have Hcs2 := hid hcs'
            have Hnx := hid (show (l.take (j + 1)).any (mateB ⟨ma, mb, mc, md, me, mf⟩) = ((l.take j).any (mateB ⟨ma, mb, mc, md, me, mf⟩) || mateB ⟨ma, mb, mc, md, me, mf⟩ n) by rw [take_more hn, List.any_append]; simp)
            have h14n := Hm.out n (List.mem_of_getElem? hn)
            obtain ⟨kn, hkn8, hkn⟩ := h14n.kind
            have Hoffn := hid h14n.off
            have Hmirn := hid (fun W => mirror_any n W (by have := h14n.off; omega) (by have := h14n.off; omega))
            have Hkn := hid (fun W => refKindOf_any n W)
            obtain ⟨mirn, hmirn⟩ : ∃ mirn, mirn = isMir n := ⟨_, rfl⟩
            rw [← hmirn] at Hmirn
            rw [hkn] at Hkn
            have Hmtn := hid (show mateB ⟨ma, mb, mc, md, me, mf⟩ n = (((kn : Int) == (km : Int)) && (mirn && (lineAt km me mf == lineAt km n.e n.f))) by rw [Hmt.out, hkn, hmirn])
            obtain ⟨is, his⟩ : ∃ is, is = (l.take j).any (mateB ⟨ma, mb, mc, md, me, mf⟩) := ⟨_, rfl⟩
            rw [← his] at Hnx ⊢
            obtain ⟨mt, hmt⟩ : ∃ mt, mt = mateB ⟨ma, mb, mc, md, me, mf⟩ n := ⟨_, rfl⟩
            rw [← hmt] at Hnx Hmtn
            obtain ⟨n0, n1, n2, n3, n4, n5⟩ := Hcs2.out wr (HF.out _ _ HW.out)
            obtain ⟨na, nb, nc, nd, ne, nf⟩ := n
            simp only at n0 n1 n2 n3 n4 n5
            have HB1 := hid (show Has (wr.alloc (.cells #[.int .i64 na, .int .i64 nb, .int .i64 nc, .int .i64 nd, .int .i64 ne, .int .i64 nf] 41)) (blk wr.heap.size #[.int .i64 na, .int .i64 nb, .int .i64 nc, .int .i64 nd, .int .i64 ne, .int .i64 nf] 41 + (blk bm #[.int .i64 ma, .int .i64 mb, .int .i64 mc, .int .i64 md, .int .i64 me, .int .i64 mf] 41 + G)) from HW.out.alloc _)
            have EB1 := hid (HE.out.trans (Ext.alloc wr (.cells #[.int .i64 na, .int .i64 nb, .int .i64 nc, .int .i64 nd, .int .i64 ne, .int .i64 nf] 41)))
            obtain ⟨⟨u1, u2⟩, u3, u4⟩ := Hoffn.out
            simp only at u1 u2 u3 u4 Hmtn
            obtain ⟨x, hx⟩ : ∃ x : Int, x = me - ne := ⟨_, rfl⟩
            obtain ⟨y, hy⟩ : ∃ y : Int, y = mf - nf := ⟨_, rfl⟩
            have wx1 : IntKind.i64.wrap (me - ne) = x := by rw [hx, IntKind.wrap_i64]; omega
            have wy1 : IntKind.i64.wrap (mf - nf) = y := by rw [hy, IntKind.wrap_i64]; omega
            have wn1 : IntKind.i64.wrap (-y) = -y := by rw [hy, IntKind.wrap_i64]; omega
            have wx2 : wrap64 (me - ne) = x := by rw [hx]; unfold wrap64; omega
            have wy2 : wrap64 (mf - nf) = y := by rw [hy]; unfold wrap64; omega
            have wn2 : wrap64 (-y) = -y := by rw [hy]; unfold wrap64; omega
            have Hx := hid hx
            have Hy := hid hy
            obtain ⟨bn, hbn⟩ : ∃ bn, bn = wr.heap.size := ⟨_, rfl⟩
            rw [← hbn] at HB1
            have Keep := hid (show ∀ W, Has W (blk bn #[.int .i64 na, .int .i64 nb, .int .i64 nc, .int .i64 nd, .int .i64 ne, .int .i64 nf] 41 + (blk bm #[.int .i64 ma, .int .i64 mb, .int .i64 mc, .int .i64 md, .int .i64 me, .int .i64 mf] 41 + G)) → (W.cell? ⟨bn, 0, none⟩ = some (.int .i64 na) ∧ W.cell? ⟨bn, 1, none⟩ = some (.int .i64 nb) ∧ W.cell? ⟨bn, 2, none⟩ = some (.int .i64 nc) ∧ W.cell? ⟨bn, 3, none⟩ = some (.int .i64 nd) ∧ W.cell? ⟨bn, 4, none⟩ = some (.int .i64 ne) ∧ W.cell? ⟨bn, 5, none⟩ = some (.int .i64 nf) ∧
              W.cell? ⟨bm, 0, none⟩ = some (.int .i64 ma) ∧ W.cell? ⟨bm, 1, none⟩ = some (.int .i64 mb) ∧ W.cell? ⟨bm, 2, none⟩ = some (.int .i64 mc) ∧ W.cell? ⟨bm, 3, none⟩ = some (.int .i64 md) ∧ W.cell? ⟨bm, 4, none⟩ = some (.int .i64 me) ∧ W.cell? ⟨bm, 5, none⟩ = some (.int .i64 mf)) from fun W h => by
              have h' : Has W (blk bm #[.int .i64 ma, .int .i64 mb, .int .i64 mc, .int .i64 md, .int .i64 me, .int .i64 mf] 41 + (blk bn #[.int .i64 na, .int .i64 nb, .int .i64 nc, .int .i64 nd, .int .i64 ne, .int .i64 nf] 41 + G)) := h.eq (by ac_rfl)
              exact ⟨h.at_ rfl, h.at_ rfl, h.at_ rfl, h.at_ rfl, h.at_ rfl, h.at_ rfl, h'.at_ rfl, h'.at_ rfl, h'.at_ rfl, h'.at_ rfl, h'.at_ rfl, h'.at_ rfl⟩)
            clear hlt hj hcs' hn h14n hkn hmirn his hmt hx hy u1 u2 u3 u4 o1 o2 o3 o4
            go_wp2
            rw [← hbn]
            generalize wr.alloc _ = wy at *
            clear hbn
            have hS := Keep.out wy.drew HB1.out.drew
            by_cases hkk : kn = km
            rotate_left
            · have hmf := hid (show mt = false by rw [Hmtn.out, show (((kn : Int) == (km : Int))) = false by rw [beq_eq_false_iff_ne]; omega]; rfl)
              have hne : ((kn : Int) != (km : Int)) = true := by simp; omega
              clear hkk
              refine wp_region_txt (fun W => W.cell? ⟨bn, 0, none⟩ = some (.int .i64 na) ∧ W.cell? ⟨bn, 1, none⟩ = some (.int .i64 nb) ∧ W.cell? ⟨bn, 2, none⟩ = some (.int .i64 nc) ∧ W.cell? ⟨bn, 3, none⟩ = some (.int .i64 nd) ∧ W.cell? ⟨bn, 4, none⟩ = some (.int .i64 ne) ∧ W.cell? ⟨bn, 5, none⟩ = some (.int .i64 nf) ∧ W.cell? ⟨bm, 0, none⟩ = some (.int .i64 ma) ∧ W.cell? ⟨bm, 1, none⟩ = some (.int .i64 mb) ∧ W.cell? ⟨bm, 2, none⟩ = some (.int .i64 mc) ∧ W.cell? ⟨bm, 3, none⟩ = some (.int .i64 md) ∧ W.cell? ⟨bm, 4, none⟩ = some (.int .i64 me) ∧ W.cell? ⟨bm, 5, none⟩ = some (.int .i64 mf)) none
                [(0, true), (2, true), (1, false), (3, false), (4, true), (5, true), (6, true), (7, false), (8, true), (9, true)] (by kernel_rfl) rfl (by kernel_rfl) (by kernel_rfl) (by repeat (first | with_reducible refine PanicOk.thn ?_ | with_reducible refine PanicOk.blk ?_ | exact PanicOk.body _ _ _)) ?_
              repeat
                (refine txt_quiet ?_ hS rfl rfl (fun W hW => ?_) ?_
                 rotate_left 1
                 · obtain ⟨hW1, hW2, hW3, hW4, hW5, hW6, hW7, hW8, hW9, hW10, hW11, hW12⟩ := hW
                   go_simp
                   exact rfl
                 simp only [Act.put, List.setIfInBounds_toArray, List.set_cons_zero, List.set_cons_succ])
              refine txt_op rfl rfl ?_
              refine op_call 23 #[.agg #[.int .i64 na, .int .i64 nb, .int .i64 nc, .int .i64 nd, .int .i64 ne, .int .i64 nf]] wy.drew (by go_simp) _ (Hkn.out wy.drew) ?_
              rintro e1 w1 ⟨rfl, k1⟩
              have J1 := hid (k1.1 _ HB1.out.drew)
              have L1 := hid ((EB1.out.trans (Ext.drew _)).trans k1.2)
              refine ⟨_, rfl, fun _ => Keep.out w1 J1.out, ?_⟩
              clear hS k1
              simp only [Act.put, List.setIfInBounds_toArray, List.set_cons_zero, List.set_cons_succ]
              have hS := Keep.out w1 J1.out
              refine txt_op rfl rfl ?_
              refine op_call 23 #[.agg #[.int .i64 ma, .int .i64 mb, .int .i64 mc, .int .i64 md, .int .i64 me, .int .i64 mf]] w1 (by go_simp) _ (Hkm.out w1) ?_
              rintro e2 w2 ⟨rfl, k1⟩
              have J2 := hid (k1.1 _ J1.out)
              have L2 := hid (L1.out.trans k1.2)
              refine ⟨_, rfl, fun _ => Keep.out w2 J2.out, ?_⟩
              clear hS k1
              simp only [Act.put, List.setIfInBounds_toArray, List.set_cons_zero, List.set_cons_succ]
              have hS := Keep.out w2 J2.out
              repeat
                (refine txt_quiet ?_ hS rfl rfl (fun W hW => ?_) ?_
                 rotate_left 1
                 · obtain ⟨hW1, hW2, hW3, hW4, hW5, hW6, hW7, hW8, hW9, hW10, hW11, hW12⟩ := hW
                   go_simp
                   exact rfl
                 simp only [Act.put, List.setIfInBounds_toArray, List.set_cons_zero, List.set_cons_succ])
              refine txt_off hS rfl rfl ?_
              simp only [Act.put, List.setIfInBounds_toArray, List.set_cons_zero, List.set_cons_succ]
              refine txt_op_off hS rfl rfl ?_
              simp only [Act.put, List.setIfInBounds_toArray, List.set_cons_zero, List.set_cons_succ]
              refine txt_off hS rfl rfl ?_
              simp only [Act.put, List.setIfInBounds_toArray, List.set_cons_zero, List.set_cons_succ]
              repeat
                (refine txt_quiet ?_ hS rfl rfl (fun W hW => ?_) ?_
                 rotate_left 1
                 · obtain ⟨hW1, hW2, hW3, hW4, hW5, hW6, hW7, hW8, hW9, hW10, hW11, hW12⟩ := hW
                   go_simp
                   exact rfl
                 simp only [Act.put, List.setIfInBounds_toArray, List.set_cons_zero, List.set_cons_succ])
              refine txt_done ?_
              go_wp2
              go_roundw
              case rel => exact ⟨j + 1, HltJ.out, by go_num, by rw [Hnx.out, hmf.out, Bool.or_false], J2.out.right, L2.out⟩
              case measure => have := HltJ.out; simp [intOf]; omega
            have hne : ((kn : Int) != (km : Int)) = false := by simp; omega
            have hkb := hid (show ((kn : Int) == (km : Int)) = true by rw [beq_iff_eq]; omega)
            clear hkk
            cases mirn with
            | false =>
              have hmf := hid (show mt = false by rw [Hmtn.out]; simp)
              refine wp_region_txt (fun W => W.cell? ⟨bn, 0, none⟩ = some (.int .i64 na) ∧ W.cell? ⟨bn, 1, none⟩ = some (.int .i64 nb) ∧ W.cell? ⟨bn, 2, none⟩ = some (.int .i64 nc) ∧ W.cell? ⟨bn, 3, none⟩ = some (.int .i64 nd) ∧ W.cell? ⟨bn, 4, none⟩ = some (.int .i64 ne) ∧ W.cell? ⟨bn, 5, none⟩ = some (.int .i64 nf) ∧ W.cell? ⟨bm, 0, none⟩ = some (.int .i64 ma) ∧ W.cell? ⟨bm, 1, none⟩ = some (.int .i64 mb) ∧ W.cell? ⟨bm, 2, none⟩ = some (.int .i64 mc) ∧ W.cell? ⟨bm, 3, none⟩ = some (.int .i64 md) ∧ W.cell? ⟨bm, 4, none⟩ = some (.int .i64 me) ∧ W.cell? ⟨bm, 5, none⟩ = some (.int .i64 mf)) none
                [(0, true), (2, true), (1, false), (3, false), (4, true), (5, true), (6, true), (7, false), (8, true), (9, true)] (by kernel_rfl) rfl (by kernel_rfl) (by kernel_rfl) (by repeat (first | with_reducible refine PanicOk.thn ?_ | with_reducible refine PanicOk.blk ?_ | exact PanicOk.body _ _ _)) ?_
              repeat
                (refine txt_quiet ?_ hS rfl rfl (fun W hW => ?_) ?_
                 rotate_left 1
                 · obtain ⟨hW1, hW2, hW3, hW4, hW5, hW6, hW7, hW8, hW9, hW10, hW11, hW12⟩ := hW
                   go_simp
                   exact rfl
                 simp only [Act.put, List.setIfInBounds_toArray, List.set_cons_zero, List.set_cons_succ])
              refine txt_op rfl rfl ?_
              refine op_call 23 #[.agg #[.int .i64 na, .int .i64 nb, .int .i64 nc, .int .i64 nd, .int .i64 ne, .int .i64 nf]] wy.drew (by go_simp) _ (Hkn.out wy.drew) ?_
              rintro e1 w1 ⟨rfl, k1⟩
              have J1 := hid (k1.1 _ HB1.out.drew)
              have L1 := hid ((EB1.out.trans (Ext.drew _)).trans k1.2)
              refine ⟨_, rfl, fun _ => Keep.out w1 J1.out, ?_⟩
              clear hS k1
              simp only [Act.put, List.setIfInBounds_toArray, List.set_cons_zero, List.set_cons_succ]
              have hS := Keep.out w1 J1.out
              refine txt_op rfl rfl ?_
              refine op_call 23 #[.agg #[.int .i64 ma, .int .i64 mb, .int .i64 mc, .int .i64 md, .int .i64 me, .int .i64 mf]] w1 (by go_simp) _ (Hkm.out w1) ?_
              rintro e2 w2 ⟨rfl, k1⟩
              have J2 := hid (k1.1 _ J1.out)
              have L2 := hid (L1.out.trans k1.2)
              refine ⟨_, rfl, fun _ => Keep.out w2 J2.out, ?_⟩
              clear hS k1
              simp only [Act.put, List.setIfInBounds_toArray, List.set_cons_zero, List.set_cons_succ]
              have hS := Keep.out w2 J2.out
              repeat
                (refine txt_quiet ?_ hS rfl rfl (fun W hW => ?_) ?_
                 rotate_left 1
                 · obtain ⟨hW1, hW2, hW3, hW4, hW5, hW6, hW7, hW8, hW9, hW10, hW11, hW12⟩ := hW
                   go_simp
                   exact rfl
                 simp only [Act.put, List.setIfInBounds_toArray, List.set_cons_zero, List.set_cons_succ])
              refine txt_op rfl rfl ?_
              refine op_call 94 #[.agg #[.int .i64 na, .int .i64 nb, .int .i64 nc, .int .i64 nd, .int .i64 ne, .int .i64 nf]] w2 (by go_simp) _ (Hmirn.out w2) ?_
              rintro e3 w3 ⟨rfl, k1⟩
              have J3 := hid (k1.1 _ J2.out)
              have L3 := hid (L2.out.trans k1.2)
              refine ⟨_, rfl, fun _ => Keep.out w3 J3.out, ?_⟩
              clear hS k1
              simp only [Act.put, List.setIfInBounds_toArray, List.set_cons_zero, List.set_cons_succ]
              have hS := Keep.out w3 J3.out
              repeat
                (refine txt_quiet ?_ hS rfl rfl (fun W hW => ?_) ?_
                 rotate_left 1
                 · obtain ⟨hW1, hW2, hW3, hW4, hW5, hW6, hW7, hW8, hW9, hW10, hW11, hW12⟩ := hW
                   go_simp
                   exact rfl
                 simp only [Act.put, List.setIfInBounds_toArray, List.set_cons_zero, List.set_cons_succ])
              refine txt_done ?_
              go_wp2
              go_roundw
              case rel => exact ⟨j + 1, HltJ.out, by go_num, by rw [Hnx.out, hmf.out, Bool.or_false], J3.out.right, L3.out⟩
              case measure => have := HltJ.out; simp [intOf]; omega
            | true =>
              have Hmt2 := hid (show mt = (lineAt km me mf == lineAt km ne nf) by rw [Hmtn.out, hkb.out]; rfl)
              have hk4 : km = 4 ∨ km = 5 ∨ km = 6 ∨ km = 7 := by have := H4.out; omega
              refine wp_region_txt (fun W => W.cell? ⟨bn, 0, none⟩ = some (.int .i64 na) ∧ W.cell? ⟨bn, 1, none⟩ = some (.int .i64 nb) ∧ W.cell? ⟨bn, 2, none⟩ = some (.int .i64 nc) ∧ W.cell? ⟨bn, 3, none⟩ = some (.int .i64 nd) ∧ W.cell? ⟨bn, 4, none⟩ = some (.int .i64 ne) ∧ W.cell? ⟨bn, 5, none⟩ = some (.int .i64 nf) ∧ W.cell? ⟨bm, 0, none⟩ = some (.int .i64 ma) ∧ W.cell? ⟨bm, 1, none⟩ = some (.int .i64 mb) ∧ W.cell? ⟨bm, 2, none⟩ = some (.int .i64 mc) ∧ W.cell? ⟨bm, 3, none⟩ = some (.int .i64 md) ∧ W.cell? ⟨bm, 4, none⟩ = some (.int .i64 me) ∧ W.cell? ⟨bm, 5, none⟩ = some (.int .i64 mf)) none
                [(0, true), (2, true), (1, false), (3, false), (4, true), (5, true), (6, true), (7, false), (8, true), (9, true)] (by kernel_rfl) rfl (by kernel_rfl) (by kernel_rfl) (by repeat (first | with_reducible refine PanicOk.thn ?_ | with_reducible refine PanicOk.blk ?_ | exact PanicOk.body _ _ _)) ?_
              repeat
                (refine txt_quiet ?_ hS rfl rfl (fun W hW => ?_) ?_
                 rotate_left 1
                 · obtain ⟨hW1, hW2, hW3, hW4, hW5, hW6, hW7, hW8, hW9, hW10, hW11, hW12⟩ := hW
                   go_simp
                   exact rfl
                 simp only [Act.put, List.setIfInBounds_toArray, List.set_cons_zero, List.set_cons_succ])
              refine txt_op rfl rfl ?_
              refine op_call 23 #[.agg #[.int .i64 na, .int .i64 nb, .int .i64 nc, .int .i64 nd, .int .i64 ne, .int .i64 nf]] wy.drew (by go_simp) _ (Hkn.out wy.drew) ?_
              rintro e1 w1 ⟨rfl, k1⟩
              have J1 := hid (k1.1 _ HB1.out.drew)
              have L1 := hid ((EB1.out.trans (Ext.drew _)).trans k1.2)
              refine ⟨_, rfl, fun _ => Keep.out w1 J1.out, ?_⟩
              clear hS k1
              simp only [Act.put, List.setIfInBounds_toArray, List.set_cons_zero, List.set_cons_succ]
              have hS := Keep.out w1 J1.out
              refine txt_op rfl rfl ?_
              refine op_call 23 #[.agg #[.int .i64 ma, .int .i64 mb, .int .i64 mc, .int .i64 md, .int .i64 me, .int .i64 mf]] w1 (by go_simp) _ (Hkm.out w1) ?_
              rintro e2 w2 ⟨rfl, k1⟩
              have J2 := hid (k1.1 _ J1.out)
              have L2 := hid (L1.out.trans k1.2)
              refine ⟨_, rfl, fun _ => Keep.out w2 J2.out, ?_⟩
              clear hS k1
              simp only [Act.put, List.setIfInBounds_toArray, List.set_cons_zero, List.set_cons_succ]
              have hS := Keep.out w2 J2.out
              repeat
                (refine txt_quiet ?_ hS rfl rfl (fun W hW => ?_) ?_
                 rotate_left 1
                 · obtain ⟨hW1, hW2, hW3, hW4, hW5, hW6, hW7, hW8, hW9, hW10, hW11, hW12⟩ := hW
                   go_simp
                   exact rfl
                 simp only [Act.put, List.setIfInBounds_toArray, List.set_cons_zero, List.set_cons_succ])
              refine txt_op rfl rfl ?_
              refine op_call 94 #[.agg #[.int .i64 na, .int .i64 nb, .int .i64 nc, .int .i64 nd, .int .i64 ne, .int .i64 nf]] w2 (by go_simp) _ (Hmirn.out w2) ?_
              rintro e3 w3 ⟨rfl, k1⟩
              have J3 := hid (k1.1 _ J2.out)
              have L3 := hid (L2.out.trans k1.2)
              refine ⟨_, rfl, fun _ => Keep.out w3 J3.out, ?_⟩
              clear hS k1
              simp only [Act.put, List.setIfInBounds_toArray, List.set_cons_zero, List.set_cons_succ]
              have hS := Keep.out w3 J3.out
              repeat
                (refine txt_quiet ?_ hS rfl rfl (fun W hW => ?_) ?_
                 rotate_left 1
                 · obtain ⟨hW1, hW2, hW3, hW4, hW5, hW6, hW7, hW8, hW9, hW10, hW11, hW12⟩ := hW
                   go_simp
                   exact rfl
                 simp only [Act.put, List.setIfInBounds_toArray, List.set_cons_zero, List.set_cons_succ])
              refine txt_done ?_
              go_wp2
              obtain ⟨c0, c1, c2, c3, c4, c5, d0, d1, d2, d3, d4, d5⟩ := Keep.out w3 J3.out
              go_quiet (fail)
              go_simp
              generalize hwd : w3.drewN _ = wd
              have HWd := hid (show Has wd (blk bn #[.int .i64 na, .int .i64 nb, .int .i64 nc, .int .i64 nd, .int .i64 ne, .int .i64 nf] 41 + (blk bm #[.int .i64 ma, .int .i64 mb, .int .i64 mc, .int .i64 md, .int .i64 me, .int .i64 mf] 41 + G)) by rw [← hwd]; exact J3.out.drewN _)
              have HEd := hid (show Ext _ wd by rw [← hwd]; exact L3.out.trans (Ext.drewN _ _))
              clear hwd c0 c1 c2 c3 c4 c5 d0 d1 d2 d3 d4 d5 hS
              obtain ⟨c0, c1, c2, c3, c4, c5, d0, d1, d2, d3, d4, d5⟩ := Keep.out wd HWd.out
              rcases hk4 with rfl | rfl | rfl | rfl
              · have hc := hid (show mt = (y == 0) from by rw [Hmt2.out, Bool.eq_iff_iff]; show (mf == nf) = true ↔ _; rw [beq_iff_eq, beq_iff_eq, Hy.out]; omega)
                cases is with
                | true =>
                  go_wp2_with (go_at_call 23; refine (Hkm.out _).mono ?_; rintro e5 w5 ⟨rfl, k5⟩; have K5 := hid (k5.1 _ HWd.out); have E5 := hid (HEd.out.trans k5.2); clear k5)
                  go_roundw
                  case rel => exact ⟨j + 1, HltJ.out, by go_num, by rw [Hnx.out, Bool.true_or], K5.out.right, E5.out⟩
                  case measure => have := HltJ.out; simp [intOf]; omega
                | false =>
                  go_wp2_with (go_at_call 23; refine (Hkm.out _).mono ?_; rintro e5 w5 ⟨rfl, k5⟩; have K5 := hid (k5.1 _ HWd.out); have E5 := hid (HEd.out.trans k5.2); clear k5)
                  go_roundw
                  case rel => exact ⟨j + 1, HltJ.out, by go_num, by rw [Hnx.out, Bool.false_or, hc.out], K5.out.right, E5.out⟩
                  case measure => have := HltJ.out; simp [intOf]; omega
              · have hc := hid (show mt = (x == 0) from by rw [Hmt2.out, Bool.eq_iff_iff]; show (me == ne) = true ↔ _; rw [beq_iff_eq, beq_iff_eq, Hx.out]; omega)
                cases is with
                | true =>
                  go_wp2_with (go_at_call 23; refine (Hkm.out _).mono ?_; rintro e5 w5 ⟨rfl, k5⟩; have K5 := hid (k5.1 _ HWd.out); have E5 := hid (HEd.out.trans k5.2); clear k5)
                  go_roundw
                  case rel => exact ⟨j + 1, HltJ.out, by go_num, by rw [Hnx.out, Bool.true_or], K5.out.right, E5.out⟩
                  case measure => have := HltJ.out; simp [intOf]; omega
                | false =>
                  go_wp2_with (go_at_call 23; refine (Hkm.out _).mono ?_; rintro e5 w5 ⟨rfl, k5⟩; have K5 := hid (k5.1 _ HWd.out); have E5 := hid (HEd.out.trans k5.2); clear k5)
                  go_roundw
                  case rel => exact ⟨j + 1, HltJ.out, by go_num, by rw [Hnx.out, Bool.false_or, hc.out], K5.out.right, E5.out⟩
                  case measure => have := HltJ.out; simp [intOf]; omega
              · have hc := hid (show mt = (x == y) from by rw [Hmt2.out, Bool.eq_iff_iff]; show (me - mf == ne - nf) = true ↔ _; rw [beq_iff_eq, beq_iff_eq, Hx.out, Hy.out]; omega)
                cases is with
                | true =>
                  go_wp2_with (go_at_call 23; refine (Hkm.out _).mono ?_; rintro e5 w5 ⟨rfl, k5⟩; have K5 := hid (k5.1 _ HWd.out); have E5 := hid (HEd.out.trans k5.2); clear k5)
                  go_roundw
                  case rel => exact ⟨j + 1, HltJ.out, by go_num, by rw [Hnx.out, Bool.true_or], K5.out.right, E5.out⟩
                  case measure => have := HltJ.out; simp [intOf]; omega
                | false =>
                  go_wp2_with (go_at_call 23; refine (Hkm.out _).mono ?_; rintro e5 w5 ⟨rfl, k5⟩; have K5 := hid (k5.1 _ HWd.out); have E5 := hid (HEd.out.trans k5.2); clear k5)
                  go_roundw
                  case rel => exact ⟨j + 1, HltJ.out, by go_num, by rw [Hnx.out, Bool.false_or, hc.out], K5.out.right, E5.out⟩
                  case measure => have := HltJ.out; simp [intOf]; omega
              · have hc := hid (show mt = (x == -y) from by rw [Hmt2.out, Bool.eq_iff_iff]; show (me + mf == ne + nf) = true ↔ _; rw [beq_iff_eq, beq_iff_eq, Hx.out, Hy.out]; omega)
                cases is with
                | true =>
                  go_wp2_with (go_at_call 23; refine (Hkm.out _).mono ?_; rintro e5 w5 ⟨rfl, k5⟩; have K5 := hid (k5.1 _ HWd.out); have E5 := hid (HEd.out.trans k5.2); clear k5)
                  go_roundw
                  case rel => exact ⟨j + 1, HltJ.out, by go_num, by rw [Hnx.out, Bool.true_or], K5.out.right, E5.out⟩
                  case measure => have := HltJ.out; simp [intOf]; omega
                | false =>
                  go_wp2_with (go_at_call 23; refine (Hkm.out _).mono ?_; rintro e5 w5 ⟨rfl, k5⟩; have K5 := hid (k5.1 _ HWd.out); have E5 := hid (HEd.out.trans k5.2); clear k5)
                  go_roundw
                  case rel => exact ⟨j + 1, HltJ.out, by go_num, by rw [Hnx.out, Bool.false_or, hc.out], K5.out.right, E5.out⟩
                  case measure => have := HltJ.out; simp [intOf]; omega
          · have hje : j = N := by omega
            subst hje
            clear hlt hj
            have hend := hid (show l.take j = l by rw [HN.out, List.take_length])
            rw [hend.out]
            cases his : l.any (mateB ⟨ma, mb, mc, md, me, mf⟩) with
            | true =>
              have His := hid his
              clear his
              go_wp2
              go_roundw
              case rel => exact ⟨i + 1, Hlt.out, by go_num, Hnext.out (by rw [His.out, Bool.or_true]), HKp.out _ _ HW.out HE.out⟩
              case measure => have := Hlt.out; simp [intOf]; omega
            | false =>
              have hf := hid (show q = false by rw [Hq.out]; unfold ownL; rw [List.all_eq_false]; exact ⟨_, Hmem.out, by rw [hg.out, his]; decide⟩)
              clear his
              go_wp2
              go_ret
              exact ⟨by rw [hf.out]; rfl, HKp.out _ _ HW.out HE.out⟩
    · have hie : i = N := by omega
      subst hie
      clear hlt hi
      have hf := hid (show q = true by
        have h1 := Hno.out
        rw [HN.out, List.take_length] at h1
        rw [Hq.out]
        unfold ownL
        rw [List.all_eq_true]
        exact h1)
      go_wp2
      go_ret
      exact ⟨by rw [hf.out]; rfl, HK.out⟩
end Go.Proofs.YteibbnmlmbhkpaaDoor

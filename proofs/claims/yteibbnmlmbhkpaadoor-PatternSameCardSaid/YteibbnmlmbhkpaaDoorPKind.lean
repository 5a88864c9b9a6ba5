/-
  The table of kinds, slices.Index over it, kind.
-/
import Derived.Test.YteibbnmlmbhkpaaDoorPW6
namespace Go.Proofs.YteibbnmlmbhkpaaDoor
open Go.RowKit
set_option linter.unusedVariables false
set_option linter.unusedSimpArgs false
set_option maxHeartbeats 1000000
set_option maxRecDepth 100000

/-- The kinds. -/
def kinds : List Mv := [⟨1, 0, 0, 1, 0, 0⟩, ⟨0, -1, 1, 0, 0, 0⟩, ⟨-1, 0, 0, -1, 0, 0⟩, ⟨0, 1, -1, 0, 0, 0⟩, ⟨1, 0, 0, -1, 0, 0⟩, ⟨-1, 0, 0, 1, 0, 0⟩, ⟨0, 1, 1, 0, 0, 0⟩, ⟨0, -1, -1, 0, 0, 0⟩]
def Mv.cells (m : Mv) : List Value := [.int .i64 m.a, .int .i64 m.b, .int .i64 m.c, .int .i64 m.d, .int .i64 m.e, .int .i64 m.f]
/-- The table's cells are known. -/
def KinOk (F : MS) : Prop := ∀ (i : Nat) k, kinds[i]? = some k → ∀ (j : Nat) v, k.cells[j]? = some v → F.at 0 (i * 6 + j) v
theorem KinOk.more {F : MS} (h : KinOk F) (X : MS) : KinOk (X + F) := fun i k hi j v hj => (h i k hi j v hj).more X
/-- Which kind is it? -/
def kindIx (m : Mv) : Int := match kinds.findIdx? (fun k => decide (k = m)) with
  | some i => i
  | none => -1
def kindOf (m : Mv) : Int := kindIx { m with e := 0, f := 0 }
theorem ifs6 (a b c d e f a' b' c' d' e' f' : Int) (W : World) : (if a = a' then if b = b' then if c = c' then if d = d' then if e = e' then
              if f = f' then Result.ok (Next.value (Value.bool true)) W else Result.ok (Next.value (Value.bool false)) W
            else Result.ok (Next.value (Value.bool false)) W
          else Result.ok (Next.value (Value.bool false)) W
        else Result.ok (Next.value (Value.bool false)) W
      else Result.ok (Next.value (Value.bool false)) W
    else Result.ok (Next.value (Value.bool false)) W) = Result.ok (Next.value (Value.bool (decide ((⟨a, b, c, d, e, f⟩ : Mv) = ⟨a', b', c', d', e', f'⟩)))) W := by
  simp only [Mv.mk.injEq]
  repeat' split <;> simp [*]
theorem kindIx_at {m k : Mv} {i : Nat} (hi : i < 8) (hk : kinds[i]? = some k) (he : k = m) (hno : ∀ j k, j < i → kinds[j]? = some k → k ≠ m) : kindIx m = i := by
  unfold kindIx
  have : kinds.findIdx? (fun k => decide (k = m)) = some i := by
    rw [List.findIdx?_eq_some_iff_getElem]
    have hl : i < kinds.length := by simpa [kinds] using hi
    refine ⟨hl, ?_, fun j hj => ?_⟩
    · rw [List.getElem?_eq_getElem hl] at hk
      injection hk with hk
      simp [hk, he]
    · have := hno j _ hj (List.getElem?_eq_getElem (by omega))
      simpa using this
  rw [this]
theorem kindIx_no {m : Mv} (hno : ∀ (j : Nat) k, j < 8 → kinds[j]? = some k → k ≠ m) : kindIx m = -1 := by
  unfold kindIx
  have : kinds.findIdx? (fun k => decide (k = m)) = none := by
    rw [List.findIdx?_eq_none_iff]
    intro k hk
    obtain ⟨j, hj, rfl⟩ := List.getElem_of_mem hk
    have := hno j _ (by simpa [kinds] using hj) (List.getElem?_eq_getElem hj)
    simpa using this
  rw [this]
theorem mindex_any {F : MS} (h : KinOk F) (m : Mv) (w : World) (hH : Has w F) :
    Calls Tryd.prog 74 #[.slice (some ⟨0, 0, none⟩) 8 8, m.v] w fun e w' => e = .returned (.int .i64 (kindIx m)) ∧ Kp w w' := by
  have Hk := hid h
  have HH := hid hH
  obtain ⟨a, b, c', d, e, f⟩ := m
  have HA := hid ((Has.all w).alloc (.cells #[.int .i64 a, .int .i64 b, .int .i64 c', .int .i64 d, .int .i64 e, .int .i64 f] 41))
  have HEA := hid (Ext.alloc w (.cells #[.int .i64 a, .int .i64 b, .int .i64 c', .int .i64 d, .int .i64 e, .int .i64 f] 41))
  obtain ⟨r, hr⟩ : ∃ r, r = kindIx ⟨a, b, c', d, e, f⟩ := ⟨_, rfl⟩
  rw [← hr]
  have Hr := hid hr
  clear h hH hr
  show Calls Tryd.prog 74 #[.slice (some ⟨0, 0, none⟩) 8 8, .agg #[.int .i64 a, .int .i64 b, .int .i64 c', .int .i64 d, .int .i64 e, .int .i64 f]] w _
  obtain ⟨gm, hgm⟩ : ∃ gm, gm = w.heap.size := ⟨_, rfl⟩
  have J := HA.out
  rw [← hgm] at J
  have HG := hid (show Has (w.alloc (.cells #[.int .i64 a, .int .i64 b, .int .i64 c', .int .i64 d, .int .i64 e, .int .i64 f] 41)) (blk gm #[.int .i64 a, .int .i64 b, .int .i64 c', .int .i64 d, .int .i64 e, .int .i64 f] 41 + MS.all w) from J)
  clear J HA
  go_enter Tryd.func74, Tryd.ntmps74
  go_wp2
  rw [← hgm]
  clear hgm
  go_loopw [8] (fun v wr => ∃ i : Nat, i ≤ 8 ∧ v = .int .i64 i ∧ (∀ j k, j < i → kinds[j]? = some k → k ≠ ⟨a, b, c', d, e, f⟩) ∧ Has wr (blk gm #[.int .i64 a, .int .i64 b, .int .i64 c', .int .i64 d, .int .i64 e, .int .i64 f] 41 + MS.all w) ∧ Ext w wr) (fun v _ => 8 - (intOf v).toNat)
  case atStart => exact ⟨0, Nat.zero_le _, rfl, fun j k h => by omega, HG.out, HEA.out⟩
  case round =>
    obtain ⟨i, hi, rfl, hno, hW, hE⟩ := hrel
    have Hno := hid hno
    have HW := hid hW
    have HE := hid hE
    clear hno hW hE
    by_cases hlt : i < 8
    · have hltI : (i : Int) < 8 := by omega
      obtain ⟨k, hk⟩ : ∃ k, kinds[i]? = some k := ⟨_, List.getElem?_eq_getElem (by simpa [kinds] using hlt)⟩
      have HF := HH.out.of_all (X := blk gm #[.int .i64 a, .int .i64 b, .int .i64 c', .int .i64 d, .int .i64 e, .int .i64 f] 41) HW.out
      obtain ⟨ka, kb, kc, kd, ke, kf⟩ := k
      have g0 := (Hk.out i _ hk 0 _ rfl).c0 HF
      rw [Nat.add_zero] at g0
      have g1 := (Hk.out i _ hk 1 _ rfl).c0 HF
      have g2 := (Hk.out i _ hk 2 _ rfl).c0 HF
      have g3 := (Hk.out i _ hk 3 _ rfl).c0 HF
      have g4 := (Hk.out i _ hk 4 _ rfl).c0 HF
      have g5 := (Hk.out i _ hk 5 _ rfl).c0 HF
      have m0 : wr.cell? ⟨gm, 0, none⟩ = some (.int .i64 a) := HW.out.at_ rfl
      have m1 : wr.cell? ⟨gm, 1, none⟩ = some (.int .i64 b) := HW.out.at_ rfl
      have m2 : wr.cell? ⟨gm, 2, none⟩ = some (.int .i64 c') := HW.out.at_ rfl
      have m3 : wr.cell? ⟨gm, 3, none⟩ = some (.int .i64 d) := HW.out.at_ rfl
      have m4 : wr.cell? ⟨gm, 4, none⟩ = some (.int .i64 e) := HW.out.at_ rfl
      have m5 : wr.cell? ⟨gm, 5, none⟩ = some (.int .i64 f) := HW.out.at_ rfl
      have Hlt := hid hlt
      have Hki := hid hk
      cases hq : decide ((⟨a, b, c', d, e, f⟩ : Mv) = ⟨ka, kb, kc, kd, ke, kf⟩) with
      | true =>
        have hif := fun W => ifs6 a b c' d e f ka kb kc kd ke kf W
        rw [hq] at hif
        have Hq := hid (of_decide_eq_true hq)
        clear HF hlt hk hq
        go_wp2
        go_quiet (fail)
        go_wp2
        go_ret
        refine ⟨by rw [Hr.out, kindIx_at Hlt.out Hki.out Hq.out.symm Hno.out]; rfl, (Kp.drewN ⟨fun M hM => hM.of_all HW.out, HE.out⟩ _)⟩
      | false =>
        have hif := fun W => ifs6 a b c' d e f ka kb kc kd ke kf W
        rw [hq] at hif
        have Hq := hid (of_decide_eq_false hq)
        clear HF hlt hk hq
        go_wp2
        go_quiet (fail)
        go_wp2
        go_roundw
        case rel => exact ⟨i + 1, Hlt.out, by go_num, fun j k h hk => by
          by_cases hji : j = i
          · subst hji
            rw [Hki.out] at hk
            injection hk with hk
            exact fun h => Hq.out (by rw [← h, ← hk])
          · exact Hno.out j k (by omega) hk, HW.out.drewN _, HE.out.trans (Ext.drewN _ _)⟩
        case measure => have := Hlt.out; simp [intOf]; omega
    · have hie : i = 8 := by omega
      subst hie
      clear hlt
      go_wp2
      go_ret
      exact ⟨by rw [Hr.out, kindIx_no Hno.out]; rfl, fun M hM => hM.of_all HW.out, HE.out⟩
theorem kind_any {F : MS} (h : KinOk F) (m : Mv) (w : World) (hH : Has w F) :
    Calls Tryd.prog 44 #[m.v] w fun e w' => e = .returned (.int .i64 (kindOf m)) ∧ Kp w w' := by
  have Hi := hid (fun (W : World) (hW : Has W F) => mindex_any h { m with e := 0, f := 0 } W hW)
  have HH := hid hH
  obtain ⟨a, b, c', d, e, f⟩ := m
  obtain ⟨r, hr⟩ : ∃ r, r = kindOf ⟨a, b, c', d, e, f⟩ := ⟨_, rfl⟩
  rw [← hr]
  rw [show kindIx { (⟨a, b, c', d, e, f⟩ : Mv) with e := 0, f := 0 } = r from hr.symm] at Hi
  obtain ⟨W1, hW1⟩ : ∃ W1, W1 = w.alloc (.cells #[.int .i64 a, .int .i64 b, .int .i64 c', .int .i64 d, .int .i64 0, .int .i64 0] 41) := ⟨_, rfl⟩
  have HEA := hid (show Ext w W1 by rw [hW1]; exact Ext.alloc w _)
  obtain ⟨gm, hgm⟩ : ∃ gm, gm = w.heap.size := ⟨_, rfl⟩
  have HG := hid (show Has W1 (blk gm #[.int .i64 a, .int .i64 b, .int .i64 c', .int .i64 d, .int .i64 0, .int .i64 0] 41 + MS.all w) by rw [hW1, hgm]; exact (Has.all w).alloc _)
  clear h hH hr
  show Calls Tryd.prog 44 #[.agg #[.int .i64 a, .int .i64 b, .int .i64 c', .int .i64 d, .int .i64 e, .int .i64 f]] w _
  go_enter Tryd.func44, Tryd.ntmps44
  go_wp2
  rw [← hW1, ← hgm]
  clear hW1 hgm
  have hS : W1.drew.cell? ⟨gm, 0, none⟩ = some (.int .i64 a) ∧ W1.drew.cell? ⟨gm, 1, none⟩ = some (.int .i64 b) ∧ W1.drew.cell? ⟨gm, 2, none⟩ = some (.int .i64 c') ∧ W1.drew.cell? ⟨gm, 3, none⟩ = some (.int .i64 d) ∧ W1.drew.cell? ⟨gm, 4, none⟩ = some (.int .i64 0) ∧ W1.drew.cell? ⟨gm, 5, none⟩ = some (.int .i64 0) :=
    ⟨HG.out.drew.at_ rfl, HG.out.drew.at_ rfl, HG.out.drew.at_ rfl, HG.out.drew.at_ rfl, HG.out.drew.at_ rfl, HG.out.drew.at_ rfl⟩
  refine wp_region_txt (fun W => W.cell? ⟨gm, 0, none⟩ = some (.int .i64 a) ∧ W.cell? ⟨gm, 1, none⟩ = some (.int .i64 b) ∧ W.cell? ⟨gm, 2, none⟩ = some (.int .i64 c') ∧ W.cell? ⟨gm, 3, none⟩ = some (.int .i64 d) ∧ W.cell? ⟨gm, 4, none⟩ = some (.int .i64 0) ∧ W.cell? ⟨gm, 5, none⟩ = some (.int .i64 0)) (some 3)
    [(0, true), (1, true), (2, false), (3, false)] (by kernel_rfl) rfl (by kernel_rfl) (by kernel_rfl) (by repeat (first | with_reducible refine PanicOk.thn ?_ | with_reducible refine PanicOk.blk ?_ | exact PanicOk.body _ _ _)) ?_
  repeat
    (refine txt_quiet ?_ hS rfl rfl (fun W hW => ?_) ?_
     rotate_left 1
     · obtain ⟨hW1, hW2, hW3, hW4, hW5, hW6⟩ := hW
       go_simp
       exact rfl
     simp only [Act.put, List.setIfInBounds_toArray, List.set_cons_zero, List.set_cons_succ])
  refine txt_op rfl rfl ?_
  refine op_call 74 #[.slice (some ⟨0, 0, none⟩) 8 8, .agg #[.int .i64 a, .int .i64 b, .int .i64 c', .int .i64 d, .int .i64 0, .int .i64 0]] _ (by go_simp) _ (Hi.out _ (HH.out.of_all HG.out.drew)) ?_
  rintro e1 w1 ⟨rfl, k1⟩
  refine ⟨_, rfl, fun _ => ⟨(k1.1 _ HG.out.drew).at_ rfl, (k1.1 _ HG.out.drew).at_ rfl, (k1.1 _ HG.out.drew).at_ rfl, (k1.1 _ HG.out.drew).at_ rfl, (k1.1 _ HG.out.drew).at_ rfl, (k1.1 _ HG.out.drew).at_ rfl⟩, ?_⟩
  have HW1 := hid (k1.1 _ HG.out.drew)
  have HE1 := hid ((HEA.out.trans (Ext.drew _)).trans k1.2)
  clear k1 hS
  simp only [Act.put, List.setIfInBounds_toArray, List.set_cons_zero, List.set_cons_succ]
  refine txt_op rfl rfl ?_
  refine op_run (.int .i64 r) w1 (by go_simp) ?_
  refine ⟨fun h => absurd rfl h, ?_⟩
  simp only [Act.put, List.setIfInBounds_toArray, List.set_cons_zero, List.set_cons_succ]
  refine txt_done ?_
  go_wp2
  go_ret
  exact ⟨rfl, fun M hM => hM.of_all HW1.out, HE1.out⟩
end Go.Proofs.YteibbnmlmbhkpaaDoor

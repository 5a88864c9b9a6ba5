/-
  The walks of lattice and its closure.
-/
import Derived.Test.YteibbnmlmbhkpaaDoorPW2
namespace Go.Proofs.YteibbnmlmbhkpaaDoor
open Go.RowKit
set_option linter.unusedVariables false
set_option linter.unusedSimpArgs false
set_option maxHeartbeats 1000000
set_option maxRecDepth 100000

theorem size26 : (Tryd.prog.info? 26).map (·.size) = some 3 := by kernel_rfl
theorem size3 : (Tryd.prog.info? 3).map (·.size) = some 1 := by kernel_rfl
theorem shift_any {F : MS} {p : List ByteArray} {fb bx : Nat} {w : World} (h : Flo F p fb) (hp : PatOk p) (hx : F.at bx 0 (.pointer (some ⟨fb, 0, none⟩))) (hH : Has w F) (x y : Nat) :
    Calls Tryd.prog 61 #[.int .i64 x, .int .i64 y, .pointer (some ⟨bx, 0, none⟩)] w fun e w' => e = .returned (.bool (shB p x y)) ∧ Kp w w' := by
  have f0 := hx.c0 hH
  have Hk := hid (keeps_any h hp hH ⟨1, 0, 0, 1, x, y⟩)
  obtain ⟨q, hq⟩ : ∃ q, q = shB p x y := ⟨_, rfl⟩
  rw [← hq]
  rw [show keepsB p ⟨1, 0, 0, 1, x, y⟩ = q from hq.symm] at Hk
  clear hq h hp hx hH
  go_enter Tryd.func61, Tryd.ntmps61
  go_wp2_with (go_at_call 51; refine Hk.out.mono ?_; rintro e w1 ⟨rfl, k1⟩)
  go_ret
  exact ⟨rfl, k1⟩
theorem lattice_any {F : MS} {p : List ByteArray} {fb : Nat} {w : World} (h : Flo F p fb) (hp : PatOk p) (hH : Has w F) :
    Calls Tryd.prog 34 #[.pointer (some ⟨fb, 0, none⟩)] w fun e w' => ∃ g, IsLat p g ∧ e = .returned (.agg #[.int .i64 g.A, .int .i64 g.B, .int .i64 g.D]) ∧ Kp w w' := by
  obtain ⟨A, c, e0, e1, e2, hr⟩ := id h
  have He0 := hid e0
  have He1 := hid e1
  have Hfl := hid h
  have Hp := hid hp
  have HH := hid hH
  obtain ⟨b1, hb1⟩ : ∃ b, b = w.heap.size := ⟨_, rfl⟩
  have HA := hid (((Has.all w).alloc (.cells #[.pointer (some ⟨fb, 0, none⟩)] 60)).alloc (.cells #[.int .i64 0, .int .i64 0, .int .i64 0] 26))
  have HEA := hid ((Ext.alloc w (.cells #[.pointer (some ⟨fb, 0, none⟩)] 60)).trans (Ext.alloc _ (.cells #[.int .i64 0, .int .i64 0, .int .i64 0] 26)))
  rw [show (w.alloc (.cells #[.pointer (some ⟨fb, 0, none⟩)] 60)).heap.size = b1 + 1 by rw [hb1]; simp, ← hb1] at HA
  have Hb1 := hid hb1
  clear e0 e1 e2 hr h hp hH
  go_enter Tryd.func34, Tryd.ntmps34
  go_wp2
  rw [← hb1]
  clear hb1 Hb1
  obtain ⟨b2, hb2⟩ : ∃ b2, b2 = b1 + 1 := ⟨_, rfl⟩
  rw [← hb2] at HA ⊢
  clear hb2
  generalize hwa : ((w.alloc (Obj.cells #[Value.pointer (some { block := fb, off := 0 })] 60)).alloc (Obj.cells #[Value.int IntKind.i64 0, Value.int IntKind.i64 0, Value.int IntKind.i64 0] 26)) = wa at *
  clear hwa
  obtain ⟨G, hG⟩ : ∃ G, G = pts b1 (.cells #[.pointer (some ⟨fb, 0, none⟩)] 60) + MS.all w := ⟨_, rfl⟩
  have HA1 := hid (show Has wa (blk b2 #[.int .i64 0, .int .i64 0, .int .i64 0] 26 + G) by rw [hG]; exact HA.out)
  have HF := hid (show ∀ W X, Has W (X + G) → Has W F from fun W X h => HH.out.of_all (X := X + pts b1 (.cells #[.pointer (some ⟨fb, 0, none⟩)] 60)) (by rw [hG] at h; exact h.eq (by ac_rfl)))
  have HK := hid (show ∀ W X, Has W (X + G) → ∀ M, Has w M → Has W M from fun W X h M hM => hM.of_all (X := X + pts b1 (.cells #[.pointer (some ⟨fb, 0, none⟩)] 60)) (by rw [hG] at h; exact h.eq (by ac_rfl)))
  have Hx := hid (show G.at b1 0 (.pointer (some ⟨fb, 0, none⟩)) by rw [hG]; exact (blk_at (cs := #[.pointer (some ⟨fb, 0, none⟩)]) (e := 60) (i := 0) rfl).less (MS.all w))
  have HflG := hid (show Flo G p fb by rw [hG]; exact (Hfl.out.all HH.out).more _)
  have keep : ∀ W X, Has W (X + G) → (W.cell? ⟨b1, 0, none⟩ = some (.pointer (some ⟨fb, 0, none⟩)) ∧ W.cell? ⟨fb, 0, none⟩ = some (.int .i64 (wd p)) ∧ W.cell? ⟨fb, 1, none⟩ = some (.int .i64 p.length)) := fun W X h =>
    ⟨by
      have h' := h
      rw [hG] at h'
      have h2 : Has W (blk b1 #[.pointer (some ⟨fb, 0, none⟩)] 60 + (X + MS.all w)) := h'.eq (by show X + (blk b1 _ 60 + MS.all w) = _; ac_rfl)
      exact h2.at_ rfl, He0.out.c0 (HF.out W X h), He1.out.c0 (HF.out W X h)⟩
  have Keep := hid keep
  have hS := keep wa.drew _ HA1.out.drew
  clear hG keep HA
  refine wp_region_txt (fun W => W.cell? ⟨b1, 0, none⟩ = some (.pointer (some ⟨fb, 0, none⟩)) ∧ W.cell? ⟨fb, 0, none⟩ = some (.int .i64 (wd p)) ∧ W.cell? ⟨fb, 1, none⟩ = some (.int .i64 p.length)) (some 10)
    [(0, true), (1, true), (2, true), (3, true), (4, true), (5, true), (6, true), (7, true), (8, true), (9, false), (10, false)] (by kernel_rfl) rfl (by kernel_rfl) (by kernel_rfl) (by repeat (first | with_reducible refine PanicOk.thn ?_ | with_reducible refine PanicOk.blk ?_ | exact PanicOk.body _ _ _)) ?_
  repeat
    (refine txt_quiet ?_ hS rfl rfl (fun W hW => ?_) ?_
     rotate_left 1
     · obtain ⟨hW1, hW2, hW3⟩ := hW
       go_simp
       exact rfl
     simp only [Act.put, List.setIfInBounds_toArray, List.set_cons_zero, List.set_cons_succ])
  refine txt_op rfl rfl ?_
  refine op_run (.pointer (some ⟨wa.drew.heap.size, 0, none⟩)) (wa.drew.alloc (.cells #[.int .i64 0, .int .i64 0, .int .i64 0] 26)) (by go_simp) ?_
  have J1 : Has (wa.drew.alloc (.cells #[.int .i64 0, .int .i64 0, .int .i64 0] 26)) (blk wa.drew.heap.size #[.int .i64 0, .int .i64 0, .int .i64 0] 26 + _) := HA1.out.drew.alloc _
  have E1 := hid ((HEA.out.trans (Ext.drew _)).trans (Ext.alloc wa.drew (.cells #[.int .i64 0, .int .i64 0, .int .i64 0] 26)))
  generalize wa.drew.heap.size = b3 at *
  generalize wa.drew.alloc _ = wb at *
  have J1' := hid J1
  refine ⟨fun _ => Keep.out wb _ (J1.eq (b := (blk b3 #[.int .i64 0, .int .i64 0, .int .i64 0] 26 + blk b2 #[.int .i64 0, .int .i64 0, .int .i64 0] 26) + G) (by ac_rfl)), ?_⟩
  simp only [Act.put, List.setIfInBounds_toArray, List.set_cons_zero, List.set_cons_succ]
  clear J1 hS
  refine txt_op rfl rfl ?_
  refine op_store_whole (.tmp 3) (.tmp 16) 26 rfl 3 size26 b3 (.agg #[.int .i64 (wd p), .int .i64 0, .int .i64 p.length]) rfl rfl rfl (by simp [Value.cells, Value.oneCell']) #[.int .i64 0, .int .i64 0, .int .i64 0] 26 _ J1'.out rfl ?_
  intro w2 k1 k2
  refine ⟨fun h => absurd rfl h, ?_⟩
  simp only [Act.put]
  refine txt_done ?_
  have J2 := hid (show Has w2 (blk b3 #[.int .i64 (wd p), .int .i64 0, .int .i64 p.length] 26 + (blk b2 #[.int .i64 0, .int .i64 0, .int .i64 0] 26 + G)) from k1)
  have E2 := hid (E1.out.trans k2)
  clear k1 k2
  have hfl := Hfl.out
  obtain ⟨s1, s2, s3⟩ := Keep.out w2 _ (J2.out.eq (b := (blk b3 #[.int .i64 (wd p), .int .i64 0, .int .i64 p.length] 26 + blk b2 #[.int .i64 0, .int .i64 0, .int .i64 0] 26) + G) (by ac_rfl))
  have hp1 := Hp.out.h1
  have hp6 := Hp.out.h6
  have hpw1 := Hp.out.w1
  have hpw6 := Hp.out.w6
  have hwm : IntKind.i64.wrap ((p.length : Int) - 1) = (p.length : Int) - 1 := by rw [IntKind.wrap_i64]; omega
  go_wp2
  clear s1 s2 s3
  have Hsh := hid (fun (W : World) (X : MS) (hW : Has W (X + G)) (x y : Nat) => shift_any (w := W) HflG.out Hp.out Hx.out hW.right x y)
  have Hp1 := hid hp1
  have Hpw1 := hid hpw1
  have Hpw6 := hid hpw6
  have Hp6 := hid hp6
  clear hp1 hp6 hpw1 hpw6 hwm hfl
  go_loopw [5] (fun v wr => ∃ y D : Nat, v = .int .i64 y ∧ y < D ∧ D ≤ p.length ∧ (∀ y', y < y' → y' < D → shB p 0 y' = false) ∧ (D < p.length → shB p 0 D = true) ∧ Has wr (blk b3 #[.int .i64 (wd p), .int .i64 0, .int .i64 D] 26 + (blk b2 #[.int .i64 0, .int .i64 0, .int .i64 0] 26 + G)) ∧ Ext w wr) (fun v _ => (intOf v).toNat)
  case atStart => exact ⟨p.length - 1, p.length, by have := Hp1.out; congr 1; omega, by have := Hp1.out; omega, Nat.le_refl _, fun y' h1 h2 => by omega, fun h => absurd h (Nat.lt_irrefl _), J2.out, E2.out⟩
  case round =>
    obtain ⟨y, D, rfl, hyD, hDh, hmin, hhit, hW, hE⟩ := hrel
    have HyD := hid hyD
    have HDh := hid hDh
    have Hmin := hid hmin
    have Hhit := hid hhit
    have HW := hid hW
    have HE := hid hE
    clear hyD hDh hmin hhit hW hE J1' E1 J2 E2 HA1 HEA
    have hy6 : (y : Int) ≤ 6 := by have := HyD.out; have := HDh.out; have := Hp6.out; omega
    have hwy : IntKind.i64.wrap ((y : Int) - 1) = (y : Int) - 1 := by rw [IntKind.wrap_i64]; omega
    by_cases h0 : 0 < y
    · have h0I : (0 : Int) < y := by omega
      have HWG := hid (HW.out.eq (b := (blk b3 #[.int .i64 (wd p), .int .i64 0, .int .i64 D] 26 + blk b2 #[.int .i64 0, .int .i64 0, .int .i64 0] 26) + G) (by ac_rfl))
      have Hs := hid (Hsh.out wr _ HWG.out 0 y)
      obtain ⟨q, hq⟩ : ∃ q, q = shB p 0 y := ⟨_, rfl⟩
      rw [← hq] at Hs
      have Hq := hid hq
      have H0 := hid h0
      clear hq h0
      cases q with
      | true =>
        go_wp2_with (first
          | (go_at_call 61; refine Hs.out.mono ?_; rintro e5 w5 ⟨rfl, k1⟩; have K1 := hid (k1.1 _ HW.out); have E5 := hid (HE.out.trans k1.2); clear k1)
          | (refine wpList_store_blk rfl (.tmp 31) (.tmp 30) 3 rfl size3 b3 2 (.int .i64 y) rfl rfl rfl #[.int .i64 (wd p), .int .i64 0, .int .i64 D] 26 _ K1.out (by simp) ?_; intro w6 k1 k2; have K2 := hid k1; have E6 := hid (E5.out.trans k2); clear k1 k2))
        go_roundw
        case rel => exact ⟨y - 1, y, by have := H0.out; congr 1; omega, by have := H0.out; omega, by have := HyD.out; have := HDh.out; omega, fun y' h1 h2 => by omega, fun _ => Hq.out.symm, K2.out, E6.out⟩
        case measure => have := H0.out; simp [intOf]; omega
      | false =>
        go_wp2_with (go_at_call 61; refine Hs.out.mono ?_; rintro e5 w5 ⟨rfl, k1⟩; have K1 := hid (k1.1 _ HW.out); have E5 := hid (HE.out.trans k1.2); clear k1)
        go_roundw
        case rel => exact ⟨y - 1, D, by have := H0.out; congr 1; omega, by have := HyD.out; omega, HDh.out, fun y' h1 h2 => by
          by_cases hyy : y' = y
          · rw [hyy]; exact Hq.out.symm
          · exact Hmin.out y' (by have := H0.out; omega) h2, Hhit.out, K1.out, E5.out⟩
        case measure => have := H0.out; simp [intOf]; omega
    · have hy0 : y = 0 := by omega
      have HyD0 := hid (show 0 < D by have := HyD.out; omega)
      have Hmin0 := hid (show ∀ y', 1 ≤ y' → y' < D → shB p 0 y' = false from fun y' h1 h2 => Hmin.out y' (by omega) h2)
      have h0I : ¬ (0 : Int) < y := by omega
      generalize (y : Int) = yi at *
      clear h0 hwy hy6 hy0 HyD Hmin
      clear y
      go_wp2
      go_loopw [6] (fun v wr => ∃ x : Nat, v = .int .i64 x ∧ 1 ≤ x ∧ x ≤ wd p ∧ (∀ x', 1 ≤ x' → x' < x → ∀ y, y < D → shB p x' y = false) ∧ Has wr (blk b3 #[.int .i64 (wd p), .int .i64 0, .int .i64 D] 26 + (blk b2 #[.int .i64 0, .int .i64 0, .int .i64 0] 26 + G)) ∧ Ext w wr) (fun v _ => 7 - (intOf v).toNat)
      case atStart => exact ⟨1, rfl, Nat.le_refl _, Hpw1.out, fun x' h1 h2 => by omega, HW.out, HE.out⟩
      case round =>
        obtain ⟨x, rfl, hx1, hxw, hno, hW, hE⟩ := hrel
        have Hx1 := hid hx1
        have Hxw := hid hxw
        have Hno := hid hno
        have HWx := hid hW
        have HEx := hid hE
        clear hno hW hE HW HE
        have HWG := hid (HWx.out.eq (b := (blk b3 #[.int .i64 (wd p), .int .i64 0, .int .i64 D] 26 + blk b2 #[.int .i64 0, .int .i64 0, .int .i64 0] 26) + G) (by ac_rfl))
        obtain ⟨s1, s2, s3⟩ := Keep.out wr _ HWG.out
        by_cases hlt : x < wd p
        · have hltI : (x : Int) < wd p := by omega
          have Hlt := hid hlt
          have g2 : wr.cell? ⟨b3, 2, none⟩ = some (.int .i64 D) := HWx.out.at_ rfl
          have hx6 : (x : Int) ≤ 6 := by have := Hpw6.out; omega
          have hD6 : (D : Int) ≤ 6 := by have := HDh.out; have := Hp6.out; omega
          clear hlt hx1 hxw
          go_wp2
          clear s1 s2 s3 g2
          go_loopw [42] (fun v wq => ∃ y : Nat, v = .int .i64 y ∧ y ≤ D ∧ (∀ y', y' < y → shB p x y' = false) ∧ Has wq (blk b3 #[.int .i64 (wd p), .int .i64 0, .int .i64 D] 26 + (blk b2 #[.int .i64 0, .int .i64 0, .int .i64 0] 26 + G)) ∧ Ext w wq) (fun v _ => D - (intOf v).toNat)
          case atStart => exact ⟨0, rfl, Nat.zero_le _, fun y' h => by omega, HWx.out, HEx.out⟩
          case round =>
            obtain ⟨y, rfl, hyD, hno, hW, hE⟩ := hrel
            have Hno2 := hid hno
            have HWy := hid hW
            have HEy := hid hE
            clear hno hW hE
            by_cases hly : y < D
            · have hlyI : (y : Int) < D := by omega
              have Hly := hid hly
              have HWG2 := hid (HWy.out.eq (b := (blk b3 #[.int .i64 (wd p), .int .i64 0, .int .i64 D] 26 + blk b2 #[.int .i64 0, .int .i64 0, .int .i64 0] 26) + G) (by ac_rfl))
              have Hs := hid (Hsh.out _ _ HWG2.out x y)
              obtain ⟨q, hq⟩ : ∃ q, q = shB p x y := ⟨_, rfl⟩
              rw [← hq] at Hs
              have Hq := hid hq
              clear hq hly hyD
              cases q with
              | true =>
                go_wp2_with (first
                  | (go_at_call 61; refine Hs.out.mono ?_; rintro e5 w5 ⟨rfl, k1⟩; have K1 := hid (k1.1 _ HWy.out); have E5 := hid (HEy.out.trans k1.2); clear k1)
                  | (refine wpList_store_blk rfl (.tmp 51) (.tmp 49) 3 rfl size3 b3 0 (.int .i64 x) rfl rfl rfl #[.int .i64 (wd p), .int .i64 0, .int .i64 D] 26 _ K1.out (by simp) ?_; intro w6 k1 k2; have K2 := hid k1; have E6 := hid (E5.out.trans k2); clear k1 k2)
                  | (refine wpList_store_blk rfl (.tmp 52) (.tmp 50) 3 rfl size3 b3 1 (.int .i64 y) rfl rfl rfl #[.int .i64 x, .int .i64 0, .int .i64 D] 26 _ K2.out (by simp) ?_; intro w7 k1 k2; have K3 := hid (show Has w7 (blk b3 #[.int .i64 x, .int .i64 y, .int .i64 D] 26 + (blk b2 #[.int .i64 0, .int .i64 0, .int .i64 0] 26 + G)) from k1); have E7 := hid (E6.out.trans k2); have h0 : w7.cell? ⟨b3, 0, none⟩ = some (.int .i64 x) := K3.out.at_ rfl; have h1 : w7.cell? ⟨b3, 1, none⟩ = some (.int .i64 y) := K3.out.at_ rfl; have h2 : w7.cell? ⟨b3, 2, none⟩ = some (.int .i64 D) := K3.out.at_ rfl; have K4 := hid (K3.out.eq (b := blk b2 #[.int .i64 0, .int .i64 0, .int .i64 0] 26 + (blk b3 #[.int .i64 x, .int .i64 y, .int .i64 D] 26 + G)) (by ac_rfl)); clear k1 k2)
                  | (refine wpList_store_whole rfl (.tmp 2) (.tmp 53) 26 rfl 3 size26 b2 (.agg #[.int .i64 x, .int .i64 y, .int .i64 D]) rfl rfl rfl (by simp [Value.cells, Value.oneCell']) #[.int .i64 0, .int .i64 0, .int .i64 0] 26 _ K4.out rfl ?_; intro w8 k1 k2; have K5 := hid (show Has w8 (blk b2 #[.int .i64 x, .int .i64 y, .int .i64 D] 26 + (blk b3 #[.int .i64 x, .int .i64 y, .int .i64 D] 26 + G)) from k1); have E8 := hid (E7.out.trans k2); clear k1 k2 h0 h1 h2))
                have q0 : w8.cell? ⟨b2, 0, none⟩ = some (.int .i64 x) := K5.out.at_ rfl
                have q1 : w8.cell? ⟨b2, 1, none⟩ = some (.int .i64 y) := K5.out.at_ rfl
                have q2 : w8.cell? ⟨b2, 2, none⟩ = some (.int .i64 D) := K5.out.at_ rfl
                have hK := HK.out w8 _ (K5.out.eq (b := (blk b2 #[.int .i64 x, .int .i64 y, .int .i64 D] 26 + blk b3 #[.int .i64 x, .int .i64 y, .int .i64 D] 26) + G) (by ac_rfl))
                exact bodyPost_ret (v := .agg #[.int .i64 x, .int .i64 y, .int .i64 D]) (by simp [results, Tryd.results34, go_sem, q0, q1, q2]) rfl
                  ⟨⟨x, y, D⟩, ⟨HyD0.out, HDh.out, Hmin0.out, Hhit.out, Hx1.out, Hxw.out, Hly.out, Hno.out, fun _ => ⟨Hq.out.symm, Hno2.out⟩, fun h => by have := Hlt.out; simp only at h; omega⟩, rfl, hK, E8.out⟩
              | false =>
                go_wp2_with (go_at_call 61; refine Hs.out.mono ?_; rintro e5 w5 ⟨rfl, k1⟩; have K1 := hid (k1.1 _ HWy.out); have E5 := hid (HEy.out.trans k1.2); clear k1)
                go_roundw
                case rel => exact ⟨y + 1, by go_num, Hly.out, fun y' h => by
                  by_cases hyy : y' = y
                  · rw [hyy]; exact Hq.out.symm
                  · exact Hno2.out y' (by omega), K1.out, E5.out⟩
                case measure => have := Hly.out; simp [intOf]; omega
            · have hye : y = D := by omega
              subst hye
              clear hly
              go_wp2
              go_roundw
              case rel => exact ⟨x + 1, by go_num, by omega, Hlt.out, fun x' h1 h2 => by
                by_cases hxx : x' = x
                · rw [hxx]; exact Hno2.out
                · exact Hno.out x' h1 (by omega), HWy.out, HEy.out⟩
              case measure => have := Hlt.out; have := Hpw6.out; simp [intOf]; omega
        · have hxe : x = wd p := by omega
          have h0 : wr.cell? ⟨b3, 0, none⟩ = some (.int .i64 (wd p)) := HWx.out.at_ rfl
          have h1 : wr.cell? ⟨b3, 1, none⟩ = some (.int .i64 0) := HWx.out.at_ rfl
          have h2 : wr.cell? ⟨b3, 2, none⟩ = some (.int .i64 D) := HWx.out.at_ rfl
          have K4 := hid (HWx.out.eq (b := blk b2 #[.int .i64 0, .int .i64 0, .int .i64 0] 26 + (blk b3 #[.int .i64 (wd p), .int .i64 0, .int .i64 D] 26 + G)) (by ac_rfl))
          subst hxe
          clear hlt hx1 hxw
          go_wp2_with (refine wpList_store_whole rfl (.tmp 2) (.tmp 55) 26 rfl 3 size26 b2 (.agg #[.int .i64 (wd p), .int .i64 0, .int .i64 D]) rfl rfl rfl (by simp [Value.cells, Value.oneCell']) #[.int .i64 0, .int .i64 0, .int .i64 0] 26 _ K4.out rfl ?_; intro w8 k1 k2; have K5 := hid (show Has w8 (blk b2 #[.int .i64 (wd p), .int .i64 0, .int .i64 D] 26 + (blk b3 #[.int .i64 (wd p), .int .i64 0, .int .i64 D] 26 + G)) from k1); have E8 := hid (HEx.out.trans k2); clear k1 k2 h0 h1 h2)
          have q0 : w8.cell? ⟨b2, 0, none⟩ = some (.int .i64 (wd p)) := K5.out.at_ rfl
          have q1 : w8.cell? ⟨b2, 1, none⟩ = some (.int .i64 0) := K5.out.at_ rfl
          have q2 : w8.cell? ⟨b2, 2, none⟩ = some (.int .i64 D) := K5.out.at_ rfl
          have hK := HK.out w8 _ (K5.out.eq (b := (blk b2 #[.int .i64 (wd p), .int .i64 0, .int .i64 D] 26 + blk b3 #[.int .i64 (wd p), .int .i64 0, .int .i64 D] 26) + G) (by ac_rfl))
          exact bodyPost_ret (v := .agg #[.int .i64 (wd p), .int .i64 0, .int .i64 D]) (by simp [results, Tryd.results34, go_sem, q0, q1, q2]) rfl
            ⟨⟨wd p, 0, D⟩, ⟨HyD0.out, HDh.out, Hmin0.out, Hhit.out, Hpw1.out, Nat.le_refl _, HyD0.out, Hno.out, fun h => absurd h (Nat.lt_irrefl _), fun _ => rfl⟩, rfl, hK, E8.out⟩
end Go.Proofs.YteibbnmlmbhkpaaDoor

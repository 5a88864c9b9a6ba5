/-
  The walk of the law's in.
-/
import Derived.Test.YteibbnmlmbhkpaaDoorGW1
namespace Go.Proofs.YteibbnmlmbhkpaaDoor
open Go.RowKit
set_option linter.unusedVariables false
set_option linter.unusedSimpArgs false
set_option maxHeartbeats 4000000
set_option maxRecDepth 100000

theorem tdiv_small {a b : Int} (hb : 1 ≤ b) (ha : -2000 ≤ a ∧ a ≤ 2000) : -2000 ≤ a.tdiv b ∧ a.tdiv b ≤ 2000 := by
  have h1 := Int.natAbs_tdiv a b
  have h2 := Nat.div_le_self a.natAbs b.natAbs
  have h3 : (a.tdiv b).natAbs ≤ a.natAbs := by rw [h1]; exact h2
  omega
theorem tmod_small {a b : Int} (hb : 1 ≤ b ∧ b ≤ 6) : -6 ≤ a.tmod b ∧ a.tmod b ≤ 6 := by
  have := mod_go (n := a) (m := b) (by omega)
  omega
theorem mul_small {a : Int} {b : Nat} (hb : b ≤ 6) (ha : -2000 ≤ a ∧ a ≤ 2000) : -12000 ≤ a * b ∧ a * b ≤ 12000 := by
  have : b = 0 ∨ b = 1 ∨ b = 2 ∨ b = 3 ∨ b = 4 ∨ b = 5 ∨ b = 6 := by omega
  rcases this with rfl | rfl | rfl | rfl | rfl | rfl | rfl <;> simp <;> omega
theorem in_any {F : MS} {l : List Mv} {A : Option Addr} {c : Nat} {w : World} {g : Gd} {m : Mv} (hr : RdS F RT.mv l (.slice A l.length c)) (hl : l.length ≤ 1000) (hsm : ∀ c ∈ l, (-1000 ≤ c.e ∧ c.e ≤ 1000) ∧ (-1000 ≤ c.f ∧ c.f ≤ 1000)) (hA : 1 ≤ g.A ∧ g.A ≤ 6) (hD : 1 ≤ g.D ∧ g.D ≤ 6) (hB : g.B ≤ 6)
    (he : -1000 ≤ m.e ∧ m.e ≤ 1000) (hf : -1000 ≤ m.f ∧ m.f ≤ 1000) (hin : l.any (inOne g m) = true) (hH : Has w F) :
    Calls Tryd.prog 22 #[.slice A l.length c, .agg #[.int .i64 g.A, .int .i64 g.B, .int .i64 g.D], m.v] w fun e w' => e = .returned (.bool true) ∧ Kp w w' := by
  have Hkm := hid (fun W => refKindOf_any m W)
  have Hkc := hid (fun (c : Mv) W => refKindOf_any c W)
  have Hone := hid (show ∀ c : Mv, inOne g m c = ((kindOf c == kindOf m) && (((m.e - c.e).tmod g.A == 0) && (((m.f - c.f) - (m.e - c.e).tdiv g.A * g.B).tmod g.D == 0))) from fun c => rfl)
  obtain ⟨km, hkm⟩ : ∃ km, km = kindOf m := ⟨_, rfl⟩
  rw [← hkm] at Hkm Hone
  obtain ⟨me, hme⟩ : ∃ me, me = m.e := ⟨_, rfl⟩
  obtain ⟨mf, hmf⟩ : ∃ mf, mf = m.f := ⟨_, rfl⟩
  rw [← hme] at he Hone
  rw [← hmf] at hf Hone
  have Hin := hid hin
  generalize inOne g m = P at *
  obtain ⟨ma, mb, mc, md, me', mf'⟩ := m
  obtain rfl : me = me' := hme
  obtain rfl : mf = mf' := hmf
  obtain ⟨gA, gB, gD⟩ := g
  simp only at hA hD hB Hone
  obtain ⟨GA, hGA⟩ : ∃ GA : Int, GA = (gA : Int) := ⟨_, rfl⟩
  obtain ⟨GB, hGB⟩ : ∃ GB : Int, GB = (gB : Int) := ⟨_, rfl⟩
  obtain ⟨GD, hGD⟩ : ∃ GD : Int, GD = (gD : Int) := ⟨_, rfl⟩
  rw [← hGA, ← hGB, ← hGD] at Hone
  show Calls Tryd.prog 22 #[.slice A l.length c, .agg #[.int .i64 (gA : Int), .int .i64 (gB : Int), .int .i64 (gD : Int)], .agg #[.int .i64 ma, .int .i64 mb, .int .i64 mc, .int .i64 md, .int .i64 me, .int .i64 mf]] w _
  rw [← hGA, ← hGB, ← hGD]
  have HgA := hid (show 1 ≤ GA ∧ GA ≤ 6 by omega)
  have HgB := hid (show ∃ n : Nat, n ≤ 6 ∧ GB = n from ⟨gB, hB, hGB⟩)
  have HgD := hid (show 1 ≤ GD ∧ GD ≤ 6 by omega)
  clear hA hB hD hGA hGB hGD
  obtain ⟨b1, hb1⟩ : ∃ b1, b1 = w.heap.size := ⟨_, rfl⟩
  obtain ⟨W2, hW2⟩ : ∃ W2, W2 = (w.alloc (.cells #[.int .i64 GA, .int .i64 GB, .int .i64 GD] 26)).alloc (.cells #[.int .i64 ma, .int .i64 mb, .int .i64 mc, .int .i64 md, .int .i64 me, .int .i64 mf] 41) := ⟨_, rfl⟩
  have HA := hid (((Has.all w).alloc (.cells #[.int .i64 GA, .int .i64 GB, .int .i64 GD] 26)).alloc (.cells #[.int .i64 ma, .int .i64 mb, .int .i64 mc, .int .i64 md, .int .i64 me, .int .i64 mf] 41))
  have HE := hid ((Ext.alloc w (.cells #[.int .i64 GA, .int .i64 GB, .int .i64 GD] 26)).trans (Ext.alloc _ (.cells #[.int .i64 ma, .int .i64 mb, .int .i64 mc, .int .i64 md, .int .i64 me, .int .i64 mf] 41)))
  rw [show (w.alloc (.cells #[.int .i64 GA, .int .i64 GB, .int .i64 GD] 26)).heap.size = b1 + 1 by rw [hb1]; simp, ← hb1] at HA
  rw [← hW2] at HA HE
  have H2 := hid (show Has W2 (blk (b1 + 1) #[.int .i64 ma, .int .i64 mb, .int .i64 mc, .int .i64 md, .int .i64 me, .int .i64 mf] 41 + (blk b1 #[.int .i64 GA, .int .i64 GB, .int .i64 GD] 26 + MS.all w)) from HA.out)
  have HF := hid (show ∀ W, Has W (blk (b1 + 1) #[.int .i64 ma, .int .i64 mb, .int .i64 mc, .int .i64 md, .int .i64 me, .int .i64 mf] 41 + (blk b1 #[.int .i64 GA, .int .i64 GB, .int .i64 GD] 26 + MS.all w)) → Has W F ∧ ∀ N, Has w N → Has W N from fun W h => by
    have h' : Has W ((blk (b1 + 1) #[.int .i64 ma, .int .i64 mb, .int .i64 mc, .int .i64 md, .int .i64 me, .int .i64 mf] 41 + blk b1 #[.int .i64 GA, .int .i64 GB, .int .i64 GD] 26) + MS.all w) := h.eq (by ac_rfl)
    exact ⟨hH.of_all h', fun N hN => hN.of_all h'⟩)
  have Keep := hid (show ∀ W, Has W (blk (b1 + 1) #[.int .i64 ma, .int .i64 mb, .int .i64 mc, .int .i64 md, .int .i64 me, .int .i64 mf] 41 + (blk b1 #[.int .i64 GA, .int .i64 GB, .int .i64 GD] 26 + MS.all w)) → (W.cell? ⟨b1 + 1, 0, none⟩ = some (.int .i64 ma) ∧ W.cell? ⟨b1 + 1, 1, none⟩ = some (.int .i64 mb) ∧ W.cell? ⟨b1 + 1, 2, none⟩ = some (.int .i64 mc) ∧ W.cell? ⟨b1 + 1, 3, none⟩ = some (.int .i64 md) ∧ W.cell? ⟨b1 + 1, 4, none⟩ = some (.int .i64 me) ∧ W.cell? ⟨b1 + 1, 5, none⟩ = some (.int .i64 mf) ∧ W.cell? ⟨b1, 0, none⟩ = some (.int .i64 GA) ∧ W.cell? ⟨b1, 1, none⟩ = some (.int .i64 GB) ∧ W.cell? ⟨b1, 2, none⟩ = some (.int .i64 GD)) from fun W h => by
    have h' : Has W (blk b1 #[.int .i64 GA, .int .i64 GB, .int .i64 GD] 26 + (blk (b1 + 1) #[.int .i64 ma, .int .i64 mb, .int .i64 mc, .int .i64 md, .int .i64 me, .int .i64 mf] 41 + MS.all w)) := h.eq (by ac_rfl)
    exact ⟨h.at_ rfl, h.at_ rfl, h.at_ rfl, h.at_ rfl, h.at_ rfl, h.at_ rfl, h'.at_ rfl, h'.at_ rfl, h'.at_ rfl⟩)
  clear HA
  generalize (blk (b1 + 1) #[.int .i64 ma, .int .i64 mb, .int .i64 mc, .int .i64 md, .int .i64 me, .int .i64 mf] 41 + (blk b1 #[.int .i64 GA, .int .i64 GB, .int .i64 GD] 26 + MS.all w)) = M2 at *
  have Hr := hid hr
  have Hsm := hid hsm
  have HmE := hid he
  have HmF := hid hf
  have hA1 : ¬ (GA < 1) := by have := HgA.out; omega
  have hD1 : ¬ (GD < 1) := by have := HgD.out; omega
  have hA0 : ¬ (GA = 0) := by have := HgA.out; omega
  have hD0 : ¬ (GD = 0) := by have := HgD.out; omega
  have hnc := hr.cells.2.1
  obtain ⟨N, hN⟩ : ∃ N, N = l.length := ⟨_, rfl⟩
  rw [← hN] at Hr hl hnc ⊢
  have HN := hid hN
  have hNI : (N : Int) ≤ 1000 := by omega
  have G0 := (Keep.out _ H2.out).2.2.2.2.2.2.1
  have G2 := (Keep.out _ H2.out).2.2.2.2.2.2.2.2
  rw [hW2] at G0 G2
  clear hr hsm he hf hH hin hN hkm
  go_enter Tryd.func22, Tryd.ntmps22
  go_wp2
  rw [← hW2, ← hb1]
  clear hW2 hb1 G0 G2
  go_loopw [7] (fun v wr => ∃ i : Nat, i ≤ N ∧ v = .int .i64 i ∧ (l.take i).any P = false ∧ Has wr M2 ∧ Ext w wr) (fun v _ => N - (intOf v).toNat)
  case atStart => exact ⟨0, Nat.zero_le _, rfl, rfl, H2.out, HE.out⟩
  case round =>
    obtain ⟨i, hi, rfl, hno, hW, hE⟩ := hrel
    have Hno := hid hno
    have HW := hid hW
    have HE' := hid hE
    clear hno hW hE HE H2
    by_cases hlt : i < N
    · have hltI : (i : Int) < N := by omega
      have Hlt := hid hlt
      obtain ⟨cm, hcm⟩ : ∃ cm, l[i]? = some cm := ⟨_, List.getElem?_eq_getElem (by have := HN.out; omega)⟩
      obtain ⟨b, o, hA', hcs⟩ := Hr.out.mvAt hcm
      subst hA'
      have hsm := Hsm.out cm (List.mem_of_getElem? hcm)
      have Hsu := hid (show (l.take (i + 1)).any P = P cm by rw [take_more hcm, List.any_append, Hno.out]; simp)
      have hone := Hone.out cm
      have Hkk := hid (fun W => Hkc.out cm W)
      obtain ⟨kc, hkc⟩ : ∃ kc, kc = kindOf cm := ⟨_, rfl⟩
      rw [← hkc] at Hkk hone
      rw [hone] at Hsu
      clear hone hkc hcm hlt hi
      obtain ⟨ca, cb, cc, cd, ce, cf⟩ := cm
      have KA := hid (show ∀ W, Has W M2 → (W.cell? ⟨b, o + i * 6, none⟩ = some (.int .i64 ca) ∧ W.cell? ⟨b, o + i * 6 + 1, none⟩ = some (.int .i64 cb) ∧ W.cell? ⟨b, o + i * 6 + 2, none⟩ = some (.int .i64 cc) ∧ W.cell? ⟨b, o + i * 6 + 3, none⟩ = some (.int .i64 cd) ∧ W.cell? ⟨b, o + i * 6 + 4, none⟩ = some (.int .i64 ce) ∧ W.cell? ⟨b, o + i * 6 + 5, none⟩ = some (.int .i64 cf) ∧ W.cell? ⟨b1 + 1, 0, none⟩ = some (.int .i64 ma) ∧ W.cell? ⟨b1 + 1, 1, none⟩ = some (.int .i64 mb) ∧ W.cell? ⟨b1 + 1, 2, none⟩ = some (.int .i64 mc) ∧ W.cell? ⟨b1 + 1, 3, none⟩ = some (.int .i64 md) ∧ W.cell? ⟨b1 + 1, 4, none⟩ = some (.int .i64 me) ∧ W.cell? ⟨b1 + 1, 5, none⟩ = some (.int .i64 mf) ∧ W.cell? ⟨b1, 0, none⟩ = some (.int .i64 GA) ∧ W.cell? ⟨b1, 1, none⟩ = some (.int .i64 GB) ∧ W.cell? ⟨b1, 2, none⟩ = some (.int .i64 GD)) from fun W h => by
        obtain ⟨c0, c1, c2, c3, c4, c5⟩ := hcs W (HF.out W h).1
        obtain ⟨k0, k1, k2, k3, k4, k5, k6, k7, k8⟩ := Keep.out W h
        exact ⟨c0, c1, c2, c3, c4, c5, k0, k1, k2, k3, k4, k5, k6, k7, k8⟩)
      simp only at hsm Hsu
      have Hkd := hid (show ∀ W, Calls Tryd.prog 23 #[.agg #[.int .i64 ca, .int .i64 cb, .int .i64 cc, .int .i64 cd, .int .i64 ce, .int .i64 cf]] W fun e w' => e = .returned (.int .i64 kc) ∧ Kp W w' from Hkk.out)
      have Hke := hid (show ∀ W, Calls Tryd.prog 23 #[.agg #[.int .i64 ma, .int .i64 mb, .int .i64 mc, .int .i64 md, .int .i64 me, .int .i64 mf]] W fun e w' => e = .returned (.int .i64 km) ∧ Kp W w' from Hkm.out)
      have hme := HmE.out
      have hmf := HmF.out
      have hga := HgA.out
      have hgd := HgD.out
      obtain ⟨nb, hnb, hgb⟩ := HgB.out
      obtain ⟨x, hx⟩ : ∃ x, x = me - ce := ⟨_, rfl⟩
      obtain ⟨y, hy⟩ : ∃ y, y = mf - cf := ⟨_, rfl⟩
      obtain ⟨q, hq⟩ : ∃ q, q = x.tdiv GA := ⟨_, rfl⟩
      obtain ⟨qb, hqb⟩ : ∃ qb, qb = q * GB := ⟨_, rfl⟩
      obtain ⟨z, hz⟩ : ∃ z, z = y - qb := ⟨_, rfl⟩
      rw [← hx, ← hy, ← hq, ← hqb, ← hz] at Hsu
      have hqr : -2000 ≤ q ∧ q ≤ 2000 := by rw [hq]; exact tdiv_small hga.1 (by omega)
      have hqbr : -12000 ≤ qb ∧ qb ≤ 12000 := by rw [hqb, hgb]; exact mul_small hnb hqr
      have u1 : IntKind.i64.wrap (me - ce) = x := by rw [hx, IntKind.wrap_i64]; omega
      have u2 : IntKind.i64.wrap (mf - cf) = y := by rw [hy, IntKind.wrap_i64]; omega
      have u3 : IntKind.i64.wrap (x.tdiv GA) = q := by rw [← hq, IntKind.wrap_i64]; omega
      have u4 : IntKind.i64.wrap (q * GB) = qb := by rw [← hqb, IntKind.wrap_i64]; omega
      have u5 : IntKind.i64.wrap (y - qb) = z := by rw [hz, IntKind.wrap_i64]; omega
      have v1 : wrap64 (me - ce) = x := by rw [hx]; unfold wrap64; omega
      have v2 : wrap64 (mf - cf) = y := by rw [hy]; unfold wrap64; omega
      have v3 : wrap64 q = q := by unfold wrap64; omega
      have u6 : IntKind.i64.wrap q = q := by rw [IntKind.wrap_i64]; omega
      have v4 : wrap64 (q * GB) = qb := by rw [← hqb]; unfold wrap64; omega
      have v5 : wrap64 (y - qb) = z := by rw [hz]; unfold wrap64; omega
      have tdq := hq.symm
      clear hx hy hq hqb hz hqr hqbr hme hmf hga hgd hnb hgb hsm hcs Hkk
      cases h1 : (kc == km) with
      | false =>
        rw [h1, Bool.false_and] at Hsu
        obtain ⟨c0, c1, c2, c3, c4, c5, k0, k1, k2, k3, k4, k5, k6, k7, k8⟩ := KA.out wr HW.out
        go_wp2
        go_quiet (fail)
        go_simp
        generalize hwd : wr.drewN _ = wd
        have HWd := hid (show Has wd M2 by rw [← hwd]; exact HW.out.drewN _)
        have HEd := hid (show Ext w wd by rw [← hwd]; exact HE'.out.trans (Ext.drewN _ _))
        clear hwd c0 c1 c2 c3 c4 c5 k0 k1 k2 k3 k4 k5 k6 k7 k8
        go_wp2
        have hS := KA.out wd.drew HWd.out.drew
        refine wp_region_txt (fun W => W.cell? ⟨b, o + i * 6, none⟩ = some (.int .i64 ca) ∧ W.cell? ⟨b, o + i * 6 + 1, none⟩ = some (.int .i64 cb) ∧ W.cell? ⟨b, o + i * 6 + 2, none⟩ = some (.int .i64 cc) ∧ W.cell? ⟨b, o + i * 6 + 3, none⟩ = some (.int .i64 cd) ∧ W.cell? ⟨b, o + i * 6 + 4, none⟩ = some (.int .i64 ce) ∧ W.cell? ⟨b, o + i * 6 + 5, none⟩ = some (.int .i64 cf) ∧ W.cell? ⟨b1 + 1, 0, none⟩ = some (.int .i64 ma) ∧ W.cell? ⟨b1 + 1, 1, none⟩ = some (.int .i64 mb) ∧ W.cell? ⟨b1 + 1, 2, none⟩ = some (.int .i64 mc) ∧ W.cell? ⟨b1 + 1, 3, none⟩ = some (.int .i64 md) ∧ W.cell? ⟨b1 + 1, 4, none⟩ = some (.int .i64 me) ∧ W.cell? ⟨b1 + 1, 5, none⟩ = some (.int .i64 mf) ∧ W.cell? ⟨b1, 0, none⟩ = some (.int .i64 GA) ∧ W.cell? ⟨b1, 1, none⟩ = some (.int .i64 GB) ∧ W.cell? ⟨b1, 2, none⟩ = some (.int .i64 GD)) none
          [(0, true), (1, true), (2, true), (3, true), (5, true), (4, false), (6, false), (7, true), (8, true), (9, true), (10, true), (11, true), (12, true), (13, true), (14, true), (15, true), (16, true), (17, true), (18, true), (19, true), (20, true), (21, true), (22, true), (23, true), (24, true), (25, true), (26, true), (27, true), (28, true), (29, true)] (by kernel_rfl) rfl (by kernel_rfl) (by kernel_rfl) (by repeat (first | with_reducible refine PanicOk.thn ?_ | with_reducible refine PanicOk.blk ?_ | exact PanicOk.body _ _ _)) ?_
        repeat
          (refine txt_quiet ?_ hS rfl rfl (fun W hW => ?_) ?_
           rotate_left 1
           · obtain ⟨hW1, hW2, hW3, hW4, hW5, hW6, hW7, hW8, hW9, hW10, hW11, hW12, hW13, hW14, hW15⟩ := hW
             go_simp
             exact rfl
           simp only [Act.put, List.setIfInBounds_toArray, List.set_cons_zero, List.set_cons_succ])
        refine txt_op rfl rfl ?_
        refine op_call 23 #[.agg #[.int .i64 ca, .int .i64 cb, .int .i64 cc, .int .i64 cd, .int .i64 ce, .int .i64 cf]] wd.drew (by go_simp) _ (Hkd.out wd.drew) ?_
        rintro e1 w1 ⟨rfl, k1⟩
        have J1 := hid (k1.1 _ HWd.out.drew)
        have L1 := hid ((HEd.out.trans (Ext.drew _)).trans k1.2)
        refine ⟨_, rfl, fun _ => KA.out w1 J1.out, ?_⟩
        clear hS k1
        simp only [Act.put, List.setIfInBounds_toArray, List.set_cons_zero, List.set_cons_succ]
        have hS := KA.out w1 J1.out
        refine txt_op rfl rfl ?_
        refine op_call 23 #[.agg #[.int .i64 ma, .int .i64 mb, .int .i64 mc, .int .i64 md, .int .i64 me, .int .i64 mf]] w1 (by go_simp) _ (Hke.out w1) ?_
        rintro e2 w2 ⟨rfl, k1⟩
        have J2 := hid (k1.1 _ J1.out)
        have L2 := hid (L1.out.trans k1.2)
        refine ⟨_, rfl, fun _ => KA.out w2 J2.out, ?_⟩
        clear hS k1
        simp only [Act.put, List.setIfInBounds_toArray, List.set_cons_zero, List.set_cons_succ]
        have hS := KA.out w2 J2.out
        repeat
          (refine txt_quiet ?_ hS rfl rfl (fun W hW => ?_) ?_
           rotate_left 1
           · obtain ⟨hW1, hW2, hW3, hW4, hW5, hW6, hW7, hW8, hW9, hW10, hW11, hW12, hW13, hW14, hW15⟩ := hW
             go_simp
             exact rfl
           simp only [Act.put, List.setIfInBounds_toArray, List.set_cons_zero, List.set_cons_succ])
        iterate 5 (refine txt_off hS rfl rfl ?_; simp only [Act.put, List.setIfInBounds_toArray, List.set_cons_zero, List.set_cons_succ])
        repeat
          (refine txt_quiet ?_ hS rfl rfl (fun W hW => ?_) ?_
           rotate_left 1
           · obtain ⟨hW1, hW2, hW3, hW4, hW5, hW6, hW7, hW8, hW9, hW10, hW11, hW12, hW13, hW14, hW15⟩ := hW
             go_simp
             exact rfl
           simp only [Act.put, List.setIfInBounds_toArray, List.set_cons_zero, List.set_cons_succ])
        iterate 13 (refine txt_off hS rfl rfl ?_; simp only [Act.put, List.setIfInBounds_toArray, List.set_cons_zero, List.set_cons_succ])
        repeat
          (refine txt_quiet ?_ hS rfl rfl (fun W hW => ?_) ?_
           rotate_left 1
           · obtain ⟨hW1, hW2, hW3, hW4, hW5, hW6, hW7, hW8, hW9, hW10, hW11, hW12, hW13, hW14, hW15⟩ := hW
             go_simp
             exact rfl
           simp only [Act.put, List.setIfInBounds_toArray, List.set_cons_zero, List.set_cons_succ])
        refine txt_done ?_
        go_wp2
        go_roundw
        case rel => exact ⟨i + 1, Hlt.out, by go_num, Hsu.out, J2.out, L2.out⟩
        case measure => have := Hlt.out; simp [intOf]; omega
      | true =>
        rw [h1, Bool.true_and] at Hsu
        cases h2 : (x.tmod GA == 0) with
        | false =>
          rw [h2, Bool.false_and] at Hsu
          obtain ⟨c0, c1, c2, c3, c4, c5, k0, k1, k2, k3, k4, k5, k6, k7, k8⟩ := KA.out wr HW.out
          go_wp2
          go_quiet (fail)
          go_simp
          generalize hwd : wr.drewN _ = wd
          have HWd := hid (show Has wd M2 by rw [← hwd]; exact HW.out.drewN _)
          have HEd := hid (show Ext w wd by rw [← hwd]; exact HE'.out.trans (Ext.drewN _ _))
          clear hwd c0 c1 c2 c3 c4 c5 k0 k1 k2 k3 k4 k5 k6 k7 k8
          go_wp2
          have hS := KA.out wd.drew HWd.out.drew
          refine wp_region_txt (fun W => W.cell? ⟨b, o + i * 6, none⟩ = some (.int .i64 ca) ∧ W.cell? ⟨b, o + i * 6 + 1, none⟩ = some (.int .i64 cb) ∧ W.cell? ⟨b, o + i * 6 + 2, none⟩ = some (.int .i64 cc) ∧ W.cell? ⟨b, o + i * 6 + 3, none⟩ = some (.int .i64 cd) ∧ W.cell? ⟨b, o + i * 6 + 4, none⟩ = some (.int .i64 ce) ∧ W.cell? ⟨b, o + i * 6 + 5, none⟩ = some (.int .i64 cf) ∧ W.cell? ⟨b1 + 1, 0, none⟩ = some (.int .i64 ma) ∧ W.cell? ⟨b1 + 1, 1, none⟩ = some (.int .i64 mb) ∧ W.cell? ⟨b1 + 1, 2, none⟩ = some (.int .i64 mc) ∧ W.cell? ⟨b1 + 1, 3, none⟩ = some (.int .i64 md) ∧ W.cell? ⟨b1 + 1, 4, none⟩ = some (.int .i64 me) ∧ W.cell? ⟨b1 + 1, 5, none⟩ = some (.int .i64 mf) ∧ W.cell? ⟨b1, 0, none⟩ = some (.int .i64 GA) ∧ W.cell? ⟨b1, 1, none⟩ = some (.int .i64 GB) ∧ W.cell? ⟨b1, 2, none⟩ = some (.int .i64 GD)) none
            [(0, true), (1, true), (2, true), (3, true), (5, true), (4, false), (6, false), (7, true), (8, true), (9, true), (10, true), (11, true), (12, true), (13, true), (14, true), (15, true), (16, true), (17, true), (18, true), (19, true), (20, true), (21, true), (22, true), (23, true), (24, true), (25, true), (26, true), (27, true), (28, true), (29, true)] (by kernel_rfl) rfl (by kernel_rfl) (by kernel_rfl) (by repeat (first | with_reducible refine PanicOk.thn ?_ | with_reducible refine PanicOk.blk ?_ | exact PanicOk.body _ _ _)) ?_
          repeat
            (refine txt_quiet ?_ hS rfl rfl (fun W hW => ?_) ?_
             rotate_left 1
             · obtain ⟨hW1, hW2, hW3, hW4, hW5, hW6, hW7, hW8, hW9, hW10, hW11, hW12, hW13, hW14, hW15⟩ := hW
               go_simp
               exact rfl
             simp only [Act.put, List.setIfInBounds_toArray, List.set_cons_zero, List.set_cons_succ])
          refine txt_op rfl rfl ?_
          refine op_call 23 #[.agg #[.int .i64 ca, .int .i64 cb, .int .i64 cc, .int .i64 cd, .int .i64 ce, .int .i64 cf]] wd.drew (by go_simp) _ (Hkd.out wd.drew) ?_
          rintro e1 w1 ⟨rfl, k1⟩
          have J1 := hid (k1.1 _ HWd.out.drew)
          have L1 := hid ((HEd.out.trans (Ext.drew _)).trans k1.2)
          refine ⟨_, rfl, fun _ => KA.out w1 J1.out, ?_⟩
          clear hS k1
          simp only [Act.put, List.setIfInBounds_toArray, List.set_cons_zero, List.set_cons_succ]
          have hS := KA.out w1 J1.out
          refine txt_op rfl rfl ?_
          refine op_call 23 #[.agg #[.int .i64 ma, .int .i64 mb, .int .i64 mc, .int .i64 md, .int .i64 me, .int .i64 mf]] w1 (by go_simp) _ (Hke.out w1) ?_
          rintro e2 w2 ⟨rfl, k1⟩
          have J2 := hid (k1.1 _ J1.out)
          have L2 := hid (L1.out.trans k1.2)
          refine ⟨_, rfl, fun _ => KA.out w2 J2.out, ?_⟩
          clear hS k1
          simp only [Act.put, List.setIfInBounds_toArray, List.set_cons_zero, List.set_cons_succ]
          have hS := KA.out w2 J2.out
          repeat
            (refine txt_quiet ?_ hS rfl rfl (fun W hW => ?_) ?_
             rotate_left 1
             · obtain ⟨hW1, hW2, hW3, hW4, hW5, hW6, hW7, hW8, hW9, hW10, hW11, hW12, hW13, hW14, hW15⟩ := hW
               go_simp
               exact rfl
             simp only [Act.put, List.setIfInBounds_toArray, List.set_cons_zero, List.set_cons_succ])
          iterate 13 (refine txt_off hS rfl rfl ?_; simp only [Act.put, List.setIfInBounds_toArray, List.set_cons_zero, List.set_cons_succ])
          repeat
            (refine txt_quiet ?_ hS rfl rfl (fun W hW => ?_) ?_
             rotate_left 1
             · obtain ⟨hW1, hW2, hW3, hW4, hW5, hW6, hW7, hW8, hW9, hW10, hW11, hW12, hW13, hW14, hW15⟩ := hW
               go_simp
               exact rfl
             simp only [Act.put, List.setIfInBounds_toArray, List.set_cons_zero, List.set_cons_succ])
          refine txt_done ?_
          go_wp2
          go_roundw
          case rel => exact ⟨i + 1, Hlt.out, by go_num, Hsu.out, J2.out, L2.out⟩
          case measure => have := Hlt.out; simp [intOf]; omega
        | true =>
          rw [h2, Bool.true_and] at Hsu
          cases h3 : (z.tmod GD == 0) with
          | false =>
            rw [h3] at Hsu
            obtain ⟨c0, c1, c2, c3, c4, c5, k0, k1, k2, k3, k4, k5, k6, k7, k8⟩ := KA.out wr HW.out
            go_wp2
            go_quiet (fail)
            go_simp
            generalize hwd : wr.drewN _ = wd
            have HWd := hid (show Has wd M2 by rw [← hwd]; exact HW.out.drewN _)
            have HEd := hid (show Ext w wd by rw [← hwd]; exact HE'.out.trans (Ext.drewN _ _))
            clear hwd c0 c1 c2 c3 c4 c5 k0 k1 k2 k3 k4 k5 k6 k7 k8
            go_wp2
            have hS := KA.out wd.drew HWd.out.drew
            refine wp_region_txt (fun W => W.cell? ⟨b, o + i * 6, none⟩ = some (.int .i64 ca) ∧ W.cell? ⟨b, o + i * 6 + 1, none⟩ = some (.int .i64 cb) ∧ W.cell? ⟨b, o + i * 6 + 2, none⟩ = some (.int .i64 cc) ∧ W.cell? ⟨b, o + i * 6 + 3, none⟩ = some (.int .i64 cd) ∧ W.cell? ⟨b, o + i * 6 + 4, none⟩ = some (.int .i64 ce) ∧ W.cell? ⟨b, o + i * 6 + 5, none⟩ = some (.int .i64 cf) ∧ W.cell? ⟨b1 + 1, 0, none⟩ = some (.int .i64 ma) ∧ W.cell? ⟨b1 + 1, 1, none⟩ = some (.int .i64 mb) ∧ W.cell? ⟨b1 + 1, 2, none⟩ = some (.int .i64 mc) ∧ W.cell? ⟨b1 + 1, 3, none⟩ = some (.int .i64 md) ∧ W.cell? ⟨b1 + 1, 4, none⟩ = some (.int .i64 me) ∧ W.cell? ⟨b1 + 1, 5, none⟩ = some (.int .i64 mf) ∧ W.cell? ⟨b1, 0, none⟩ = some (.int .i64 GA) ∧ W.cell? ⟨b1, 1, none⟩ = some (.int .i64 GB) ∧ W.cell? ⟨b1, 2, none⟩ = some (.int .i64 GD)) none
              [(0, true), (1, true), (2, true), (3, true), (5, true), (4, false), (6, false), (7, true), (8, true), (9, true), (10, true), (11, true), (12, true), (13, true), (14, true), (15, true), (16, true), (17, true), (18, true), (19, true), (20, true), (21, true), (22, true), (23, true), (24, true), (25, true), (26, true), (27, true), (28, true), (29, true)] (by kernel_rfl) rfl (by kernel_rfl) (by kernel_rfl) (by repeat (first | with_reducible refine PanicOk.thn ?_ | with_reducible refine PanicOk.blk ?_ | exact PanicOk.body _ _ _)) ?_
            repeat
              (refine txt_quiet ?_ hS rfl rfl (fun W hW => ?_) ?_
               rotate_left 1
               · obtain ⟨hW1, hW2, hW3, hW4, hW5, hW6, hW7, hW8, hW9, hW10, hW11, hW12, hW13, hW14, hW15⟩ := hW
                 go_simp
                 exact rfl
               simp only [Act.put, List.setIfInBounds_toArray, List.set_cons_zero, List.set_cons_succ])
            refine txt_op rfl rfl ?_
            refine op_call 23 #[.agg #[.int .i64 ca, .int .i64 cb, .int .i64 cc, .int .i64 cd, .int .i64 ce, .int .i64 cf]] wd.drew (by go_simp) _ (Hkd.out wd.drew) ?_
            rintro e1 w1 ⟨rfl, k1⟩
            have J1 := hid (k1.1 _ HWd.out.drew)
            have L1 := hid ((HEd.out.trans (Ext.drew _)).trans k1.2)
            refine ⟨_, rfl, fun _ => KA.out w1 J1.out, ?_⟩
            clear hS k1
            simp only [Act.put, List.setIfInBounds_toArray, List.set_cons_zero, List.set_cons_succ]
            have hS := KA.out w1 J1.out
            refine txt_op rfl rfl ?_
            refine op_call 23 #[.agg #[.int .i64 ma, .int .i64 mb, .int .i64 mc, .int .i64 md, .int .i64 me, .int .i64 mf]] w1 (by go_simp) _ (Hke.out w1) ?_
            rintro e2 w2 ⟨rfl, k1⟩
            have J2 := hid (k1.1 _ J1.out)
            have L2 := hid (L1.out.trans k1.2)
            refine ⟨_, rfl, fun _ => KA.out w2 J2.out, ?_⟩
            clear hS k1
            simp only [Act.put, List.setIfInBounds_toArray, List.set_cons_zero, List.set_cons_succ]
            have hS := KA.out w2 J2.out
            repeat
              (refine txt_quiet ?_ hS rfl rfl (fun W hW => ?_) ?_
               rotate_left 1
               · obtain ⟨hW1, hW2, hW3, hW4, hW5, hW6, hW7, hW8, hW9, hW10, hW11, hW12, hW13, hW14, hW15⟩ := hW
                 go_simp
                 exact rfl
               simp only [Act.put, List.setIfInBounds_toArray, List.set_cons_zero, List.set_cons_succ])
            refine txt_done ?_
            go_wp2
            go_roundw
            case rel => exact ⟨i + 1, Hlt.out, by go_num, Hsu.out, J2.out, L2.out⟩
            case measure => have := Hlt.out; simp [intOf]; omega
          | true =>
            obtain ⟨c0, c1, c2, c3, c4, c5, k0, k1, k2, k3, k4, k5, k6, k7, k8⟩ := KA.out wr HW.out
            go_wp2
            go_quiet (fail)
            go_simp
            generalize hwd : wr.drewN _ = wd
            have HWd := hid (show Has wd M2 by rw [← hwd]; exact HW.out.drewN _)
            have HEd := hid (show Ext w wd by rw [← hwd]; exact HE'.out.trans (Ext.drewN _ _))
            clear hwd c0 c1 c2 c3 c4 c5 k0 k1 k2 k3 k4 k5 k6 k7 k8
            go_wp2
            have hS := KA.out wd.drew HWd.out.drew
            refine wp_region_txt (fun W => W.cell? ⟨b, o + i * 6, none⟩ = some (.int .i64 ca) ∧ W.cell? ⟨b, o + i * 6 + 1, none⟩ = some (.int .i64 cb) ∧ W.cell? ⟨b, o + i * 6 + 2, none⟩ = some (.int .i64 cc) ∧ W.cell? ⟨b, o + i * 6 + 3, none⟩ = some (.int .i64 cd) ∧ W.cell? ⟨b, o + i * 6 + 4, none⟩ = some (.int .i64 ce) ∧ W.cell? ⟨b, o + i * 6 + 5, none⟩ = some (.int .i64 cf) ∧ W.cell? ⟨b1 + 1, 0, none⟩ = some (.int .i64 ma) ∧ W.cell? ⟨b1 + 1, 1, none⟩ = some (.int .i64 mb) ∧ W.cell? ⟨b1 + 1, 2, none⟩ = some (.int .i64 mc) ∧ W.cell? ⟨b1 + 1, 3, none⟩ = some (.int .i64 md) ∧ W.cell? ⟨b1 + 1, 4, none⟩ = some (.int .i64 me) ∧ W.cell? ⟨b1 + 1, 5, none⟩ = some (.int .i64 mf) ∧ W.cell? ⟨b1, 0, none⟩ = some (.int .i64 GA) ∧ W.cell? ⟨b1, 1, none⟩ = some (.int .i64 GB) ∧ W.cell? ⟨b1, 2, none⟩ = some (.int .i64 GD)) none
              [(0, true), (1, true), (2, true), (3, true), (5, true), (4, false), (6, false), (7, true), (8, true), (9, true), (10, true), (11, true), (12, true), (13, true), (14, true), (15, true), (16, true), (17, true), (18, true), (19, true), (20, true), (21, true), (22, true), (23, true), (24, true), (25, true), (26, true), (27, true), (28, true), (29, true)] (by kernel_rfl) rfl (by kernel_rfl) (by kernel_rfl) (by repeat (first | with_reducible refine PanicOk.thn ?_ | with_reducible refine PanicOk.blk ?_ | exact PanicOk.body _ _ _)) ?_
            repeat
              (refine txt_quiet ?_ hS rfl rfl (fun W hW => ?_) ?_
               rotate_left 1
               · obtain ⟨hW1, hW2, hW3, hW4, hW5, hW6, hW7, hW8, hW9, hW10, hW11, hW12, hW13, hW14, hW15⟩ := hW
                 go_simp
                 exact rfl
               simp only [Act.put, List.setIfInBounds_toArray, List.set_cons_zero, List.set_cons_succ])
            refine txt_op rfl rfl ?_
            refine op_call 23 #[.agg #[.int .i64 ca, .int .i64 cb, .int .i64 cc, .int .i64 cd, .int .i64 ce, .int .i64 cf]] wd.drew (by go_simp) _ (Hkd.out wd.drew) ?_
            rintro e1 w1 ⟨rfl, k1⟩
            have J1 := hid (k1.1 _ HWd.out.drew)
            have L1 := hid ((HEd.out.trans (Ext.drew _)).trans k1.2)
            refine ⟨_, rfl, fun _ => KA.out w1 J1.out, ?_⟩
            clear hS k1
            simp only [Act.put, List.setIfInBounds_toArray, List.set_cons_zero, List.set_cons_succ]
            have hS := KA.out w1 J1.out
            refine txt_op rfl rfl ?_
            refine op_call 23 #[.agg #[.int .i64 ma, .int .i64 mb, .int .i64 mc, .int .i64 md, .int .i64 me, .int .i64 mf]] w1 (by go_simp) _ (Hke.out w1) ?_
            rintro e2 w2 ⟨rfl, k1⟩
            have J2 := hid (k1.1 _ J1.out)
            have L2 := hid (L1.out.trans k1.2)
            refine ⟨_, rfl, fun _ => KA.out w2 J2.out, ?_⟩
            clear hS k1
            simp only [Act.put, List.setIfInBounds_toArray, List.set_cons_zero, List.set_cons_succ]
            have hS := KA.out w2 J2.out
            repeat
              (refine txt_quiet ?_ hS rfl rfl (fun W hW => ?_) ?_
               rotate_left 1
               · obtain ⟨hW1, hW2, hW3, hW4, hW5, hW6, hW7, hW8, hW9, hW10, hW11, hW12, hW13, hW14, hW15⟩ := hW
                 go_simp
                 exact rfl
               simp only [Act.put, List.setIfInBounds_toArray, List.set_cons_zero, List.set_cons_succ])
            refine txt_done ?_
            go_wp2
            go_ret
            exact ⟨rfl, fun N hN => (HF.out _ J2.out).2 N hN, L2.out⟩
    · have hie : i = N := by omega
      have hc := Hin.out
      rw [show l = l.take i by rw [hie, HN.out, List.take_length], Hno.out] at hc
      cases hc
end Go.Proofs.YteibbnmlmbhkpaaDoor

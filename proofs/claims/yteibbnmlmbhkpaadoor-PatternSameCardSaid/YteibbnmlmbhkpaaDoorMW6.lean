/-
  The walk of the reference's Apply. The walks of Smallest's closures. The walks of Smallest.
-/
import Derived.Test.YteibbnmlmbhkpaaDoorMW3
import Derived.Lib.SlBytesRow
import Derived.Test.YteibbnmlmbhkpaaDoorRW5
namespace Go.Proofs.YteibbnmlmbhkpaaDoor
open Go.RowKit
set_option linter.unusedVariables false
set_option linter.unusedSimpArgs false
set_option maxHeartbeats 8000000
set_option maxRecDepth 100000

/-- Bytes owned. -/
def ByR : UInt8 → List Value → MS → Prop := fun b cs ms => cs = [.int .u8 (b.toNat : Int)] ∧ ms = 0
theorem ByR.one : ∀ a cs m, ByR a cs m → ∀ u ∈ cs, u.oneCell' = true := fun a cs m h u hu => by
  rw [h.1] at hu; simp at hu; rw [hu]; rfl
theorem ByR.len : ∀ a cs m, ByR a cs m → cs.length = 1 := fun a cs m h => by rw [h.1]; rfl
def RT.by8 : RT UInt8 := ⟨1, fun _ b cs => cs = [.int .u8 (b.toNat : Int)], fun _ _ _ h => by rw [h]; rfl, fun _ _ _ _ h => h⟩
theorem row58 : RowTy Tryd.prog 58 5 (.int .u8 0) 1 1 := ⟨Tryd.underlying58, by kernel_rfl, rfl⟩
theorem und9 : Tryd.prog.underlying 9 = some .string := Tryd.underlying9
/-- The bytes of a slice, as a string. -/
theorem conv_by {F : MS} {l : List UInt8} {A : Option Addr} {c : Nat} {w : World} (h : RdS F RT.by8 l (.slice A l.length c)) (h1 : 1 ≤ l.length) (hH : Has w F) :
    (convert 58 9 (.slice A l.length c)).run Tryd.prog w = .ok (.string ⟨l.toArray⟩) w := by
  obtain ⟨x, hx⟩ : ∃ x, l[0]? = some x := ⟨_, List.getElem?_eq_getElem (by omega)⟩
  obtain ⟨b, o, cs, hA, hcs, hc⟩ := h.get hx (show 0 < RT.by8.sz by decide)
  subst hA
  have hsz : (⟨l.toArray⟩ : ByteArray).size = l.length := by simp [ByteArray.size]
  have := Go.Lib.run_convert_whole (P := Tryd.prog) w 58 5 9 Tryd.underlying58 Tryd.underlying5 Tryd.underlying9 b o ⟨l.toArray⟩ (fun i hi => by
    have hi' : i < l.length := by rw [← hsz]; exact hi
    obtain ⟨b2, o2, cs2, hA2, hcs2, hc2⟩ := h.get (List.getElem?_eq_getElem hi') (show 0 < RT.by8.sz by decide)
    injection hA2 with hA2
    injection hA2 with hb ho _
    subst hb; subst ho
    obtain rfl : cs2 = [.int .u8 (l[i].toNat : Int)] := hcs2
    have h3 := (hc2 0 _ rfl).c0 hH
    have h4 : o + i * RT.by8.sz + 0 = o + i := by show o + i * 1 + 0 = o + i; omega
    rw [h4] at h3
    rw [h3]
    congr 3) c
  rw [hsz] at this
  exact this
theorem refApply_any {F : MS} {p : List ByteArray} {A : Option Addr} {c : Nat} {w : World} (h : Giv F p A c) (hH : Has w F) (m : Mv) :
    Calls Tryd.prog 27 #[.slice A p.length c, m.v] w (ApRes p m w) := by
  have Hkind := hid (fun (W : World) => refKindOf_any m W)
  obtain ⟨kk, hkk⟩ : ∃ kk, kk = kindOf m := ⟨_, rfl⟩
  rw [← hkk] at Hkind
  have Hno := hid (show (isPat p = false ∨ kk < 0 ∨ m.e < -1000 ∨ 1000 < m.e ∨ m.f < -1000 ∨ 1000 < m.f) → apOk p m = false from fun h => by
    unfold apOk
    rcases h with h | h
    · rw [h]; rfl
    · rw [decide_eq_false (by rw [← hkk]; omega), Bool.and_false])
  have Hyes := hid (show isPat p = true → 0 ≤ kk → (-1000 ≤ m.e ∧ m.e ≤ 1000) → (-1000 ≤ m.f ∧ m.f ≤ 1000) → apOk p m = true from fun h1 h2 h3 h4 => by
    unfold apOk; rw [h1, decide_eq_true ⟨by rw [← hkk]; exact h2, h3, h4⟩]; rfl)
  have Hsm := hid (show 0 ≤ kk → SmallM m from fun h => kindOf_small (by rw [← hkk]; exact h))
  obtain ⟨a, b, cc, d, e, f⟩ := m
  simp only at Hno Hyes
  obtain ⟨bm, hbm⟩ : ∃ bm, bm = w.heap.size := ⟨_, rfl⟩
  obtain ⟨W1, hW1⟩ : ∃ W1, W1 = w.alloc (.cells #[.int .i64 a, .int .i64 b, .int .i64 cc, .int .i64 d, .int .i64 e, .int .i64 f] 41) := ⟨_, rfl⟩
  have HA := hid (show Has W1 (blk bm #[.int .i64 a, .int .i64 b, .int .i64 cc, .int .i64 d, .int .i64 e, .int .i64 f] 41 + MS.all w) by rw [hW1, hbm]; exact (Has.all w).alloc _)
  have HE := hid (show Ext w W1 by rw [hW1]; exact Ext.alloc w _)
  have HKp := hid (show ∀ W X, Has W (X + MS.all w) → Ext w W → Kp w W from fun W X h hE => ⟨fun M hM => hM.of_all h, hE⟩)
  have Hof := hid (pattern_any h.rd h.l h.s (hH.of_all HA.out))
  have HFW := hid (show ∀ W X, Has W (X + MS.all w) → Has W F from fun W X hW => hH.of_all hW)
  have Hrd := hid h.rd
  have Hcells := hid (show ∀ W, Has W (blk bm #[.int .i64 a, .int .i64 b, .int .i64 cc, .int .i64 d, .int .i64 e, .int .i64 f] 41 + MS.all w) → (W.cell? ⟨bm, 0, none⟩ = some (.int .i64 a) ∧ W.cell? ⟨bm, 1, none⟩ = some (.int .i64 b) ∧ W.cell? ⟨bm, 2, none⟩ = some (.int .i64 cc) ∧ W.cell? ⟨bm, 3, none⟩ = some (.int .i64 d) ∧ W.cell? ⟨bm, 4, none⟩ = some (.int .i64 e) ∧ W.cell? ⟨bm, 5, none⟩ = some (.int .i64 f)) from fun W h => ⟨h.at_ rfl, h.at_ rfl, h.at_ rfl, h.at_ rfl, h.at_ rfl, h.at_ rfl⟩)
  show Calls Tryd.prog 27 #[.slice A p.length c, .agg #[.int .i64 a, .int .i64 b, .int .i64 cc, .int .i64 d, .int .i64 e, .int .i64 f]] w _
  clear h hH hkk
  cases hp : isPat p with
  | false =>
    have hq := hid (Hno.out (.inl hp))
    rw [hp] at Hof
    clear hp
    go_enter Tryd.func27, Tryd.ntmps27
    go_wp2_with (go_at_call 20; rw [← hW1]; clear hW1 hbm; refine Hof.out.mono ?_; rintro e1 w1 ⟨rfl, q1, rfl⟩; have K1 := hid (HA.out.drewN q1); have E1 := hid (HE.out.trans (Ext.drewN _ q1)))
    go_ret2
    exact ApRes.no hq.out (HKp.out _ _ K1.out E1.out)
  | true =>
    have Hp := hid (isPat.ok hp).1
    have Hpt := hid hp
    rw [hp] at Hof
    clear hp
    by_cases hkn : kk < 0
    · have hq := hid (Hno.out (.inr (.inl hkn)))
      go_enter Tryd.func27, Tryd.ntmps27
      go_wp2_with (first
        | (go_at_call 20; rw [← hW1, ← hbm]; clear hW1 hbm; refine Hof.out.mono ?_; rintro e1 w1 ⟨rfl, q1, rfl⟩; have K1 := hid (HA.out.drewN q1); have E1 := hid (HE.out.trans (Ext.drewN _ q1)); obtain ⟨n0, n1, n2, n3, n4, n5⟩ := Hcells.out _ K1.out)
        | (go_at_call 23; refine (Hkind.out _).mono ?_; rintro e2 w2 ⟨rfl, k2⟩; have K2 := hid (k2.1 _ K1.out); have E2 := hid (E1.out.trans k2.2); clear k2; obtain ⟨p0, p1, p2, p3, p4, p5⟩ := Hcells.out w2 K2.out))
      go_ret2
      exact ApRes.no hq.out (HKp.out _ _ K2.out E2.out)
    by_cases h1 : e < -1000
    · have hq := hid (Hno.out (by omega))
      go_enter Tryd.func27, Tryd.ntmps27
      go_wp2_with (first
        | (go_at_call 20; rw [← hW1, ← hbm]; clear hW1 hbm; refine Hof.out.mono ?_; rintro e1 w1 ⟨rfl, q1, rfl⟩; have K1 := hid (HA.out.drewN q1); have E1 := hid (HE.out.trans (Ext.drewN _ q1)); obtain ⟨n0, n1, n2, n3, n4, n5⟩ := Hcells.out _ K1.out)
        | (go_at_call 23; refine (Hkind.out _).mono ?_; rintro e2 w2 ⟨rfl, k2⟩; have K2 := hid (k2.1 _ K1.out); have E2 := hid (E1.out.trans k2.2); clear k2; obtain ⟨p0, p1, p2, p3, p4, p5⟩ := Hcells.out w2 K2.out))
      go_ret2
      exact ApRes.no hq.out (HKp.out _ _ K2.out E2.out)
    by_cases h2 : 1000 < e
    · have hq := hid (Hno.out (by omega))
      go_enter Tryd.func27, Tryd.ntmps27
      go_wp2_with (first
        | (go_at_call 20; rw [← hW1, ← hbm]; clear hW1 hbm; refine Hof.out.mono ?_; rintro e1 w1 ⟨rfl, q1, rfl⟩; have K1 := hid (HA.out.drewN q1); have E1 := hid (HE.out.trans (Ext.drewN _ q1)); obtain ⟨n0, n1, n2, n3, n4, n5⟩ := Hcells.out _ K1.out)
        | (go_at_call 23; refine (Hkind.out _).mono ?_; rintro e2 w2 ⟨rfl, k2⟩; have K2 := hid (k2.1 _ K1.out); have E2 := hid (E1.out.trans k2.2); clear k2; obtain ⟨p0, p1, p2, p3, p4, p5⟩ := Hcells.out w2 K2.out))
      go_ret2
      exact ApRes.no hq.out (HKp.out _ _ K2.out E2.out)
    by_cases h3 : f < -1000
    · have hq := hid (Hno.out (by omega))
      go_enter Tryd.func27, Tryd.ntmps27
      go_wp2_with (first
        | (go_at_call 20; rw [← hW1, ← hbm]; clear hW1 hbm; refine Hof.out.mono ?_; rintro e1 w1 ⟨rfl, q1, rfl⟩; have K1 := hid (HA.out.drewN q1); have E1 := hid (HE.out.trans (Ext.drewN _ q1)); obtain ⟨n0, n1, n2, n3, n4, n5⟩ := Hcells.out _ K1.out)
        | (go_at_call 23; refine (Hkind.out _).mono ?_; rintro e2 w2 ⟨rfl, k2⟩; have K2 := hid (k2.1 _ K1.out); have E2 := hid (E1.out.trans k2.2); clear k2; obtain ⟨p0, p1, p2, p3, p4, p5⟩ := Hcells.out w2 K2.out))
      go_ret2
      exact ApRes.no hq.out (HKp.out _ _ K2.out E2.out)
    by_cases h4 : 1000 < f
    · have hq := hid (Hno.out (by omega))
      go_enter Tryd.func27, Tryd.ntmps27
      go_wp2_with (first
        | (go_at_call 20; rw [← hW1, ← hbm]; clear hW1 hbm; refine Hof.out.mono ?_; rintro e1 w1 ⟨rfl, q1, rfl⟩; have K1 := hid (HA.out.drewN q1); have E1 := hid (HE.out.trans (Ext.drewN _ q1)); obtain ⟨n0, n1, n2, n3, n4, n5⟩ := Hcells.out _ K1.out)
        | (go_at_call 23; refine (Hkind.out _).mono ?_; rintro e2 w2 ⟨rfl, k2⟩; have K2 := hid (k2.1 _ K1.out); have E2 := hid (E1.out.trans k2.2); clear k2; obtain ⟨p0, p1, p2, p3, p4, p5⟩ := Hcells.out w2 K2.out))
      go_ret2
      exact ApRes.no hq.out (HKp.out _ _ K2.out E2.out)
    have hq := hid (Hyes.out Hpt.out (by omega) (by omega) (by omega))
    have hoff := hid (show (-1000 ≤ e ∧ e ≤ 1000) ∧ (-1000 ≤ f ∧ f ≤ 1000) by omega)
    have Hsm' := hid (Hsm.out (by omega))
    have Hat := hid (fun (W : World) (hW : Has W F) (u v : Int) => show Calls Tryd.prog 49 #[.slice A p.length c, .int .i64 u, .int .i64 v] W fun e w' => e = .returned (.int .u8 ((col8 p u v).toNat : Int)) ∧ ∃ q, w' = W.drewN q from at_any Hrd.out Hp.out hW u v)
    obtain ⟨wp, hwp⟩ : ∃ wp, wp = apW p ⟨a, b, cc, d, e, f⟩ := ⟨_, rfl⟩
    obtain ⟨hp', hhp⟩ : ∃ hh, hh = apH p ⟨a, b, cc, d, e, f⟩ := ⟨_, rfl⟩
    have Hwp := hid hwp
    have Hhp := hid hhp
    have Hwh := hid (show (1 ≤ wp ∧ wp ≤ 6) ∧ (1 ≤ hp' ∧ hp' ≤ 6) by rw [hwp, hhp]; exact apWH Hp.out _)
    have hl6 : (p.length : Int) ≤ 6 := by have := Hp.out.h6; omega
    have hl1 : (0 : Int) < p.length := by have := Hp.out.h1; omega
    have hl1n : 0 < p.length := Hp.out.h1
    have hnc := Hrd.out.cells.2.1
    clear hwp hhp
    have hcase := Decidable.em (a = 0)
    rcases hcase with ha | ha
    · have hab : (a == 0) = true := by rw [ha]; rfl
      have Hw1 := hid (show p.length = wp by rw [Hwp.out]; unfold apW; rw [if_pos ha])
      have Hh1 := hid (show YteibbnmlmbhkpaaDoor.wd p = hp' by rw [Hhp.out]; unfold apH; rw [if_pos ha])
      clear ha
      go_enter Tryd.func27, Tryd.ntmps27
      go_wp2_with (first
        | (go_at_call 20; rw [← hW1, ← hbm]; clear hW1 hbm; refine Hof.out.mono ?_; rintro e1 w1 ⟨rfl, q1, rfl⟩; have K1 := hid (HA.out.drewN q1); have E1 := hid (HE.out.trans (Ext.drewN _ q1)); obtain ⟨n0, n1, n2, n3, n4, n5⟩ := Hcells.out _ K1.out)
        | (go_at_call 23; refine (Hkind.out _).mono ?_; rintro e2 w2 ⟨rfl, k2⟩; have K2 := hid (k2.1 _ K1.out); have E2 := hid (E1.out.trans k2.2); clear k2; obtain ⟨p0, p1, p2, p3, p4, p5⟩ := Hcells.out w2 K2.out; obtain ⟨b0, o0, s0, hA0, f0, hs0⟩ := Hrd.out.row0 Hp.out (HFW.out _ _ K2.out); subst hA0; have hs6 : (s0.size : Int) ≤ 6 := by have := Hp.out.w6; omega))
      rw [Hw1.out, Hh1.out]
      rw [Hw1.out] at Hat
      clear n0 n1 n2 n3 n4 n5 p0 p1 p2 p3 p4 p5 f0 hs6 K1 E1 hs0
      have K3 := hid (HKp.out _ _ K2.out E2.out)
      have HG := hid (Has.all w2)
      have HGB := hid (show ∀ W X, Has W (X + MS.all w2) → (W.cell? ⟨bm, 0, none⟩ = some (.int .i64 a) ∧ W.cell? ⟨bm, 1, none⟩ = some (.int .i64 b) ∧ W.cell? ⟨bm, 2, none⟩ = some (.int .i64 cc) ∧ W.cell? ⟨bm, 3, none⟩ = some (.int .i64 d) ∧ W.cell? ⟨bm, 4, none⟩ = some (.int .i64 e) ∧ W.cell? ⟨bm, 5, none⟩ = some (.int .i64 f)) from fun W X hW => Hcells.out W (K2.out.of_all hW))
      have HGF := hid (show ∀ W Y, Has W (Y + MS.all w2) → Has W F from fun W Y hW => (HFW.out _ _ K2.out).of_all hW)
      have HGK := hid (show ∀ W Y, Has W (Y + MS.all w2) → Ext w2 W → Kp w W from fun W Y hW hE => K3.out.trans ⟨fun M hM => hM.of_all hW, hE⟩)
      have EG := hid (Ext.refl w2)
      generalize MS.all w2 = G at *
      have hhI : (hp' : Int) ≤ 6 := by have := Hwh.out; omega
      have hwI : (wp : Int) ≤ 6 := by have := Hwh.out; omega
      clear K2 E2 K3
      go_loopw [9, 10] (fun vo v wr => ∃ y : Nat, ∃ B dd ms, y ≤ hp' ∧ v = .int .i64 y ∧ vo = .slice B y dd ∧ SlR 9 1 StrR (apL p ⟨a, b, cc, d, e, f⟩ y) (.slice B y dd) ms ∧ Has wr (ms + G) ∧ Ext w2 wr) (fun _ v _ => hp' - (intOf v).toNat)
      case atStart => exact ⟨0, none, 0, 0, Nat.zero_le _, rfl, rfl, ⟨[], 0, 0, Sl.nil _ _, RowsR.nil, by rw [MS.zero_add]⟩, HG.out.eq (by rw [MS.zero_add]), EG.out⟩
      case round =>
        obtain ⟨y, B, dd, ms, hy, rfl, rfl, hS, hW, hE⟩ := hrel
        have HS := hid hS
        have HW := hid hW
        have HE' := hid hE
        clear hS hW hE HG EG
        by_cases hlt : y < hp'
        · have hltI : (y : Int) < hp' := by omega
          have Hlt := hid hlt
          clear hlt hy
          go_wp2
          go_loopw [11, 12] (fun vr v wq => ∃ x : Nat, ∃ B2 d2 m2, x ≤ wp ∧ v = .int .i64 x ∧ vr = .slice B2 x d2 ∧ SlR 5 1 ByR (apRow p ⟨a, b, cc, d, e, f⟩ y x) (.slice B2 x d2) m2 ∧ Has wq (m2 + (ms + G)) ∧ Ext w2 wq) (fun _ v _ => wp - (intOf v).toNat)
          case atStart => exact ⟨0, none, 0, 0, Nat.zero_le _, rfl, rfl, ⟨[], 0, 0, Sl.nil _ _, RowsR.nil, by rw [MS.zero_add]⟩, HW.out.eq (by rw [MS.zero_add]), HE'.out⟩
          case round =>
            obtain ⟨x, B2, d2, m2, hx, rfl, rfl, hS2, hW2, hE2⟩ := hrel
            have HS2 := hid hS2
            have HW2 := hid hW2
            have HE2 := hid hE2
            have HWq := hid (show Has wr ((m2 + ms) + G) from hW2.eq (by ac_rfl))
            clear hS2 hW2 hE2
            by_cases hlx : x < wp
            · have hlxI : (x : Int) < wp := by omega
              have Hlx := hid hlx
              obtain ⟨n0, n1, n2, n3, n4, n5⟩ := HGB.out wr _ HWq.out
              have hy6 : (y : Int) ≤ 6 := by have := Hlt.out; omega
              have hx6 : (x : Int) ≤ 6 := by omega
              obtain ⟨u, hu⟩ : ∃ u, u = unX ⟨a, b, cc, d, e, f⟩ x y := ⟨_, rfl⟩
              obtain ⟨v, hv⟩ : ∃ v, v = unY ⟨a, b, cc, d, e, f⟩ x y := ⟨_, rfl⟩
              obtain ⟨⟨ea, eb⟩, ec, ed⟩ := hoff.out
              obtain ⟨sa, sb, sc, sd⟩ := Hsm'.out
              simp only at sa sb sc sd
              obtain ⟨xe, hxe⟩ : ∃ xe : Int, xe = x - e := ⟨_, rfl⟩
              obtain ⟨yf, hyf⟩ : ∃ yf : Int, yf = y - f := ⟨_, rfl⟩
              have r1 : -1006 ≤ xe ∧ xe ≤ 1006 := by omega
              have r2 : -1006 ≤ yf ∧ yf ≤ 1006 := by omega
              have m3 : ∀ z t : Int, -1 ≤ z ∧ z ≤ 1 → -1006 ≤ t ∧ t ≤ 1006 → -1006 ≤ z * t ∧ z * t ≤ 1006 := fun z t hz ht => by
                have : z = -1 ∨ z = 0 ∨ z = 1 := by omega
                rcases this with rfl | rfl | rfl <;> omega
              have q1 := m3 a xe sa r1
              have q2 := m3 cc yf sc r2
              have q3 := m3 b xe sb r1
              have q4 := m3 d yf sd r2
              have hu2 : u = a * xe + cc * yf := by rw [hu, hxe, hyf]; rfl
              have hv2 : v = b * xe + d * yf := by rw [hv, hxe, hyf]; rfl
              have z1 : IntKind.i64.wrap ((x : Int) - e) = xe := by rw [hxe, IntKind.wrap_i64]; omega
              have z2 : IntKind.i64.wrap ((y : Int) - f) = yf := by rw [hyf, IntKind.wrap_i64]; omega
              have z3 : wrap64 ((x : Int) - e) = xe := by rw [hxe]; unfold wrap64; omega
              have z4 : wrap64 ((y : Int) - f) = yf := by rw [hyf]; unfold wrap64; omega
              have y1 : IntKind.i64.wrap (a * xe) = a * xe := by rw [IntKind.wrap_i64]; omega
              have y2 : IntKind.i64.wrap (cc * yf) = cc * yf := by rw [IntKind.wrap_i64]; omega
              have y3 : IntKind.i64.wrap (b * xe) = b * xe := by rw [IntKind.wrap_i64]; omega
              have y4 : IntKind.i64.wrap (d * yf) = d * yf := by rw [IntKind.wrap_i64]; omega
              have y5 : IntKind.i64.wrap (a * xe + cc * yf) = u := by rw [hu2, IntKind.wrap_i64]; omega
              have y6 : IntKind.i64.wrap (b * xe + d * yf) = v := by rw [hv2, IntKind.wrap_i64]; omega
              have Hau := hid (fun (W : World) (hW : Has W F) => Hat.out W hW u v)
              obtain ⟨c8, hc8⟩ : ∃ c8, c8 = col8 p u v := ⟨_, rfl⟩
              rw [← hc8] at Hau
              have Hr2 := hid (show apRow p ⟨a, b, cc, d, e, f⟩ y (x + 1) = apRow p ⟨a, b, cc, d, e, f⟩ y x ++ [c8] by rw [apRow_succ, hc8, hu, hv])
              clear hu hv hu2 hv2 hxe hyf r1 r2 m3 q1 q2 q3 q4 sa sb sc sd ea eb ec ed hc8 hlx hx
              go_wp2
              go_quiet (fail)
              go_simp
              generalize hwd : wr.drewN _ = wd
              have HWd := hid (show Has wd (m2 + (ms + G)) by rw [← hwd]; exact HW2.out.drewN _)
              have HEd := hid (show Ext w2 wd by rw [← hwd]; exact HE2.out.trans (Ext.drewN _ _))
              clear hwd n0 n1 n2 n3 n4 n5
              have HWe := hid (show Has wd ((m2 + ms) + G) from HWd.out.eq (by ac_rfl))
              obtain ⟨n0, n1, n2, n3, n4, n5⟩ := HGB.out wd _ HWe.out
              go_wp2_with (first
                | (go_at_call 49; refine (Hau.out _ (HGF.out _ _ HWe.out)).mono ?_; rintro e7 w7 ⟨rfl, q7, rfl⟩)
                | (at_builtin; refine wpList_push rfl (.tmp 73) (.tmp 94) row58 rfl (.slice B2 x d2) rfl _ rfl rfl ByR ByR.one ByR.len (apRow p ⟨a, b, cc, d, e, f⟩ y x) c8 m2 0 (ms + G) HS2.out ⟨rfl, rfl⟩ ((HWd.out.drewN _).eq (by rw [MS.zero_add])) x (apRow_len _ _ _ _) (by have := Hlx.out; have := Hwh.out; omega) (by omega) ?_; intro A9 c9 w9 m9 j4 j5 j6; have J4 := hid j4; have J5 := hid j5; have J6 := hid ((HEd.out.trans (Ext.drewN _ _)).trans j6); clear j4 j5 j6))
              go_roundw
              case rel => exact ⟨x + 1, A9, c9, m9, Hlx.out, by go_num, rfl, by rw [Hr2.out]; exact J4.out, J5.out, J6.out⟩
              case measure => have := Hlx.out; simp [intOf]; omega
            · have hxe : x = wp := by omega
              subst hxe
              clear hlx hx
              have hrow := apRow_len p ⟨a, b, cc, d, e, f⟩ y x
              have hby : RdS (m2 + (ms + G)) RT.by8 (apRow p ⟨a, b, cc, d, e, f⟩ y x) (.slice B2 (apRow p ⟨a, b, cc, d, e, f⟩ y x).length d2) := by
                rw [hrow]
                exact (SlR.rd (R := ByR) (T := RT.by8) (fun a cs m h => h.1) HS2.out).less _
              have hconv := conv_by hby (by rw [hrow]; have := Hwh.out; omega) HW2.out
              rw [hrow, show (⟨(apRow p ⟨a, b, cc, d, e, f⟩ y x).toArray⟩ : ByteArray) = apS p ⟨a, b, cc, d, e, f⟩ y by unfold apS; rw [Hwp.out]] at hconv
              have Hl2 := hid (apL_succ p ⟨a, b, cc, d, e, f⟩ y)
              have HyI := hid (show y ≤ 6 by have := Hlt.out; have := Hwh.out; omega)
              clear hby hrow
              go_wp2_with (at_builtin; refine wpList_push rfl (.tmp 96) (.tmp 99) row22 rfl (.slice B y dd) rfl _ rfl rfl StrR StrR.one StrR.len (apL p ⟨a, b, cc, d, e, f⟩ y) (apS p ⟨a, b, cc, d, e, f⟩ y) ms 0 (m2 + G) HS.out ⟨rfl, rfl⟩ (HW2.out.eq (by rw [MS.zero_add]; ac_rfl)) y (apL_len _ _ _) (by have := HyI.out; omega) (by omega) ?_; intro A9 c9 w9 m9 j4 j5 j6; have J4 := hid j4; have J5 := hid j5; have J6 := hid (HE2.out.trans j6); clear j4 j5 j6)
              go_roundw
              case rel => exact ⟨y + 1, A9, c9, m9, Hlt.out, by go_num, rfl, by rw [Hl2.out]; exact J4.out, (J5.out.eq (b := m2 + (m9 + G)) (by ac_rfl)).right, J6.out⟩
              case measure => have := Hlt.out; simp [intOf]; omega
        · have hye : y = hp' := by omega
          subst hye
          clear hlt hy
          go_wp2
          go_ret2
          have hl : (apL p ⟨a, b, cc, d, e, f⟩ y).length = y := apL_len _ _ _
          refine ⟨B, dd, apL p ⟨a, b, cc, d, e, f⟩ y, 0, ms + G, by rw [hl]; rfl, HGK.out _ _ HW.out HE'.out, HW.out, ?_, fun _ => ⟨by rw [← Hhp.out], rfl⟩, fun h => by rw [hq.out] at h; cases h⟩
          rw [hl]
          exact (SlR.rd (R := StrR) (T := RT.str) (fun a cs m h => h.1) HS.out).less _
    · have hab : (a == 0) = false := by rw [beq_eq_false_iff_ne]; exact ha
      have Hw1 := hid (show YteibbnmlmbhkpaaDoor.wd p = wp by rw [Hwp.out]; unfold apW; rw [if_neg ha])
      have Hh1 := hid (show p.length = hp' by rw [Hhp.out]; unfold apH; rw [if_neg ha])
      clear ha
      go_enter Tryd.func27, Tryd.ntmps27
      go_wp2_with (first
        | (go_at_call 20; rw [← hW1, ← hbm]; clear hW1 hbm; refine Hof.out.mono ?_; rintro e1 w1 ⟨rfl, q1, rfl⟩; have K1 := hid (HA.out.drewN q1); have E1 := hid (HE.out.trans (Ext.drewN _ q1)); obtain ⟨n0, n1, n2, n3, n4, n5⟩ := Hcells.out _ K1.out)
        | (go_at_call 23; refine (Hkind.out _).mono ?_; rintro e2 w2 ⟨rfl, k2⟩; have K2 := hid (k2.1 _ K1.out); have E2 := hid (E1.out.trans k2.2); clear k2; obtain ⟨p0, p1, p2, p3, p4, p5⟩ := Hcells.out w2 K2.out; obtain ⟨b0, o0, s0, hA0, f0, hs0⟩ := Hrd.out.row0 Hp.out (HFW.out _ _ K2.out); subst hA0; have hs6 : (s0.size : Int) ≤ 6 := by have := Hp.out.w6; omega))
      rw [Hw1.out, Hh1.out]
      rw [Hh1.out] at Hat
      clear n0 n1 n2 n3 n4 n5 p0 p1 p2 p3 p4 p5 f0 hs6 K1 E1 hs0
      have K3 := hid (HKp.out _ _ K2.out E2.out)
      have HG := hid (Has.all w2)
      have HGB := hid (show ∀ W X, Has W (X + MS.all w2) → (W.cell? ⟨bm, 0, none⟩ = some (.int .i64 a) ∧ W.cell? ⟨bm, 1, none⟩ = some (.int .i64 b) ∧ W.cell? ⟨bm, 2, none⟩ = some (.int .i64 cc) ∧ W.cell? ⟨bm, 3, none⟩ = some (.int .i64 d) ∧ W.cell? ⟨bm, 4, none⟩ = some (.int .i64 e) ∧ W.cell? ⟨bm, 5, none⟩ = some (.int .i64 f)) from fun W X hW => Hcells.out W (K2.out.of_all hW))
      have HGF := hid (show ∀ W Y, Has W (Y + MS.all w2) → Has W F from fun W Y hW => (HFW.out _ _ K2.out).of_all hW)
      have HGK := hid (show ∀ W Y, Has W (Y + MS.all w2) → Ext w2 W → Kp w W from fun W Y hW hE => K3.out.trans ⟨fun M hM => hM.of_all hW, hE⟩)
      have EG := hid (Ext.refl w2)
      generalize MS.all w2 = G at *
      have hhI : (hp' : Int) ≤ 6 := by have := Hwh.out; omega
      have hwI : (wp : Int) ≤ 6 := by have := Hwh.out; omega
      clear K2 E2 K3
      go_loopw [9, 10] (fun vo v wr => ∃ y : Nat, ∃ B dd ms, y ≤ hp' ∧ v = .int .i64 y ∧ vo = .slice B y dd ∧ SlR 9 1 StrR (apL p ⟨a, b, cc, d, e, f⟩ y) (.slice B y dd) ms ∧ Has wr (ms + G) ∧ Ext w2 wr) (fun _ v _ => hp' - (intOf v).toNat)
      case atStart => exact ⟨0, none, 0, 0, Nat.zero_le _, rfl, rfl, ⟨[], 0, 0, Sl.nil _ _, RowsR.nil, by rw [MS.zero_add]⟩, HG.out.eq (by rw [MS.zero_add]), EG.out⟩
      case round =>
        obtain ⟨y, B, dd, ms, hy, rfl, rfl, hS, hW, hE⟩ := hrel
        have HS := hid hS
        have HW := hid hW
        have HE' := hid hE
        clear hS hW hE HG EG
        by_cases hlt : y < hp'
        · have hltI : (y : Int) < hp' := by omega
          have Hlt := hid hlt
          clear hlt hy
          go_wp2
          go_loopw [11, 12] (fun vr v wq => ∃ x : Nat, ∃ B2 d2 m2, x ≤ wp ∧ v = .int .i64 x ∧ vr = .slice B2 x d2 ∧ SlR 5 1 ByR (apRow p ⟨a, b, cc, d, e, f⟩ y x) (.slice B2 x d2) m2 ∧ Has wq (m2 + (ms + G)) ∧ Ext w2 wq) (fun _ v _ => wp - (intOf v).toNat)
          case atStart => exact ⟨0, none, 0, 0, Nat.zero_le _, rfl, rfl, ⟨[], 0, 0, Sl.nil _ _, RowsR.nil, by rw [MS.zero_add]⟩, HW.out.eq (by rw [MS.zero_add]), HE'.out⟩
          case round =>
            obtain ⟨x, B2, d2, m2, hx, rfl, rfl, hS2, hW2, hE2⟩ := hrel
            have HS2 := hid hS2
            have HW2 := hid hW2
            have HE2 := hid hE2
            have HWq := hid (show Has wr ((m2 + ms) + G) from hW2.eq (by ac_rfl))
            clear hS2 hW2 hE2
            by_cases hlx : x < wp
            · have hlxI : (x : Int) < wp := by omega
              have Hlx := hid hlx
              obtain ⟨n0, n1, n2, n3, n4, n5⟩ := HGB.out wr _ HWq.out
              have hy6 : (y : Int) ≤ 6 := by have := Hlt.out; omega
              have hx6 : (x : Int) ≤ 6 := by omega
              obtain ⟨u, hu⟩ : ∃ u, u = unX ⟨a, b, cc, d, e, f⟩ x y := ⟨_, rfl⟩
              obtain ⟨v, hv⟩ : ∃ v, v = unY ⟨a, b, cc, d, e, f⟩ x y := ⟨_, rfl⟩
              obtain ⟨⟨ea, eb⟩, ec, ed⟩ := hoff.out
              obtain ⟨sa, sb, sc, sd⟩ := Hsm'.out
              simp only at sa sb sc sd
              obtain ⟨xe, hxe⟩ : ∃ xe : Int, xe = x - e := ⟨_, rfl⟩
              obtain ⟨yf, hyf⟩ : ∃ yf : Int, yf = y - f := ⟨_, rfl⟩
              have r1 : -1006 ≤ xe ∧ xe ≤ 1006 := by omega
              have r2 : -1006 ≤ yf ∧ yf ≤ 1006 := by omega
              have m3 : ∀ z t : Int, -1 ≤ z ∧ z ≤ 1 → -1006 ≤ t ∧ t ≤ 1006 → -1006 ≤ z * t ∧ z * t ≤ 1006 := fun z t hz ht => by
                have : z = -1 ∨ z = 0 ∨ z = 1 := by omega
                rcases this with rfl | rfl | rfl <;> omega
              have q1 := m3 a xe sa r1
              have q2 := m3 cc yf sc r2
              have q3 := m3 b xe sb r1
              have q4 := m3 d yf sd r2
              have hu2 : u = a * xe + cc * yf := by rw [hu, hxe, hyf]; rfl
              have hv2 : v = b * xe + d * yf := by rw [hv, hxe, hyf]; rfl
              have z1 : IntKind.i64.wrap ((x : Int) - e) = xe := by rw [hxe, IntKind.wrap_i64]; omega
              have z2 : IntKind.i64.wrap ((y : Int) - f) = yf := by rw [hyf, IntKind.wrap_i64]; omega
              have z3 : wrap64 ((x : Int) - e) = xe := by rw [hxe]; unfold wrap64; omega
              have z4 : wrap64 ((y : Int) - f) = yf := by rw [hyf]; unfold wrap64; omega
              have y1 : IntKind.i64.wrap (a * xe) = a * xe := by rw [IntKind.wrap_i64]; omega
              have y2 : IntKind.i64.wrap (cc * yf) = cc * yf := by rw [IntKind.wrap_i64]; omega
              have y3 : IntKind.i64.wrap (b * xe) = b * xe := by rw [IntKind.wrap_i64]; omega
              have y4 : IntKind.i64.wrap (d * yf) = d * yf := by rw [IntKind.wrap_i64]; omega
              have y5 : IntKind.i64.wrap (a * xe + cc * yf) = u := by rw [hu2, IntKind.wrap_i64]; omega
              have y6 : IntKind.i64.wrap (b * xe + d * yf) = v := by rw [hv2, IntKind.wrap_i64]; omega
              have Hau := hid (fun (W : World) (hW : Has W F) => Hat.out W hW u v)
              obtain ⟨c8, hc8⟩ : ∃ c8, c8 = col8 p u v := ⟨_, rfl⟩
              rw [← hc8] at Hau
              have Hr2 := hid (show apRow p ⟨a, b, cc, d, e, f⟩ y (x + 1) = apRow p ⟨a, b, cc, d, e, f⟩ y x ++ [c8] by rw [apRow_succ, hc8, hu, hv])
              clear hu hv hu2 hv2 hxe hyf r1 r2 m3 q1 q2 q3 q4 sa sb sc sd ea eb ec ed hc8 hlx hx
              go_wp2
              go_quiet (fail)
              go_simp
              generalize hwd : wr.drewN _ = wd
              have HWd := hid (show Has wd (m2 + (ms + G)) by rw [← hwd]; exact HW2.out.drewN _)
              have HEd := hid (show Ext w2 wd by rw [← hwd]; exact HE2.out.trans (Ext.drewN _ _))
              clear hwd n0 n1 n2 n3 n4 n5
              have HWe := hid (show Has wd ((m2 + ms) + G) from HWd.out.eq (by ac_rfl))
              obtain ⟨n0, n1, n2, n3, n4, n5⟩ := HGB.out wd _ HWe.out
              go_wp2_with (first
                | (go_at_call 49; refine (Hau.out _ (HGF.out _ _ HWe.out)).mono ?_; rintro e7 w7 ⟨rfl, q7, rfl⟩)
                | (at_builtin; refine wpList_push rfl (.tmp 73) (.tmp 94) row58 rfl (.slice B2 x d2) rfl _ rfl rfl ByR ByR.one ByR.len (apRow p ⟨a, b, cc, d, e, f⟩ y x) c8 m2 0 (ms + G) HS2.out ⟨rfl, rfl⟩ ((HWd.out.drewN _).eq (by rw [MS.zero_add])) x (apRow_len _ _ _ _) (by have := Hlx.out; have := Hwh.out; omega) (by omega) ?_; intro A9 c9 w9 m9 j4 j5 j6; have J4 := hid j4; have J5 := hid j5; have J6 := hid ((HEd.out.trans (Ext.drewN _ _)).trans j6); clear j4 j5 j6))
              go_roundw
              case rel => exact ⟨x + 1, A9, c9, m9, Hlx.out, by go_num, rfl, by rw [Hr2.out]; exact J4.out, J5.out, J6.out⟩
              case measure => have := Hlx.out; simp [intOf]; omega
            · have hxe : x = wp := by omega
              subst hxe
              clear hlx hx
              have hrow := apRow_len p ⟨a, b, cc, d, e, f⟩ y x
              have hby : RdS (m2 + (ms + G)) RT.by8 (apRow p ⟨a, b, cc, d, e, f⟩ y x) (.slice B2 (apRow p ⟨a, b, cc, d, e, f⟩ y x).length d2) := by
                rw [hrow]
                exact (SlR.rd (R := ByR) (T := RT.by8) (fun a cs m h => h.1) HS2.out).less _
              have hconv := conv_by hby (by rw [hrow]; have := Hwh.out; omega) HW2.out
              rw [hrow, show (⟨(apRow p ⟨a, b, cc, d, e, f⟩ y x).toArray⟩ : ByteArray) = apS p ⟨a, b, cc, d, e, f⟩ y by unfold apS; rw [Hwp.out]] at hconv
              have Hl2 := hid (apL_succ p ⟨a, b, cc, d, e, f⟩ y)
              have HyI := hid (show y ≤ 6 by have := Hlt.out; have := Hwh.out; omega)
              clear hby hrow
              go_wp2_with (at_builtin; refine wpList_push rfl (.tmp 96) (.tmp 99) row22 rfl (.slice B y dd) rfl _ rfl rfl StrR StrR.one StrR.len (apL p ⟨a, b, cc, d, e, f⟩ y) (apS p ⟨a, b, cc, d, e, f⟩ y) ms 0 (m2 + G) HS.out ⟨rfl, rfl⟩ (HW2.out.eq (by rw [MS.zero_add]; ac_rfl)) y (apL_len _ _ _) (by have := HyI.out; omega) (by omega) ?_; intro A9 c9 w9 m9 j4 j5 j6; have J4 := hid j4; have J5 := hid j5; have J6 := hid (HE2.out.trans j6); clear j4 j5 j6)
              go_roundw
              case rel => exact ⟨y + 1, A9, c9, m9, Hlt.out, by go_num, rfl, by rw [Hl2.out]; exact J4.out, (J5.out.eq (b := m2 + (m9 + G)) (by ac_rfl)).right, J6.out⟩
              case measure => have := Hlt.out; simp [intOf]; omega
        · have hye : y = hp' := by omega
          subst hye
          clear hlt hy
          go_wp2
          go_ret2
          have hl : (apL p ⟨a, b, cc, d, e, f⟩ y).length = y := apL_len _ _ _
          refine ⟨B, dd, apL p ⟨a, b, cc, d, e, f⟩ y, 0, ms + G, by rw [hl]; rfl, HGK.out _ _ HW.out HE'.out, HW.out, ?_, fun _ => ⟨by rw [← Hhp.out], rfl⟩, fun h => by rw [hq.out] at h; cases h⟩
          rw [hl]
          exact (SlR.rd (R := StrR) (T := RT.str) (fun a cs m h => h.1) HS.out).less _
end Go.Proofs.YteibbnmlmbhkpaaDoor

namespace Go.Proofs.YteibbnmlmbhkpaaDoor
open Go.RowKit
set_option linter.unusedVariables false
set_option linter.unusedSimpArgs false
set_option maxHeartbeats 2000000
set_option maxRecDepth 100000

theorem shiftX_any (n : Int) (w : World) : Calls Tryd.prog 52 #[.int .i64 n] w fun e w' => e = .returned (.agg #[.int .i64 1, .int .i64 0, .int .i64 0, .int .i64 1, .int .i64 n, .int .i64 0]) ∧ Kp w w' := by
  have HA := hid (show Has (w.alloc (.cells #[.int .i64 0, .int .i64 0, .int .i64 0, .int .i64 0, .int .i64 0, .int .i64 0] 41)) (blk w.heap.size #[.int .i64 0, .int .i64 0, .int .i64 0, .int .i64 0, .int .i64 0, .int .i64 0] 41 + MS.all w) from (Has.all w).alloc _)
  have HE := hid (Ext.alloc w (.cells #[.int .i64 0, .int .i64 0, .int .i64 0, .int .i64 0, .int .i64 0, .int .i64 0] 41))
  go_enter Tryd.func52, Tryd.ntmps52
  go_wp2_with (refine wpList_store_whole rfl (.tmp 2) (.tmp 4) 41 rfl 6 size41 w.heap.size (.agg #[.int .i64 1, .int .i64 0, .int .i64 0, .int .i64 1, .int .i64 n, .int .i64 0]) rfl rfl rfl (by simp [Value.cells, Value.oneCell']) #[.int .i64 0, .int .i64 0, .int .i64 0, .int .i64 0, .int .i64 0, .int .i64 0] 41 _ HA.out rfl ?_; intro w6 k1 k2; have K6 := hid (show Has w6 (blk w.heap.size #[.int .i64 1, .int .i64 0, .int .i64 0, .int .i64 1, .int .i64 n, .int .i64 0] 41 + MS.all w) from k1); have E6 := hid (HE.out.trans k2); clear k1 k2)
  have q0 : w6.cell? ⟨w.heap.size, 0, none⟩ = some (.int .i64 1) := K6.out.at_ rfl
  have q1 : w6.cell? ⟨w.heap.size, 1, none⟩ = some (.int .i64 0) := K6.out.at_ rfl
  have q2 : w6.cell? ⟨w.heap.size, 2, none⟩ = some (.int .i64 0) := K6.out.at_ rfl
  have q3 : w6.cell? ⟨w.heap.size, 3, none⟩ = some (.int .i64 1) := K6.out.at_ rfl
  have q4 : w6.cell? ⟨w.heap.size, 4, none⟩ = some (.int .i64 n) := K6.out.at_ rfl
  have q5 : w6.cell? ⟨w.heap.size, 5, none⟩ = some (.int .i64 0) := K6.out.at_ rfl
  exact bodyPost_ret (v := .agg #[.int .i64 1, .int .i64 0, .int .i64 0, .int .i64 1, .int .i64 n, .int .i64 0]) (by simp [results, Tryd.results52, go_sem, q0, q1, q2, q3, q4, q5]) rfl ⟨rfl, fun M hM => hM.of_all K6.out, E6.out⟩
theorem shiftY_any (n : Int) (w : World) : Calls Tryd.prog 53 #[.int .i64 n] w fun e w' => e = .returned (.agg #[.int .i64 1, .int .i64 0, .int .i64 0, .int .i64 1, .int .i64 0, .int .i64 n]) ∧ Kp w w' := by
  have HA := hid (show Has (w.alloc (.cells #[.int .i64 0, .int .i64 0, .int .i64 0, .int .i64 0, .int .i64 0, .int .i64 0] 41)) (blk w.heap.size #[.int .i64 0, .int .i64 0, .int .i64 0, .int .i64 0, .int .i64 0, .int .i64 0] 41 + MS.all w) from (Has.all w).alloc _)
  have HE := hid (Ext.alloc w (.cells #[.int .i64 0, .int .i64 0, .int .i64 0, .int .i64 0, .int .i64 0, .int .i64 0] 41))
  go_enter Tryd.func53, Tryd.ntmps53
  go_wp2_with (refine wpList_store_whole rfl (.tmp 2) (.tmp 4) 41 rfl 6 size41 w.heap.size (.agg #[.int .i64 1, .int .i64 0, .int .i64 0, .int .i64 1, .int .i64 0, .int .i64 n]) rfl rfl rfl (by simp [Value.cells, Value.oneCell']) #[.int .i64 0, .int .i64 0, .int .i64 0, .int .i64 0, .int .i64 0, .int .i64 0] 41 _ HA.out rfl ?_; intro w6 k1 k2; have K6 := hid (show Has w6 (blk w.heap.size #[.int .i64 1, .int .i64 0, .int .i64 0, .int .i64 1, .int .i64 0, .int .i64 n] 41 + MS.all w) from k1); have E6 := hid (HE.out.trans k2); clear k1 k2)
  have q0 : w6.cell? ⟨w.heap.size, 0, none⟩ = some (.int .i64 1) := K6.out.at_ rfl
  have q1 : w6.cell? ⟨w.heap.size, 1, none⟩ = some (.int .i64 0) := K6.out.at_ rfl
  have q2 : w6.cell? ⟨w.heap.size, 2, none⟩ = some (.int .i64 0) := K6.out.at_ rfl
  have q3 : w6.cell? ⟨w.heap.size, 3, none⟩ = some (.int .i64 1) := K6.out.at_ rfl
  have q4 : w6.cell? ⟨w.heap.size, 4, none⟩ = some (.int .i64 0) := K6.out.at_ rfl
  have q5 : w6.cell? ⟨w.heap.size, 5, none⟩ = some (.int .i64 n) := K6.out.at_ rfl
  exact bodyPost_ret (v := .agg #[.int .i64 1, .int .i64 0, .int .i64 0, .int .i64 1, .int .i64 0, .int .i64 n]) (by simp [results, Tryd.results53, go_sem, q0, q1, q2, q3, q4, q5]) rfl ⟨rfl, fun M hM => hM.of_all K6.out, E6.out⟩
section
variable {P : Program} {ops : Array Oper} {Q : Exit → Act → World → Prop} {S : World → Prop} {last : Option Nat} {i : Nat} {o : Oper} {tl : List Oper} {rest : List (Nat × Bool)} {a : Act} {w : World}
theorem txt_eff_off (hS : S w) (hi : ops.toList.drop i = o :: tl) (hg : Region.wanted o (yielded ops a.tmps) = false)
    (h : wpTxt P ops Q S last rest (a.put o.dst undef) w) : wpTxt P ops Q S last ((i, false) :: rest) a w := by
  unfold wpTxt wpOp
  simp only [at_drop hi, hg, Bool.false_eq_true, if_false]
  exact ⟨fun _ => hS, h⟩
end
/-- The least number with which something holds, up to a greatest one. -/
structure IsMin (q : Nat → Bool) (most n : Nat) : Prop where
  n1 : 1 ≤ n
  nm : n ≤ most
  no : ∀ i, 1 ≤ i → i < n → q i = false
  hit : n < most → q n = true
theorem IsMin.uniq {q : Nat → Bool} {most n n' : Nat} (h : IsMin q most n) (h' : IsMin q most n') : n = n' := by
  rcases Nat.lt_trichotomy n n' with hl | hl | hl
  · have := h'.no n h.n1 hl
    rw [h.hit (by have := h'.nm; omega)] at this; cases this
  · exact hl
  · have := h.no n' h'.n1 hl
    rw [h'.hit (by have := h.nm; omega)] at this; cases this
theorem leastX_any {F : MS} {p : List ByteArray} {fb bx : Nat} {w : World} (h : Flo F p fb) (hp : PatOk p) (hx : F.at bx 0 (.pointer (some ⟨fb, 0, none⟩))) (hH : Has w F) (most : Nat) (h1 : 1 ≤ most) (h6 : most ≤ 6) :
    Calls Tryd.prog 50 #[.int .i64 most, .func (.func 52) #[] #[], .pointer (some ⟨bx, 0, none⟩)] w fun e w' => ∃ n : Nat, e = .returned (.int .i64 n) ∧ IsMin (fun n => shB p n 0) most n ∧ Kp w w' := by
  have Hk := hid (fun (W : World) (hW : Has W F) (n : Nat) => show Calls Tryd.prog 51 #[.pointer (some ⟨fb, 0, none⟩), .agg #[.int .i64 1, .int .i64 0, .int .i64 0, .int .i64 1, .int .i64 n, .int .i64 0]] W fun e w' => e = .returned (.bool (shB p n 0)) ∧ Kp W w' from keeps_any h hp hW ⟨1, 0, 0, 1, n, 0⟩)
  have Hx := hid hx
  have HH := hid hH
  have H1 := hid h1
  have hmI : (most : Int) ≤ 6 := by omega
  clear h hp hx hH h1 h6
  go_enter Tryd.func50, Tryd.ntmps50
  go_wp2
  go_loopw [6] (fun v wr => ∃ n : Nat, 1 ≤ n ∧ n ≤ most ∧ v = .int .i64 n ∧ (∀ i, 1 ≤ i → i < n → (fun n => shB p n 0) i = false) ∧ Kp w wr) (fun v _ => most - (intOf v).toNat)
  case atStart => exact ⟨1, Nat.le_refl _, H1.out, rfl, fun i h1 h2 => by omega, Kp.refl _⟩
  case round =>
    obtain ⟨n, hn1, hnm, rfl, hno, hK⟩ := hrel
    have Hn1 := hid hn1
    have Hnm := hid hnm
    have Hno := hid hno
    have HK := hid hK
    have HF := hid (hK.1 _ HH.out)
    clear hno hK
    have hS : wr.drew.cell? ⟨bx, 0, none⟩ = some (.pointer (some ⟨fb, 0, none⟩)) := Hx.out.c0 HF.out.drew
    by_cases hlt : n < most
    · have hltI : (n : Int) < most := by omega
      have Hlt := hid hlt
      clear hn1 hnm hlt
      obtain ⟨q, hq⟩ : ∃ q, q = shB p n 0 := ⟨_, rfl⟩
      have Hkq := hid (fun (W : World) (hW : Has W F) => Hk.out W hW n)
      rw [← hq] at Hkq
      have Hq := hid hq
      clear hq
      cases q with
      | true =>
        go_wp2
        refine wp_region_txt (fun W => W.cell? ⟨bx, 0, none⟩ = some (.pointer (some ⟨fb, 0, none⟩))) none
          [(0, true), (1, true), (2, true), (3, true), (4, true), (5, true), (6, true), (7, false), (8, false), (9, true), (10, true)] (by kernel_rfl) rfl (by kernel_rfl) (by kernel_rfl) (by repeat (first | with_reducible refine PanicOk.thn ?_ | with_reducible refine PanicOk.blk ?_ | exact PanicOk.body _ _ _)) ?_
        repeat
          (refine txt_quiet ?_ hS rfl rfl (fun W hW => ?_) ?_
           rotate_left 1
           · obtain hW1 := hW
             go_simp
             exact rfl
           simp only [Act.put, List.setIfInBounds_toArray, List.set_cons_zero, List.set_cons_succ])
        refine txt_op rfl rfl ?_
        refine op_call 52 #[.int .i64 n] wr.drew (by go_simp) _ (shiftX_any n wr.drew) ?_
        rintro e1 w1 ⟨rfl, k1⟩
        have K1 := hid (k1.1 _ HF.out.drew)
        have E1 := hid ((Kp.drewN HK.out 1).trans k1)
        refine ⟨_, rfl, fun _ => Hx.out.c0 K1.out, ?_⟩
        clear hS k1
        simp only [Act.put, List.setIfInBounds_toArray, List.set_cons_zero, List.set_cons_succ]
        have hS := Hx.out.c0 K1.out
        refine txt_op rfl rfl ?_
        refine op_call 51 #[.pointer (some ⟨fb, 0, none⟩), .agg #[.int .i64 1, .int .i64 0, .int .i64 0, .int .i64 1, .int .i64 n, .int .i64 0]] w1 (by go_simp) _ (Hkq.out w1 K1.out) ?_
        rintro e2 w2 ⟨rfl, k1⟩
        have K2 := hid (k1.1 _ K1.out)
        have E2 := hid (E1.out.trans k1)
        refine ⟨_, rfl, fun _ => Hx.out.c0 K2.out, ?_⟩
        clear hS k1
        simp only [Act.put, List.setIfInBounds_toArray, List.set_cons_zero, List.set_cons_succ]
        have hS := Hx.out.c0 K2.out
        repeat
          (refine txt_quiet ?_ hS rfl rfl (fun W hW => ?_) ?_
           rotate_left 1
           · obtain hW1 := hW
             go_simp
             exact rfl
           simp only [Act.put, List.setIfInBounds_toArray, List.set_cons_zero, List.set_cons_succ])
        refine txt_done ?_
        go_wp2
        go_ret
        exact ⟨n, rfl, ⟨Hn1.out, Hnm.out, Hno.out, fun _ => Hq.out.symm⟩, E2.out⟩
      | false =>
        go_wp2
        refine wp_region_txt (fun W => W.cell? ⟨bx, 0, none⟩ = some (.pointer (some ⟨fb, 0, none⟩))) none
          [(0, true), (1, true), (2, true), (3, true), (4, true), (5, true), (6, true), (7, false), (8, false), (9, true), (10, true)] (by kernel_rfl) rfl (by kernel_rfl) (by kernel_rfl) (by repeat (first | with_reducible refine PanicOk.thn ?_ | with_reducible refine PanicOk.blk ?_ | exact PanicOk.body _ _ _)) ?_
        repeat
          (refine txt_quiet ?_ hS rfl rfl (fun W hW => ?_) ?_
           rotate_left 1
           · obtain hW1 := hW
             go_simp
             exact rfl
           simp only [Act.put, List.setIfInBounds_toArray, List.set_cons_zero, List.set_cons_succ])
        refine txt_op rfl rfl ?_
        refine op_call 52 #[.int .i64 n] wr.drew (by go_simp) _ (shiftX_any n wr.drew) ?_
        rintro e1 w1 ⟨rfl, k1⟩
        have K1 := hid (k1.1 _ HF.out.drew)
        have E1 := hid ((Kp.drewN HK.out 1).trans k1)
        refine ⟨_, rfl, fun _ => Hx.out.c0 K1.out, ?_⟩
        clear hS k1
        simp only [Act.put, List.setIfInBounds_toArray, List.set_cons_zero, List.set_cons_succ]
        have hS := Hx.out.c0 K1.out
        refine txt_op rfl rfl ?_
        refine op_call 51 #[.pointer (some ⟨fb, 0, none⟩), .agg #[.int .i64 1, .int .i64 0, .int .i64 0, .int .i64 1, .int .i64 n, .int .i64 0]] w1 (by go_simp) _ (Hkq.out w1 K1.out) ?_
        rintro e2 w2 ⟨rfl, k1⟩
        have K2 := hid (k1.1 _ K1.out)
        have E2 := hid (E1.out.trans k1)
        refine ⟨_, rfl, fun _ => Hx.out.c0 K2.out, ?_⟩
        clear hS k1
        simp only [Act.put, List.setIfInBounds_toArray, List.set_cons_zero, List.set_cons_succ]
        have hS := Hx.out.c0 K2.out
        repeat
          (refine txt_quiet ?_ hS rfl rfl (fun W hW => ?_) ?_
           rotate_left 1
           · obtain hW1 := hW
             go_simp
             exact rfl
           simp only [Act.put, List.setIfInBounds_toArray, List.set_cons_zero, List.set_cons_succ])
        refine txt_done ?_
        go_wp2
        go_roundw
        case rel => exact ⟨n + 1, by omega, Hlt.out, by go_num, fun i h1 h2 => by
          by_cases hin : i = n
          · rw [hin]; exact Hq.out.symm
          · exact Hno.out i h1 (by omega), E2.out⟩
        case measure => have := Hlt.out; simp [intOf]; omega
    · have hne : n = most := by omega
      subst hne
      clear hlt hn1 hnm
      go_wp2
      refine wp_region_txt (fun W => W.cell? ⟨bx, 0, none⟩ = some (.pointer (some ⟨fb, 0, none⟩))) none
        [(0, true), (1, true), (2, true), (3, true), (4, true), (5, true), (6, true), (7, false), (8, false), (9, true), (10, true)] (by kernel_rfl) rfl (by kernel_rfl) (by kernel_rfl) (by repeat (first | with_reducible refine PanicOk.thn ?_ | with_reducible refine PanicOk.blk ?_ | exact PanicOk.body _ _ _)) ?_
      repeat
        (refine txt_quiet ?_ hS rfl rfl (fun W hW => ?_) ?_
         rotate_left 1
         · obtain hW1 := hW
           go_simp
           exact rfl
         simp only [Act.put, List.setIfInBounds_toArray, List.set_cons_zero, List.set_cons_succ])
      refine txt_off hS rfl rfl ?_
      simp only [Act.put, List.setIfInBounds_toArray, List.set_cons_zero, List.set_cons_succ]
      refine txt_off hS rfl rfl ?_
      simp only [Act.put, List.setIfInBounds_toArray, List.set_cons_zero, List.set_cons_succ]
      refine txt_off hS rfl rfl ?_
      simp only [Act.put, List.setIfInBounds_toArray, List.set_cons_zero, List.set_cons_succ]
      refine txt_eff_off hS rfl rfl ?_
      simp only [Act.put, List.setIfInBounds_toArray, List.set_cons_zero, List.set_cons_succ]
      refine txt_eff_off hS rfl rfl ?_
      simp only [Act.put, List.setIfInBounds_toArray, List.set_cons_zero, List.set_cons_succ]
      refine txt_off hS rfl rfl ?_
      simp only [Act.put, List.setIfInBounds_toArray, List.set_cons_zero, List.set_cons_succ]
      repeat
        (refine txt_quiet ?_ hS rfl rfl (fun W hW => ?_) ?_
         rotate_left 1
         · obtain hW1 := hW
           go_simp
           exact rfl
         simp only [Act.put, List.setIfInBounds_toArray, List.set_cons_zero, List.set_cons_succ])
      refine txt_done ?_
      go_wp2
      go_ret
      exact ⟨n, rfl, ⟨Hn1.out, Nat.le_refl _, Hno.out, fun h => absurd h (Nat.lt_irrefl _)⟩, Kp.drewN HK.out 1⟩
theorem leastY_any {F : MS} {p : List ByteArray} {fb bx : Nat} {w : World} (h : Flo F p fb) (hp : PatOk p) (hx : F.at bx 0 (.pointer (some ⟨fb, 0, none⟩))) (hH : Has w F) (most : Nat) (h1 : 1 ≤ most) (h6 : most ≤ 6) :
    Calls Tryd.prog 50 #[.int .i64 most, .func (.func 53) #[] #[], .pointer (some ⟨bx, 0, none⟩)] w fun e w' => ∃ n : Nat, e = .returned (.int .i64 n) ∧ IsMin (fun n => shB p 0 n) most n ∧ Kp w w' := by
  have Hk := hid (fun (W : World) (hW : Has W F) (n : Nat) => show Calls Tryd.prog 51 #[.pointer (some ⟨fb, 0, none⟩), .agg #[.int .i64 1, .int .i64 0, .int .i64 0, .int .i64 1, .int .i64 0, .int .i64 n]] W fun e w' => e = .returned (.bool (shB p 0 n)) ∧ Kp W w' from keeps_any h hp hW ⟨1, 0, 0, 1, 0, n⟩)
  have Hx := hid hx
  have HH := hid hH
  have H1 := hid h1
  have hmI : (most : Int) ≤ 6 := by omega
  clear h hp hx hH h1 h6
  go_enter Tryd.func50, Tryd.ntmps50
  go_wp2
  go_loopw [6] (fun v wr => ∃ n : Nat, 1 ≤ n ∧ n ≤ most ∧ v = .int .i64 n ∧ (∀ i, 1 ≤ i → i < n → (fun n => shB p 0 n) i = false) ∧ Kp w wr) (fun v _ => most - (intOf v).toNat)
  case atStart => exact ⟨1, Nat.le_refl _, H1.out, rfl, fun i h1 h2 => by omega, Kp.refl _⟩
  case round =>
    obtain ⟨n, hn1, hnm, rfl, hno, hK⟩ := hrel
    have Hn1 := hid hn1
    have Hnm := hid hnm
    have Hno := hid hno
    have HK := hid hK
    have HF := hid (hK.1 _ HH.out)
    clear hno hK
    have hS : wr.drew.cell? ⟨bx, 0, none⟩ = some (.pointer (some ⟨fb, 0, none⟩)) := Hx.out.c0 HF.out.drew
    by_cases hlt : n < most
    · have hltI : (n : Int) < most := by omega
      have Hlt := hid hlt
      clear hn1 hnm hlt
      obtain ⟨q, hq⟩ : ∃ q, q = shB p 0 n := ⟨_, rfl⟩
      have Hkq := hid (fun (W : World) (hW : Has W F) => Hk.out W hW n)
      rw [← hq] at Hkq
      have Hq := hid hq
      clear hq
      cases q with
      | true =>
        go_wp2
        refine wp_region_txt (fun W => W.cell? ⟨bx, 0, none⟩ = some (.pointer (some ⟨fb, 0, none⟩))) none
          [(0, true), (1, true), (2, true), (3, true), (4, true), (5, true), (6, true), (7, false), (8, false), (9, true), (10, true)] (by kernel_rfl) rfl (by kernel_rfl) (by kernel_rfl) (by repeat (first | with_reducible refine PanicOk.thn ?_ | with_reducible refine PanicOk.blk ?_ | exact PanicOk.body _ _ _)) ?_
        repeat
          (refine txt_quiet ?_ hS rfl rfl (fun W hW => ?_) ?_
           rotate_left 1
           · obtain hW1 := hW
             go_simp
             exact rfl
           simp only [Act.put, List.setIfInBounds_toArray, List.set_cons_zero, List.set_cons_succ])
        refine txt_op rfl rfl ?_
        refine op_call 53 #[.int .i64 n] wr.drew (by go_simp) _ (shiftY_any n wr.drew) ?_
        rintro e1 w1 ⟨rfl, k1⟩
        have K1 := hid (k1.1 _ HF.out.drew)
        have E1 := hid ((Kp.drewN HK.out 1).trans k1)
        refine ⟨_, rfl, fun _ => Hx.out.c0 K1.out, ?_⟩
        clear hS k1
        simp only [Act.put, List.setIfInBounds_toArray, List.set_cons_zero, List.set_cons_succ]
        have hS := Hx.out.c0 K1.out
        refine txt_op rfl rfl ?_
        refine op_call 51 #[.pointer (some ⟨fb, 0, none⟩), .agg #[.int .i64 1, .int .i64 0, .int .i64 0, .int .i64 1, .int .i64 0, .int .i64 n]] w1 (by go_simp) _ (Hkq.out w1 K1.out) ?_
        rintro e2 w2 ⟨rfl, k1⟩
        have K2 := hid (k1.1 _ K1.out)
        have E2 := hid (E1.out.trans k1)
        refine ⟨_, rfl, fun _ => Hx.out.c0 K2.out, ?_⟩
        clear hS k1
        simp only [Act.put, List.setIfInBounds_toArray, List.set_cons_zero, List.set_cons_succ]
        have hS := Hx.out.c0 K2.out
        repeat
          (refine txt_quiet ?_ hS rfl rfl (fun W hW => ?_) ?_
           rotate_left 1
           · obtain hW1 := hW
             go_simp
             exact rfl
           simp only [Act.put, List.setIfInBounds_toArray, List.set_cons_zero, List.set_cons_succ])
        refine txt_done ?_
        go_wp2
        go_ret
        exact ⟨n, rfl, ⟨Hn1.out, Hnm.out, Hno.out, fun _ => Hq.out.symm⟩, E2.out⟩
      | false =>
        go_wp2
        refine wp_region_txt (fun W => W.cell? ⟨bx, 0, none⟩ = some (.pointer (some ⟨fb, 0, none⟩))) none
          [(0, true), (1, true), (2, true), (3, true), (4, true), (5, true), (6, true), (7, false), (8, false), (9, true), (10, true)] (by kernel_rfl) rfl (by kernel_rfl) (by kernel_rfl) (by repeat (first | with_reducible refine PanicOk.thn ?_ | with_reducible refine PanicOk.blk ?_ | exact PanicOk.body _ _ _)) ?_
        repeat
          (refine txt_quiet ?_ hS rfl rfl (fun W hW => ?_) ?_
           rotate_left 1
           · obtain hW1 := hW
             go_simp
             exact rfl
           simp only [Act.put, List.setIfInBounds_toArray, List.set_cons_zero, List.set_cons_succ])
        refine txt_op rfl rfl ?_
        refine op_call 53 #[.int .i64 n] wr.drew (by go_simp) _ (shiftY_any n wr.drew) ?_
        rintro e1 w1 ⟨rfl, k1⟩
        have K1 := hid (k1.1 _ HF.out.drew)
        have E1 := hid ((Kp.drewN HK.out 1).trans k1)
        refine ⟨_, rfl, fun _ => Hx.out.c0 K1.out, ?_⟩
        clear hS k1
        simp only [Act.put, List.setIfInBounds_toArray, List.set_cons_zero, List.set_cons_succ]
        have hS := Hx.out.c0 K1.out
        refine txt_op rfl rfl ?_
        refine op_call 51 #[.pointer (some ⟨fb, 0, none⟩), .agg #[.int .i64 1, .int .i64 0, .int .i64 0, .int .i64 1, .int .i64 0, .int .i64 n]] w1 (by go_simp) _ (Hkq.out w1 K1.out) ?_
        rintro e2 w2 ⟨rfl, k1⟩
        have K2 := hid (k1.1 _ K1.out)
        have E2 := hid (E1.out.trans k1)
        refine ⟨_, rfl, fun _ => Hx.out.c0 K2.out, ?_⟩
        clear hS k1
        simp only [Act.put, List.setIfInBounds_toArray, List.set_cons_zero, List.set_cons_succ]
        have hS := Hx.out.c0 K2.out
        repeat
          (refine txt_quiet ?_ hS rfl rfl (fun W hW => ?_) ?_
           rotate_left 1
           · obtain hW1 := hW
             go_simp
             exact rfl
           simp only [Act.put, List.setIfInBounds_toArray, List.set_cons_zero, List.set_cons_succ])
        refine txt_done ?_
        go_wp2
        go_roundw
        case rel => exact ⟨n + 1, by omega, Hlt.out, by go_num, fun i h1 h2 => by
          by_cases hin : i = n
          · rw [hin]; exact Hq.out.symm
          · exact Hno.out i h1 (by omega), E2.out⟩
        case measure => have := Hlt.out; simp [intOf]; omega
    · have hne : n = most := by omega
      subst hne
      clear hlt hn1 hnm
      go_wp2
      refine wp_region_txt (fun W => W.cell? ⟨bx, 0, none⟩ = some (.pointer (some ⟨fb, 0, none⟩))) none
        [(0, true), (1, true), (2, true), (3, true), (4, true), (5, true), (6, true), (7, false), (8, false), (9, true), (10, true)] (by kernel_rfl) rfl (by kernel_rfl) (by kernel_rfl) (by repeat (first | with_reducible refine PanicOk.thn ?_ | with_reducible refine PanicOk.blk ?_ | exact PanicOk.body _ _ _)) ?_
      repeat
        (refine txt_quiet ?_ hS rfl rfl (fun W hW => ?_) ?_
         rotate_left 1
         · obtain hW1 := hW
           go_simp
           exact rfl
         simp only [Act.put, List.setIfInBounds_toArray, List.set_cons_zero, List.set_cons_succ])
      refine txt_off hS rfl rfl ?_
      simp only [Act.put, List.setIfInBounds_toArray, List.set_cons_zero, List.set_cons_succ]
      refine txt_off hS rfl rfl ?_
      simp only [Act.put, List.setIfInBounds_toArray, List.set_cons_zero, List.set_cons_succ]
      refine txt_off hS rfl rfl ?_
      simp only [Act.put, List.setIfInBounds_toArray, List.set_cons_zero, List.set_cons_succ]
      refine txt_eff_off hS rfl rfl ?_
      simp only [Act.put, List.setIfInBounds_toArray, List.set_cons_zero, List.set_cons_succ]
      refine txt_eff_off hS rfl rfl ?_
      simp only [Act.put, List.setIfInBounds_toArray, List.set_cons_zero, List.set_cons_succ]
      refine txt_off hS rfl rfl ?_
      simp only [Act.put, List.setIfInBounds_toArray, List.set_cons_zero, List.set_cons_succ]
      repeat
        (refine txt_quiet ?_ hS rfl rfl (fun W hW => ?_) ?_
         rotate_left 1
         · obtain hW1 := hW
           go_simp
           exact rfl
         simp only [Act.put, List.setIfInBounds_toArray, List.set_cons_zero, List.set_cons_succ])
      refine txt_done ?_
      go_wp2
      go_ret
      exact ⟨n, rfl, ⟨Hn1.out, Nat.le_refl _, Hno.out, fun h => absurd h (Nat.lt_irrefl _)⟩, Kp.drewN HK.out 1⟩
end Go.Proofs.YteibbnmlmbhkpaaDoor

namespace Go.Proofs.YteibbnmlmbhkpaaDoor
open Go.RowKit
set_option linter.unusedVariables false
set_option linter.unusedSimpArgs false
set_option maxHeartbeats 4000000
set_option maxRecDepth 100000

/-- A pattern cut to its first rows and columns. -/
def cutL (p : List ByteArray) (x n : Nat) : List ByteArray := (p.take n).map fun s => s.extract 0 x
theorem cutL_len {p : List ByteArray} {x n : Nat} (h : n ≤ p.length) : (cutL p x n).length = n := by unfold cutL; rw [List.length_map, List.length_take]; omega
theorem cutL_succ {p : List ByteArray} {x n : Nat} {s : ByteArray} (h : p[n]? = some s) : cutL p x (n + 1) = cutL p x n ++ [s.extract 0 x] := by
  unfold cutL; rw [take_more h, List.map_append]; rfl
/-- What Smallest hands back. -/
def SmRes (p : List ByteArray) (w : World) (e : Ending) (w' : World) : Prop :=
  ∃ A' c' l er X, e = .returned (.tuple #[.slice A' l.length c', .int .i64 er]) ∧ Kp w w' ∧ Has w' X ∧ RdS X RT.str l (.slice A' l.length c') ∧ (isPat p = true → ∃ x n, IsMin (fun n => shB p n 0) (wd p) x ∧ IsMin (fun n => shB p 0 n) p.length n ∧ l = cutL p x n ∧ er = 0) ∧ (isPat p = false → l = [] ∧ er = 2)
theorem SmRes.no {p : List ByteArray} {w w' : World} (h : isPat p = false) (k : Kp w w') : SmRes p w (.returned (.tuple #[.slice none 0 0, .int .i64 2])) w' :=
  ⟨none, 0, [], 2, MS.all w', rfl, k, Has.all _, RdS.nil _ _, fun h' => (by rw [h] at h'; cases h'), fun _ => ⟨rfl, rfl⟩⟩
theorem refSmallest_any {F : MS} {p : List ByteArray} {A : Option Addr} {c : Nat} {w : World} (h : Giv F p A c) (hH : Has w F) :
    Calls Tryd.prog 29 #[.slice A p.length c] w (SmRes p w) := by
  have Hof := hid (pattern_any h.rd h.l h.s hH)
  have Hrd := hid h.rd
  have HF := hid (show ∀ W Y, Has W (Y + MS.all w) → Has W F from fun W Y hW => hH.of_all hW)
  have HFd := hid (fun q => hH.drewN q)
  clear h hH
  cases hp : isPat p with
  | false =>
    have hq := hid hp
    rw [hp] at Hof
    clear hp
    go_enter Tryd.func29, Tryd.ntmps29
    go_wp2_with (go_at_call 20; refine Hof.out.mono ?_; rintro e1 w1 ⟨rfl, q1, rfl⟩)
    go_ret2
    exact SmRes.no hq.out (Kp.drewN (Kp.refl _) _)
  | true =>
    have hq := hid hp
    have Hp := hid (isPat.ok hp).1
    rw [hp] at Hof
    clear hp
    obtain ⟨hh, hhh⟩ : ∃ hh, hh = p.length := ⟨_, rfl⟩
    obtain ⟨ww, hww⟩ : ∃ ww, ww = wd p := ⟨_, rfl⟩
    have Hhh := hid hhh
    have Hww := hid hww
    have hh1 := hid (show 1 ≤ hh by rw [hhh]; exact Hp.out.h1)
    have hh6 := hid (show hh ≤ 6 by rw [hhh]; exact Hp.out.h6)
    have ww1 := hid (show 1 ≤ ww by rw [hww]; exact Hp.out.w1)
    have ww6 := hid (show ww ≤ 6 by rw [hww]; exact Hp.out.w6)
    have hitH := hid (show shB p 0 hh = true from (shB_iff Hp.out (by omega) (by have := hh6.out; omega)).2 (by rw [hhh]; have := Sy.perY p 1; rwa [Int.mul_one] at this))
    have hitW := hid (show shB p ww 0 = true from (shB_iff Hp.out (by have := ww6.out; omega) (by omega)).2 (by rw [hww]; have := Sy.perX p 1; rwa [Int.mul_one] at this))
    have HtrX := hid (fun (W : World) (hW : Has W F) (x : Nat) (hx : x ≤ 1000) => show Calls Tryd.prog 54 #[.slice A p.length c, .int .i64 x, .int .i64 0] W fun e w' => e = .returned (.bool (shB p x 0)) ∧ ∃ q, w' = W.drewN q from by
      have := translated_any Hrd.out Hp.out hW x 0 (by omega) (by omega)
      rw [show trB p x 0 = shB p x 0 from trB_nat Hp.out (y := 0) hx (Nat.zero_le _)] at this
      exact this)
    have HtrY := hid (fun (W : World) (hW : Has W F) (y : Nat) (hy : y ≤ 1000) => show Calls Tryd.prog 54 #[.slice A p.length c, .int .i64 0, .int .i64 y] W fun e w' => e = .returned (.bool (shB p 0 y)) ∧ ∃ q, w' = W.drewN q from by
      have := translated_any Hrd.out Hp.out hW 0 y (by omega) (by omega)
      rw [show trB p 0 y = shB p 0 y from trB_nat Hp.out (x := 0) (Nat.zero_le _) hy] at this
      exact this)
    have hnc := Hrd.out.cells.2.1
    clear hhh hww
    go_enter Tryd.func29, Tryd.ntmps29
    go_wp2_with (go_at_call 20; refine Hof.out.mono ?_; rintro e1 w1 ⟨rfl, q1, rfl⟩)
    go_loopw [4] (fun v wr => ∃ x : Nat, 1 ≤ x ∧ x ≤ ww ∧ v = .int .i64 x ∧ (∀ i, 1 ≤ i → i < x → shB p i 0 = false) ∧ ∃ q, wr = w.drewN q) (fun v _ => ww - (intOf v).toNat)
    case atStart => exact ⟨1, Nat.le_refl _, ww1.out, rfl, fun i h1 h2 => by omega, _, rfl⟩
    case round =>
      obtain ⟨x, hx1, hxw, rfl, hno, q2, rfl⟩ := hrel
      have Hx1 := hid hx1
      have Hxw := hid hxw
      have HnoX := hid hno
      have hx6 : (x : Int) ≤ 6 := by have := ww6.out; omega
      have Htr := hid (HtrX.out _ (HFd.out q2) x (by omega))
      clear hx1 hxw hno
      cases hs : shB p x 0 with
      | false =>
        rw [hs] at Htr
        have Hlt := hid (show x < ww from (Nat.lt_or_ge x ww).elim id (fun hge => by
          have hxe : x = ww := by have := Hxw.out; omega
          rw [hxe, hitW.out] at hs; cases hs))
        have Hs := hid hs
        clear hs
        go_wp2_with (go_at_call 54; refine Htr.out.mono ?_; rintro e2 w2 ⟨rfl, q3, rfl⟩)
        go_roundw
        case rel => exact ⟨x + 1, by omega, Hlt.out, by go_num, fun i h1 h2 => by
          by_cases hin : i = x
          · rw [hin]; exact Hs.out
          · exact HnoX.out i h1 (by omega), _, rfl⟩
        case measure => have := Hlt.out; simp [intOf]; omega
      | true =>
        rw [hs] at Htr
        have HX := hid (show IsMin (fun n => shB p n 0) ww x from ⟨Hx1.out, Hxw.out, HnoX.out, fun _ => hs⟩)
        clear hs Hx1 HnoX
        go_wp2_with (go_at_call 54; refine Htr.out.mono ?_; rintro e2 w2 ⟨rfl, q3, rfl⟩)
        go_loopw [5] (fun v wr => ∃ y : Nat, 1 ≤ y ∧ y ≤ hh ∧ v = .int .i64 y ∧ (∀ i, 1 ≤ i → i < y → shB p 0 i = false) ∧ ∃ q, wr = w.drewN q) (fun v _ => hh - (intOf v).toNat)
        case atStart => exact ⟨1, Nat.le_refl _, hh1.out, rfl, fun i h1 h2 => by omega, _, rfl⟩
        case round =>
          obtain ⟨y, hy1, hyh, rfl, hno, q4, rfl⟩ := hrel
          have Hy1 := hid hy1
          have Hyh := hid hyh
          have HnoY := hid hno
          have hy6 : (y : Int) ≤ 6 := by have := hh6.out; omega
          have Htr2 := hid (HtrY.out _ (HFd.out q4) y (by omega))
          clear hy1 hyh hno
          cases hs : shB p 0 y with
          | false =>
            rw [hs] at Htr2
            have Hlt := hid (show y < hh from (Nat.lt_or_ge y hh).elim id (fun hge => by
              have hye : y = hh := by have := Hyh.out; omega
              rw [hye, hitH.out] at hs; cases hs))
            have Hs := hid hs
            clear hs
            go_wp2_with (go_at_call 54; refine Htr2.out.mono ?_; rintro e2 w2 ⟨rfl, q3, rfl⟩)
            go_roundw
            case rel => exact ⟨y + 1, by omega, Hlt.out, by go_num, fun i h1 h2 => by
              by_cases hin : i = y
              · rw [hin]; exact Hs.out
              · exact HnoY.out i h1 (by omega), _, rfl⟩
            case measure => have := Hlt.out; simp [intOf]; omega
          | true =>
            rw [hs] at Htr2
            have HY := hid (show IsMin (fun n => shB p 0 n) hh y from ⟨Hy1.out, Hyh.out, HnoY.out, fun _ => hs⟩)
            clear hs Hy1 HnoY
            have HG := hid (fun q => (Has.all w).drewN q)
            have EG := hid (fun q => Ext.drewN w q)
            have HK := hid (show ∀ W Y, Has W (Y + MS.all w) → Ext w W → Kp w W from fun W Y hW hE => ⟨fun M hM => hM.of_all hW, hE⟩)
            generalize MS.all w = G at *
            go_wp2_with (go_at_call 54; refine Htr2.out.mono ?_; rintro e2 w2 ⟨rfl, q5, rfl⟩)
            go_loopw [6, 7] (fun vo v wr => ∃ n : Nat, ∃ B dd ms, n ≤ y ∧ v = .int .i64 n ∧ vo = .slice B n dd ∧ SlR 9 1 StrR (cutL p x n) (.slice B n dd) ms ∧ Has wr (ms + G) ∧ Ext w wr) (fun _ v _ => y - (intOf v).toNat)
            case atStart => exact ⟨0, none, 0, 0, Nat.zero_le _, rfl, rfl, ⟨[], 0, 0, Sl.nil _ _, RowsR.nil, by rw [MS.zero_add]⟩, (HG.out _).eq (by rw [MS.zero_add]), EG.out _⟩
            case round =>
              obtain ⟨n, B, dd, ms, hn, rfl, rfl, hS, hW, hE⟩ := hrel
              have HS := hid hS
              have HW := hid hW
              have HE := hid hE
              clear hS hW hE HG EG
              by_cases hlt : n < y
              · have hltI : (n : Int) < y := by omega
                have Hlt := hid hlt
                have hnl : n < p.length := by have := Hhh.out; have := Hyh.out; omega
                have hnlI : (n : Int) < p.length := by omega
                obtain ⟨s, hs⟩ : ∃ s, p[n]? = some s := ⟨_, List.getElem?_eq_getElem hnl⟩
                obtain ⟨b, o, hA, e3⟩ := Hrd.out.getStr hs
                subst hA
                have f3 := e3.c0 (HF.out _ _ HW.out)
                have hsz : s.size = ww := by rw [Hww.out]; exact Hp.out.rows s (List.mem_of_getElem? hs)
                have hxs : x ≤ s.size := by rw [hsz]; exact Hxw.out
                have hxsI : (x : Int) ≤ s.size := by omega
                have Hsu := hid (show cutL p x (n + 1) = cutL p x n ++ [s.extract 0 x] from cutL_succ hs)
                have Hlen := hid (show (cutL p x n).length = n from cutL_len (by omega))
                have Hn6 := hid (show n ≤ 6 by omega)
                clear hlt hn hnl e3 hs hsz
                go_wp2_with (at_builtin; refine wpList_push rfl (.tmp 28) (.tmp 35) row22 rfl (.slice B n dd) rfl _ rfl rfl StrR StrR.one StrR.len (cutL p x n) (s.extract 0 x) ms 0 G HS.out ⟨rfl, rfl⟩ (HW.out.eq (by rw [MS.zero_add])) n Hlen.out (by have := Hn6.out; omega) (by omega) ?_; intro A9 c9 w9 m9 j4 j5 j6; have J4 := hid j4; have J5 := hid j5; have J6 := hid (HE.out.trans j6); clear j4 j5 j6)
                go_roundw
                case rel => exact ⟨n + 1, A9, c9, m9, Hlt.out, by go_num, rfl, by rw [Hsu.out]; exact J4.out, J5.out, J6.out⟩
                case measure => have := Hlt.out; simp [intOf]; omega
              · have hne : n = y := by omega
                subst hne
                clear hlt hn
                go_wp2
                go_ret2
                have hl : (cutL p x n).length = n := cutL_len (by have := Hhh.out; have := Hyh.out; omega)
                refine ⟨B, dd, cutL p x n, 0, ms + G, by rw [hl]; rfl, HK.out _ _ HW.out HE.out, HW.out, ?_, fun _ => ⟨x, n, by rw [← Hww.out]; exact HX.out, by rw [← Hhh.out]; exact HY.out, rfl, rfl⟩, fun h => by rw [hq.out] at h; cases h⟩
                rw [hl]
                exact (SlR.rd (R := StrR) (T := RT.str) (fun a cs m h => h.1) HS.out).less _
theorem size60 : (Tryd.prog.info? 60).map (·.size) = some 1 := by kernel_rfl
theorem smallest_any {F : MS} {p : List ByteArray} {A : Option Addr} {c : Nat} {w : World} (h : Giv F p A c) (hH : Has w F) :
    Calls Tryd.prog 28 #[.slice A p.length c] w (SmRes p w) := by
  have Hof := hid (of_any h.rd h.l h.s hH)
  have Hrd := hid h.rd
  have HF := hid hH
  clear h hH
  cases hp : isPat p with
  | false =>
    have hq := hid hp
    rw [hp] at Hof
    clear hp
    go_enter Tryd.func28, Tryd.ntmps28
    go_wp2_with (first
      | (go_at_call 33; refine Hof.out.mono ?_; rintro e1 w1 ⟨r, rfl, k1, _⟩; have K1 := hid k1; have HA := hid (show Has (w1.alloc (.cells #[.pointer none] 60)) (blk w1.heap.size #[.pointer none] 60 + MS.all w1) from (Has.all w1).alloc _); have EA := hid (Ext.alloc w1 (.cells #[.pointer none] 60)); clear k1)
      | (refine wpList_store_blk rfl (.tmp 4) (.tmp 15) 60 rfl size60 w1.heap.size 0 (.pointer r) rfl rfl rfl #[.pointer none] 60 _ HA.out (by simp) ?_; intro w6 k1 k2; have K6 := hid (show Kp w w6 from K1.out.trans ⟨fun M hM => hM.of_all k1, EA.out.trans k2⟩); clear k1 k2))
    go_ret2
    exact SmRes.no hq.out K6.out
  | true =>
    have hq := hid hp
    have Hp := hid (isPat.ok hp).1
    rw [hp] at Hof
    clear hp
    obtain ⟨hh, hhh⟩ : ∃ hh, hh = p.length := ⟨_, rfl⟩
    obtain ⟨ww, hww⟩ : ∃ ww, ww = wd p := ⟨_, rfl⟩
    have Hhh := hid hhh
    have Hww := hid hww
    have hh1 := hid (show 1 ≤ hh by rw [hhh]; exact Hp.out.h1)
    have hh6 := hid (show hh ≤ 6 by rw [hhh]; exact Hp.out.h6)
    have ww1 := hid (show 1 ≤ ww by rw [hww]; exact Hp.out.w1)
    have ww6 := hid (show ww ≤ 6 by rw [hww]; exact Hp.out.w6)
    have HlX := hid (fun (W : World) (X : MS) (fb bx : Nat) (hf : Flo X p fb) (hx : X.at bx 0 (.pointer (some ⟨fb, 0, none⟩))) (hW : Has W X) => show Calls Tryd.prog 50 #[.int .i64 ww, .func (.func 52) #[] #[], .pointer (some ⟨bx, 0, none⟩)] W fun e w' => ∃ n : Nat, e = .returned (.int .i64 n) ∧ IsMin (fun n => shB p n 0) ww n ∧ Kp W w' from leastX_any hf Hp.out hx hW ww ww1.out ww6.out)
    have HlY := hid (fun (W : World) (X : MS) (fb bx : Nat) (hf : Flo X p fb) (hx : X.at bx 0 (.pointer (some ⟨fb, 0, none⟩))) (hW : Has W X) => show Calls Tryd.prog 50 #[.int .i64 hh, .func (.func 53) #[] #[], .pointer (some ⟨bx, 0, none⟩)] W fun e w' => ∃ n : Nat, e = .returned (.int .i64 n) ∧ IsMin (fun n => shB p 0 n) hh n ∧ Kp W w' from leastY_any hf Hp.out hx hW hh hh1.out hh6.out)
    have hnc := Hrd.out.cells.2.1
    have hlm := Hrd.out.cells.2.2.1
    clear hhh hww
    go_enter Tryd.func28, Tryd.ntmps28
    obtain ⟨b0, o0, s0, hA0, _, _⟩ := Hrd.out.row0 Hp.out HF.out
    subst hA0
    go_wp2_with (first
      | (go_at_call 50; refine (HlY.out _ F2 fb bx HFl.out Hbx.out K7.out).mono ?_; rintro e8 w8 ⟨y, rfl, hy, k8⟩; have HY := hid hy; have K8 := hid (k8.1 _ K7.out); have E8 := hid (E7.out.trans k8); have hyc : (y : Int) ≤ c := (by have := HY.out.nm; have := Hhh.out; omega); have hy6 : (y : Int) ≤ 6 := (by have := HY.out.nm; have := hh6.out; omega); clear hy k8)
      | (go_at_call 50; refine (HlX.out _ F2 fb bx HFl.out Hbx.out H6.out).mono ?_; rintro e7 w7 ⟨x, rfl, hx, k7⟩; have HX := hid hx; have K7 := hid (k7.1 _ H6.out); have E7 := hid (K6.out.trans k7); clear hx k7; obtain ⟨g0, g1, g2⟩ := Hfb.out w7 K7.out)
      | (go_at_call 33; refine Hof.out.mono ?_; rintro e1 w1 ⟨r, rfl, k1, kf⟩; obtain ⟨fb, X, rfl, kX, kF⟩ := kf rfl; have K1 := hid k1; have KX := hid kX; have KF := hid kF; have HA := hid (show Has (w1.alloc (.cells #[.pointer none] 60)) (blk w1.heap.size #[.pointer none] 60 + MS.all w1) from (Has.all w1).alloc _); have EA := hid (Ext.alloc w1 (.cells #[.pointer none] 60)); clear k1 kX kF kf)
      | (refine wpList_store_blk rfl (.tmp 4) (.tmp 15) 60 rfl size60 w1.heap.size 0 (.pointer (some ⟨fb, 0, none⟩)) rfl rfl rfl #[.pointer none] 60 _ HA.out (by simp) ?_; intro w6 k1 k2; have H6 := hid (show Has w6 (blk w1.heap.size #[.pointer (some ⟨fb, 0, none⟩)] 60 + MS.all w1) from k1); have K6 := hid (show Kp w w6 from K1.out.trans ⟨fun M hM => hM.of_all k1, EA.out.trans k2⟩); have HFl := hid (show Flo (blk w1.heap.size #[.pointer (some ⟨fb, 0, none⟩)] 60 + MS.all w1) p fb from (KF.out.all KX.out).more _); have Hbx := hid (show MS.at (blk w1.heap.size #[.pointer (some ⟨fb, 0, none⟩)] 60 + MS.all w1) w1.heap.size 0 (.pointer (some ⟨fb, 0, none⟩)) from (blk_at (cs := #[.pointer (some ⟨fb, 0, none⟩)]) (e := 60) (i := 0) rfl).less (MS.all w1)); clear k1 k2 HA EA Hof KX KF K1; generalize blk w1.heap.size #[.pointer (some ⟨fb, 0, none⟩)] 60 + MS.all w1 = F2 at *; generalize w1.heap.size = bx at *; have Hfb := hid (show ∀ W, Has W F2 → (W.cell? ⟨bx, 0, none⟩ = some (.pointer (some ⟨fb, 0, none⟩)) ∧ W.cell? ⟨fb, 0, none⟩ = some (.int .i64 ww) ∧ W.cell? ⟨fb, 1, none⟩ = some (.int .i64 hh)) from fun W hW => Exists.elim HFl.out fun A2 h => Exists.elim h fun c2 g => ⟨Hbx.out.c0 hW, by rw [Hww.out]; exact g.1.c0 hW, by rw [Hhh.out]; exact g.2.1.c0 hW⟩); obtain ⟨f0, f1, f2⟩ := Hfb.out w6 H6.out))
    have HG := hid (Has.all w8)
    have EG := hid (Ext.refl w8)
    have HFW := hid (show ∀ W Y, Has W (Y + MS.all w8) → Has W F from fun W Y hW => (E8.out.1 _ HF.out).of_all hW)
    have HK := hid (show ∀ W Y, Has W (Y + MS.all w8) → Ext w8 W → Kp w W from fun W Y hW hE => E8.out.trans ⟨fun M hM => hM.of_all hW, hE⟩)
    generalize MS.all w8 = G at *
    clear f0 f1 f2 g0 g1 g2 Hfb H6 K6 K7 E7 K8 E8 HlX HlY hyc
    go_loopw [9, 36] (fun vo v wr => ∃ n : Nat, ∃ B dd ms, n ≤ y ∧ v = .int .i64 n ∧ vo = .slice B n dd ∧ SlR 9 1 StrR (cutL p x n) (.slice B n dd) ms ∧ Has wr (ms + G) ∧ Ext w8 wr) (fun _ v _ => y - (intOf v).toNat)
    case atStart => exact ⟨0, none, 0, 0, Nat.zero_le _, rfl, rfl, ⟨[], 0, 0, Sl.nil _ _, RowsR.nil, by rw [MS.zero_add]⟩, HG.out.eq (by rw [MS.zero_add]), EG.out⟩
    case round =>
      obtain ⟨n, B, dd, ms, hn, rfl, rfl, hS, hW, hE⟩ := hrel
      have HS := hid hS
      have HW := hid hW
      have HE := hid hE
      clear hS hW hE HG EG
      by_cases hlt : n < y
      · have hltI : (n : Int) < y := by omega
        have Hlt := hid hlt
        have hnl : n < p.length := by have := Hhh.out; have := HY.out.nm; omega
        obtain ⟨s, hs⟩ : ∃ s, p[n]? = some s := ⟨_, List.getElem?_eq_getElem hnl⟩
        obtain ⟨b, o, hA, e3⟩ := Hrd.out.getStr hs
        injection hA with hA
        injection hA with hb ho _
        subst hb
        subst ho
        have f3 := e3.c0 (HFW.out _ _ HW.out)
        have hsz : s.size = ww := by rw [Hww.out]; exact Hp.out.rows s (List.mem_of_getElem? hs)
        have hxs : x ≤ s.size := by rw [hsz]; exact HX.out.nm
        have hxsI : (x : Int) ≤ s.size := by omega
        have Hsu := hid (show cutL p x (n + 1) = cutL p x n ++ [s.extract 0 x] from cutL_succ hs)
        have Hlen := hid (show (cutL p x n).length = n from cutL_len (by omega))
        have Hn6 := hid (show n ≤ 6 by omega)
        clear hlt hn hnl e3 hs hsz
        go_wp2_with (at_builtin; refine wpList_push rfl (.tmp 40) (.tmp 44) row22 rfl (.slice B n dd) rfl _ rfl rfl StrR StrR.one StrR.len (cutL p x n) (s.extract 0 x) ms 0 G HS.out ⟨rfl, rfl⟩ (HW.out.eq (by rw [MS.zero_add])) n Hlen.out (by have := Hn6.out; omega) (by omega) ?_; intro A9 c9 w9 m9 j4 j5 j6; have J4 := hid j4; have J5 := hid j5; have J6 := hid (HE.out.trans j6); clear j4 j5 j6)
        go_roundw
        case rel => exact ⟨n + 1, A9, c9, m9, Hlt.out, by go_num, rfl, by rw [Hsu.out]; exact J4.out, J5.out, J6.out⟩
        case measure => have := Hlt.out; simp [intOf]; omega
      · have hne : n = y := by omega
        subst hne
        clear hlt hn
        go_wp2
        go_ret2
        have hl : (cutL p x n).length = n := cutL_len (by have := Hhh.out; have := HY.out.nm; omega)
        refine ⟨B, dd, cutL p x n, 0, ms + G, by rw [hl]; rfl, HK.out _ _ HW.out HE.out, HW.out, ?_, fun _ => ⟨x, n, by rw [← Hww.out]; exact HX.out, by rw [← Hhh.out]; exact HY.out, rfl, rfl⟩, fun h => by rw [hq.out] at h; cases h⟩
        rw [hl]
        exact (SlR.rd (R := StrR) (T := RT.str) (fun a cs m h => h.1) HS.out).less _
end Go.Proofs.YteibbnmlmbhkpaaDoor

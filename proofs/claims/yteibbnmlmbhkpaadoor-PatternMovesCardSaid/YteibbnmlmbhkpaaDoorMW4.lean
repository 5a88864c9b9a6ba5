/-
  The walk of the reference's Apply.
-/
import Derived.Test.YteibbnmlmbhkpaaDoorMW3
import Derived.Lib.SlBytesRow
namespace Go.Proofs.YteibbnmlmbhkpaaDoor
open Go.RowKit
set_option linter.unusedVariables false
set_option linter.unusedSimpArgs false
set_option maxHeartbeats 8000000
set_option maxRecDepth 100000

/-- Bytes owned. -/
def ByR : UInt8 → List Value → MS → Prop := fun b cs ms => cs = [.int .u8 (b.toNat : Int)] ∧ ms = 0
theorem ByR.one : ∀ a cs m, ByR a cs m → ∀ u ∈ cs, u.oneCell' = true := fun a cs m h u hu => by
  rw [h.1] at hu; simp at hu; rw [hu]; rfl
theorem ByR.len : ∀ a cs m, ByR a cs m → cs.length = 1 := fun a cs m h => by rw [h.1]; rfl
def RT.by8 : RT UInt8 := ⟨1, fun _ b cs => cs = [.int .u8 (b.toNat : Int)], fun _ _ _ h => by rw [h]; rfl, fun _ _ _ _ h => h⟩
theorem row58 : RowTy Tryd.prog 58 5 (.int .u8 0) 1 1 := ⟨Tryd.underlying58, by kernel_rfl, rfl⟩
theorem und9 : Tryd.prog.underlying 9 = some .string := Tryd.underlying9
/-- The bytes of a slice, as a string. -/
theorem conv_by {F : MS} {l : List UInt8} {A : Option Addr} {c : Nat} {w : World} (h : RdS F RT.by8 l (.slice A l.length c)) (h1 : 1 ≤ l.length) (hH : Has w F) :
    (convert 58 9 (.slice A l.length c)).run Tryd.prog w = .ok (.string ⟨l.toArray⟩) w := by
  obtain ⟨x, hx⟩ : ∃ x, l[0]? = some x := ⟨_, List.getElem?_eq_getElem (by omega)⟩
  obtain ⟨b, o, cs, hA, hcs, hc⟩ := h.get hx (show 0 < RT.by8.sz by decide)
  subst hA
  have hsz : (⟨l.toArray⟩ : ByteArray).size = l.length := by simp [ByteArray.size]
  have := Go.Lib.run_convert_whole (P := Tryd.prog) w 58 5 9 Tryd.underlying58 Tryd.underlying5 Tryd.underlying9 b o ⟨l.toArray⟩ (fun i hi => by
    have hi' : i < l.length := by rw [← hsz]; exact hi
    obtain ⟨b2, o2, cs2, hA2, hcs2, hc2⟩ := h.get (List.getElem?_eq_getElem hi') (show 0 < RT.by8.sz by decide)
    injection hA2 with hA2
    injection hA2 with hb ho _
    subst hb; subst ho
    obtain rfl : cs2 = [.int .u8 (l[i].toNat : Int)] := hcs2
    have h3 := (hc2 0 _ rfl).c0 hH
    have h4 : o + i * RT.by8.sz + 0 = o + i := by show o + i * 1 + 0 = o + i; omega
    rw [h4] at h3
    rw [h3]
    congr 3) c
  rw [hsz] at this
  exact this
theorem refApply_any {F : MS} {p : List ByteArray} {A : Option Addr} {c : Nat} {w : World} (h : Giv F p A c) (hH : Has w F) (m : Mv) :
    Calls Tryd.prog 27 #[.slice A p.length c, m.v] w (ApRes p m w) := by
  have Hkind := hid (fun (W : World) => refKindOf_any m W)
  obtain ⟨kk, hkk⟩ : ∃ kk, kk = kindOf m := ⟨_, rfl⟩
  rw [← hkk] at Hkind
  have Hno := hid (show (isPat p = false ∨ kk < 0 ∨ m.e < -1000 ∨ 1000 < m.e ∨ m.f < -1000 ∨ 1000 < m.f) → apOk p m = false from fun h => by
    unfold apOk
    rcases h with h | h
    · rw [h]; rfl
    · rw [decide_eq_false (by rw [← hkk]; omega), Bool.and_false])
  have Hyes := hid (show isPat p = true → 0 ≤ kk → (-1000 ≤ m.e ∧ m.e ≤ 1000) → (-1000 ≤ m.f ∧ m.f ≤ 1000) → apOk p m = true from fun h1 h2 h3 h4 => by
    unfold apOk; rw [h1, decide_eq_true ⟨by rw [← hkk]; exact h2, h3, h4⟩]; rfl)
  have Hsm := hid (show 0 ≤ kk → SmallM m from fun h => kindOf_small (by rw [← hkk]; exact h))
  obtain ⟨a, b, cc, d, e, f⟩ := m
  simp only at Hno Hyes
  obtain ⟨bm, hbm⟩ : ∃ bm, bm = w.heap.size := ⟨_, rfl⟩
  obtain ⟨W1, hW1⟩ : ∃ W1, W1 = w.alloc (.cells #[.int .i64 a, .int .i64 b, .int .i64 cc, .int .i64 d, .int .i64 e, .int .i64 f] 41) := ⟨_, rfl⟩
  have HA := hid (show Has W1 (blk bm #[.int .i64 a, .int .i64 b, .int .i64 cc, .int .i64 d, .int .i64 e, .int .i64 f] 41 + MS.all w) by rw [hW1, hbm]; exact (Has.all w).alloc _)
  have HE := hid (show Ext w W1 by rw [hW1]; exact Ext.alloc w _)
  have HKp := hid (show ∀ W X, Has W (X + MS.all w) → Ext w W → Kp w W from fun W X h hE => ⟨fun M hM => hM.of_all h, hE⟩)
  have Hof := hid (pattern_any h.rd h.l h.s (hH.of_all HA.out))
  have HFW := hid (show ∀ W X, Has W (X + MS.all w) → Has W F from fun W X hW => hH.of_all hW)
  have Hrd := hid h.rd
  have Hcells := hid (show ∀ W, Has W (blk bm #[.int .i64 a, .int .i64 b, .int .i64 cc, .int .i64 d, .int .i64 e, .int .i64 f] 41 + MS.all w) → (W.cell? ⟨bm, 0, none⟩ = some (.int .i64 a) ∧ W.cell? ⟨bm, 1, none⟩ = some (.int .i64 b) ∧ W.cell? ⟨bm, 2, none⟩ = some (.int .i64 cc) ∧ W.cell? ⟨bm, 3, none⟩ = some (.int .i64 d) ∧ W.cell? ⟨bm, 4, none⟩ = some (.int .i64 e) ∧ W.cell? ⟨bm, 5, none⟩ = some (.int .i64 f)) from fun W h => ⟨h.at_ rfl, h.at_ rfl, h.at_ rfl, h.at_ rfl, h.at_ rfl, h.at_ rfl⟩)
  show Calls Tryd.prog 27 #[.slice A p.length c, .agg #[.int .i64 a, .int .i64 b, .int .i64 cc, .int .i64 d, .int .i64 e, .int .i64 f]] w _
  clear h hH hkk
  cases hp : isPat p with
  | false =>
    have hq := hid (Hno.out (.inl hp))
    rw [hp] at Hof
    clear hp
    go_enter Tryd.func27, Tryd.ntmps27
    go_wp2_with (go_at_call 20; rw [← hW1]; clear hW1 hbm; refine Hof.out.mono ?_; rintro e1 w1 ⟨rfl, q1, rfl⟩; have K1 := hid (HA.out.drewN q1); have E1 := hid (HE.out.trans (Ext.drewN _ q1)))
    go_ret2
    exact ApRes.no hq.out (HKp.out _ _ K1.out E1.out)
  | true =>
    have Hp := hid (isPat.ok hp).1
    have Hpt := hid hp
    rw [hp] at Hof
    clear hp
    by_cases hkn : kk < 0
    · have hq := hid (Hno.out (.inr (.inl hkn)))
      go_enter Tryd.func27, Tryd.ntmps27
      go_wp2_with (first
        | (go_at_call 20; rw [← hW1, ← hbm]; clear hW1 hbm; refine Hof.out.mono ?_; rintro e1 w1 ⟨rfl, q1, rfl⟩; have K1 := hid (HA.out.drewN q1); have E1 := hid (HE.out.trans (Ext.drewN _ q1)); obtain ⟨n0, n1, n2, n3, n4, n5⟩ := Hcells.out _ K1.out)
        | (go_at_call 23; refine (Hkind.out _).mono ?_; rintro e2 w2 ⟨rfl, k2⟩; have K2 := hid (k2.1 _ K1.out); have E2 := hid (E1.out.trans k2.2); clear k2; obtain ⟨p0, p1, p2, p3, p4, p5⟩ := Hcells.out w2 K2.out))
      go_ret2
      exact ApRes.no hq.out (HKp.out _ _ K2.out E2.out)
    by_cases h1 : e < -1000
    · have hq := hid (Hno.out (by omega))
      go_enter Tryd.func27, Tryd.ntmps27
      go_wp2_with (first
        | (go_at_call 20; rw [← hW1, ← hbm]; clear hW1 hbm; refine Hof.out.mono ?_; rintro e1 w1 ⟨rfl, q1, rfl⟩; have K1 := hid (HA.out.drewN q1); have E1 := hid (HE.out.trans (Ext.drewN _ q1)); obtain ⟨n0, n1, n2, n3, n4, n5⟩ := Hcells.out _ K1.out)
        | (go_at_call 23; refine (Hkind.out _).mono ?_; rintro e2 w2 ⟨rfl, k2⟩; have K2 := hid (k2.1 _ K1.out); have E2 := hid (E1.out.trans k2.2); clear k2; obtain ⟨p0, p1, p2, p3, p4, p5⟩ := Hcells.out w2 K2.out))
      go_ret2
      exact ApRes.no hq.out (HKp.out _ _ K2.out E2.out)
    by_cases h2 : 1000 < e
    · have hq := hid (Hno.out (by omega))
      go_enter Tryd.func27, Tryd.ntmps27
      go_wp2_with (first
        | (go_at_call 20; rw [← hW1, ← hbm]; clear hW1 hbm; refine Hof.out.mono ?_; rintro e1 w1 ⟨rfl, q1, rfl⟩; have K1 := hid (HA.out.drewN q1); have E1 := hid (HE.out.trans (Ext.drewN _ q1)); obtain ⟨n0, n1, n2, n3, n4, n5⟩ := Hcells.out _ K1.out)
        | (go_at_call 23; refine (Hkind.out _).mono ?_; rintro e2 w2 ⟨rfl, k2⟩; have K2 := hid (k2.1 _ K1.out); have E2 := hid (E1.out.trans k2.2); clear k2; obtain ⟨p0, p1, p2, p3, p4, p5⟩ := Hcells.out w2 K2.out))
      go_ret2
      exact ApRes.no hq.out (HKp.out _ _ K2.out E2.out)
    by_cases h3 : f < -1000
    · have hq := hid (Hno.out (by omega))
      go_enter Tryd.func27, Tryd.ntmps27
      go_wp2_with (first
        | (go_at_call 20; rw [← hW1, ← hbm]; clear hW1 hbm; refine Hof.out.mono ?_; rintro e1 w1 ⟨rfl, q1, rfl⟩; have K1 := hid (HA.out.drewN q1); have E1 := hid (HE.out.trans (Ext.drewN _ q1)); obtain ⟨n0, n1, n2, n3, n4, n5⟩ := Hcells.out _ K1.out)
        | (go_at_call 23; refine (Hkind.out _).mono ?_; rintro e2 w2 ⟨rfl, k2⟩; have K2 := hid (k2.1 _ K1.out); have E2 := hid (E1.out.trans k2.2); clear k2; obtain ⟨p0, p1, p2, p3, p4, p5⟩ := Hcells.out w2 K2.out))
      go_ret2
      exact ApRes.no hq.out (HKp.out _ _ K2.out E2.out)
    by_cases h4 : 1000 < f
    · have hq := hid (Hno.out (by omega))
      go_enter Tryd.func27, Tryd.ntmps27
      go_wp2_with (first
        | (go_at_call 20; rw [← hW1, ← hbm]; clear hW1 hbm; refine Hof.out.mono ?_; rintro e1 w1 ⟨rfl, q1, rfl⟩; have K1 := hid (HA.out.drewN q1); have E1 := hid (HE.out.trans (Ext.drewN _ q1)); obtain ⟨n0, n1, n2, n3, n4, n5⟩ := Hcells.out _ K1.out)
        | (go_at_call 23; refine (Hkind.out _).mono ?_; rintro e2 w2 ⟨rfl, k2⟩; have K2 := hid (k2.1 _ K1.out); have E2 := hid (E1.out.trans k2.2); clear k2; obtain ⟨p0, p1, p2, p3, p4, p5⟩ := Hcells.out w2 K2.out))
      go_ret2
      exact ApRes.no hq.out (HKp.out _ _ K2.out E2.out)
    have hq := hid (Hyes.out Hpt.out (by omega) (by omega) (by omega))
    have hoff := hid (show (-1000 ≤ e ∧ e ≤ 1000) ∧ (-1000 ≤ f ∧ f ≤ 1000) by omega)
    have Hsm' := hid (Hsm.out (by omega))
    have Hat := hid (fun (W : World) (hW : Has W F) (u v : Int) => show Calls Tryd.prog 49 #[.slice A p.length c, .int .i64 u, .int .i64 v] W fun e w' => e = .returned (.int .u8 ((col8 p u v).toNat : Int)) ∧ ∃ q, w' = W.drewN q from at_any Hrd.out Hp.out hW u v)
    obtain ⟨wp, hwp⟩ : ∃ wp, wp = apW p ⟨a, b, cc, d, e, f⟩ := ⟨_, rfl⟩
    obtain ⟨hp', hhp⟩ : ∃ hh, hh = apH p ⟨a, b, cc, d, e, f⟩ := ⟨_, rfl⟩
    have Hwp := hid hwp
    have Hhp := hid hhp
    have Hwh := hid (show (1 ≤ wp ∧ wp ≤ 6) ∧ (1 ≤ hp' ∧ hp' ≤ 6) by rw [hwp, hhp]; exact apWH Hp.out _)
    have hl6 : (p.length : Int) ≤ 6 := by have := Hp.out.h6; omega
    have hl1 : (0 : Int) < p.length := by have := Hp.out.h1; omega
    have hl1n : 0 < p.length := Hp.out.h1
    have hnc := Hrd.out.cells.2.1
    clear hwp hhp
    have hcase := Decidable.em (a = 0)
    rcases hcase with ha | ha
    · have hab : (a == 0) = true := by rw [ha]; rfl
      have Hw1 := hid (show p.length = wp by rw [Hwp.out]; unfold apW; rw [if_pos ha])
      have Hh1 := hid (show YteibbnmlmbhkpaaDoor.wd p = hp' by rw [Hhp.out]; unfold apH; rw [if_pos ha])
      clear ha
      go_enter Tryd.func27, Tryd.ntmps27
      go_wp2_with (first
        | (go_at_call 20; rw [← hW1, ← hbm]; clear hW1 hbm; refine Hof.out.mono ?_; rintro e1 w1 ⟨rfl, q1, rfl⟩; have K1 := hid (HA.out.drewN q1); have E1 := hid (HE.out.trans (Ext.drewN _ q1)); obtain ⟨n0, n1, n2, n3, n4, n5⟩ := Hcells.out _ K1.out)
        | (go_at_call 23; refine (Hkind.out _).mono ?_; rintro e2 w2 ⟨rfl, k2⟩; have K2 := hid (k2.1 _ K1.out); have E2 := hid (E1.out.trans k2.2); clear k2; obtain ⟨p0, p1, p2, p3, p4, p5⟩ := Hcells.out w2 K2.out; obtain ⟨b0, o0, s0, hA0, f0, hs0⟩ := Hrd.out.row0 Hp.out (HFW.out _ _ K2.out); subst hA0; have hs6 : (s0.size : Int) ≤ 6 := by have := Hp.out.w6; omega))
      rw [Hw1.out, Hh1.out]
      rw [Hw1.out] at Hat
      clear n0 n1 n2 n3 n4 n5 p0 p1 p2 p3 p4 p5 f0 hs6 K1 E1 hs0
      have K3 := hid (HKp.out _ _ K2.out E2.out)
      have HG := hid (Has.all w2)
      have HGB := hid (show ∀ W X, Has W (X + MS.all w2) → (W.cell? ⟨bm, 0, none⟩ = some (.int .i64 a) ∧ W.cell? ⟨bm, 1, none⟩ = some (.int .i64 b) ∧ W.cell? ⟨bm, 2, none⟩ = some (.int .i64 cc) ∧ W.cell? ⟨bm, 3, none⟩ = some (.int .i64 d) ∧ W.cell? ⟨bm, 4, none⟩ = some (.int .i64 e) ∧ W.cell? ⟨bm, 5, none⟩ = some (.int .i64 f)) from fun W X hW => Hcells.out W (K2.out.of_all hW))
      have HGF := hid (show ∀ W Y, Has W (Y + MS.all w2) → Has W F from fun W Y hW => (HFW.out _ _ K2.out).of_all hW)
      have HGK := hid (show ∀ W Y, Has W (Y + MS.all w2) → Ext w2 W → Kp w W from fun W Y hW hE => K3.out.trans ⟨fun M hM => hM.of_all hW, hE⟩)
      have EG := hid (Ext.refl w2)
      generalize MS.all w2 = G at *
      have hhI : (hp' : Int) ≤ 6 := by have := Hwh.out; omega
      have hwI : (wp : Int) ≤ 6 := by have := Hwh.out; omega
      clear K2 E2 K3
      go_loopw [9, 10] (fun vo v wr => ∃ y : Nat, ∃ B dd ms, y ≤ hp' ∧ v = .int .i64 y ∧ vo = .slice B y dd ∧ SlR 9 1 StrR (apL p ⟨a, b, cc, d, e, f⟩ y) (.slice B y dd) ms ∧ Has wr (ms + G) ∧ Ext w2 wr) (fun _ v _ => hp' - (intOf v).toNat)
      case atStart => exact ⟨0, none, 0, 0, Nat.zero_le _, rfl, rfl, ⟨[], 0, 0, Sl.nil _ _, RowsR.nil, by rw [MS.zero_add]⟩, HG.out.eq (by rw [MS.zero_add]), EG.out⟩
      case round =>
        obtain ⟨y, B, dd, ms, hy, rfl, rfl, hS, hW, hE⟩ := hrel
        have HS := hid hS
        have HW := hid hW
        have HE' := hid hE
        clear hS hW hE HG EG
        by_cases hlt : y < hp'
        · have hltI : (y : Int) < hp' := by omega
          have Hlt := hid hlt
          clear hlt hy
          go_wp2
          go_loopw [11, 12] (fun vr v wq => ∃ x : Nat, ∃ B2 d2 m2, x ≤ wp ∧ v = .int .i64 x ∧ vr = .slice B2 x d2 ∧ SlR 5 1 ByR (apRow p ⟨a, b, cc, d, e, f⟩ y x) (.slice B2 x d2) m2 ∧ Has wq (m2 + (ms + G)) ∧ Ext w2 wq) (fun _ v _ => wp - (intOf v).toNat)
          case atStart => exact ⟨0, none, 0, 0, Nat.zero_le _, rfl, rfl, ⟨[], 0, 0, Sl.nil _ _, RowsR.nil, by rw [MS.zero_add]⟩, HW.out.eq (by rw [MS.zero_add]), HE'.out⟩
          case round =>
            obtain ⟨x, B2, d2, m2, hx, rfl, rfl, hS2, hW2, hE2⟩ := hrel
            have HS2 := hid hS2
            have HW2 := hid hW2
            have HE2 := hid hE2
            have HWq := hid (show Has wr ((m2 + ms) + G) from hW2.eq (by ac_rfl))
            clear hS2 hW2 hE2
            by_cases hlx : x < wp
            · have hlxI : (x : Int) < wp := by omega
              have Hlx := hid hlx
              obtain ⟨n0, n1, n2, n3, n4, n5⟩ := HGB.out wr _ HWq.out
              have hy6 : (y : Int) ≤ 6 := by have := Hlt.out; omega
              have hx6 : (x : Int) ≤ 6 := by omega
              obtain ⟨u, hu⟩ : ∃ u, u = unX ⟨a, b, cc, d, e, f⟩ x y := ⟨_, rfl⟩
              obtain ⟨v, hv⟩ : ∃ v, v = unY ⟨a, b, cc, d, e, f⟩ x y := ⟨_, rfl⟩
              obtain ⟨⟨ea, eb⟩, ec, ed⟩ := hoff.out
              obtain ⟨sa, sb, sc, sd⟩ := Hsm'.out
              simp only at sa sb sc sd
              obtain ⟨xe, hxe⟩ : ∃ xe : Int, xe = x - e := ⟨_, rfl⟩
              obtain ⟨yf, hyf⟩ : ∃ yf : Int, yf = y - f := ⟨_, rfl⟩
              have r1 : -1006 ≤ xe ∧ xe ≤ 1006 := by omega
              have r2 : -1006 ≤ yf ∧ yf ≤ 1006 := by omega
              have m3 : ∀ z t : Int, -1 ≤ z ∧ z ≤ 1 → -1006 ≤ t ∧ t ≤ 1006 → -1006 ≤ z * t ∧ z * t ≤ 1006 := fun z t hz ht => by
                have : z = -1 ∨ z = 0 ∨ z = 1 := by omega
                rcases this with rfl | rfl | rfl <;> omega
              have q1 := m3 a xe sa r1
              have q2 := m3 cc yf sc r2
              have q3 := m3 b xe sb r1
              have q4 := m3 d yf sd r2
              have hu2 : u = a * xe + cc * yf := by rw [hu, hxe, hyf]; rfl
              have hv2 : v = b * xe + d * yf := by rw [hv, hxe, hyf]; rfl
              have z1 : IntKind.i64.wrap ((x : Int) - e) = xe := by rw [hxe, IntKind.wrap_i64]; omega
              have z2 : IntKind.i64.wrap ((y : Int) - f) = yf := by rw [hyf, IntKind.wrap_i64]; omega
              have z3 : wrap64 ((x : Int) - e) = xe := by rw [hxe]; unfold wrap64; omega
              have z4 : wrap64 ((y : Int) - f) = yf := by rw [hyf]; unfold wrap64; omega
              have y1 : IntKind.i64.wrap (a * xe) = a * xe := by rw [IntKind.wrap_i64]; omega
              have y2 : IntKind.i64.wrap (cc * yf) = cc * yf := by rw [IntKind.wrap_i64]; omega
              have y3 : IntKind.i64.wrap (b * xe) = b * xe := by rw [IntKind.wrap_i64]; omega
              have y4 : IntKind.i64.wrap (d * yf) = d * yf := by rw [IntKind.wrap_i64]; omega
              have y5 : IntKind.i64.wrap (a * xe + cc * yf) = u := by rw [hu2, IntKind.wrap_i64]; omega
              have y6 : IntKind.i64.wrap (b * xe + d * yf) = v := by rw [hv2, IntKind.wrap_i64]; omega
              have Hau := hid (fun (W : World) (hW : Has W F) => Hat.out W hW u v)
              obtain ⟨c8, hc8⟩ : ∃ c8, c8 = col8 p u v := ⟨_, rfl⟩
              rw [← hc8] at Hau
              have Hr2 := hid (show apRow p ⟨a, b, cc, d, e, f⟩ y (x + 1) = apRow p ⟨a, b, cc, d, e, f⟩ y x ++ [c8] by rw [apRow_succ, hc8, hu, hv])
              clear hu hv hu2 hv2 hxe hyf r1 r2 m3 q1 q2 q3 q4 sa sb sc sd ea eb ec ed hc8 hlx hx
              go_wp2
              go_quiet (fail)
              go_simp
              generalize hwd : wr.drewN _ = wd
              have HWd := hid (show Has wd (m2 + (ms + G)) by rw [← hwd]; exact HW2.out.drewN _)
              have HEd := hid (show Ext w2 wd by rw [← hwd]; exact HE2.out.trans (Ext.drewN _ _))
              clear hwd n0 n1 n2 n3 n4 n5
              have HWe := hid (show Has wd ((m2 + ms) + G) from HWd.out.eq (by ac_rfl))
              obtain ⟨n0, n1, n2, n3, n4, n5⟩ := HGB.out wd _ HWe.out
              go_wp2_with (first
                | (go_at_call 49; refine (Hau.out _ (HGF.out _ _ HWe.out)).mono ?_; rintro e7 w7 ⟨rfl, q7, rfl⟩)
                | (at_builtin; refine wpList_push rfl (.tmp 73) (.tmp 94) row58 rfl (.slice B2 x d2) rfl _ rfl rfl ByR ByR.one ByR.len (apRow p ⟨a, b, cc, d, e, f⟩ y x) c8 m2 0 (ms + G) HS2.out ⟨rfl, rfl⟩ ((HWd.out.drewN _).eq (by rw [MS.zero_add])) x (apRow_len _ _ _ _) (by have := Hlx.out; have := Hwh.out; omega) (by omega) ?_; intro A9 c9 w9 m9 j4 j5 j6; have J4 := hid j4; have J5 := hid j5; have J6 := hid ((HEd.out.trans (Ext.drewN _ _)).trans j6); clear j4 j5 j6))
              go_roundw
              case rel => exact ⟨x + 1, A9, c9, m9, Hlx.out, by go_num, rfl, by rw [Hr2.out]; exact J4.out, J5.out, J6.out⟩
              case measure => have := Hlx.out; simp [intOf]; omega
            · have hxe : x = wp := by omega
              subst hxe
              clear hlx hx
              have hrow := apRow_len p ⟨a, b, cc, d, e, f⟩ y x
              have hby : RdS (m2 + (ms + G)) RT.by8 (apRow p ⟨a, b, cc, d, e, f⟩ y x) (.slice B2 (apRow p ⟨a, b, cc, d, e, f⟩ y x).length d2) := by
                rw [hrow]
                exact (SlR.rd (R := ByR) (T := RT.by8) (fun a cs m h => h.1) HS2.out).less _
              have hconv := conv_by hby (by rw [hrow]; have := Hwh.out; omega) HW2.out
              rw [hrow, show (⟨(apRow p ⟨a, b, cc, d, e, f⟩ y x).toArray⟩ : ByteArray) = apS p ⟨a, b, cc, d, e, f⟩ y by unfold apS; rw [Hwp.out]] at hconv
              have Hl2 := hid (apL_succ p ⟨a, b, cc, d, e, f⟩ y)
              have HyI := hid (show y ≤ 6 by have := Hlt.out; have := Hwh.out; omega)
              clear hby hrow
              go_wp2_with (at_builtin; refine wpList_push rfl (.tmp 96) (.tmp 99) row22 rfl (.slice B y dd) rfl _ rfl rfl StrR StrR.one StrR.len (apL p ⟨a, b, cc, d, e, f⟩ y) (apS p ⟨a, b, cc, d, e, f⟩ y) ms 0 (m2 + G) HS.out ⟨rfl, rfl⟩ (HW2.out.eq (by rw [MS.zero_add]; ac_rfl)) y (apL_len _ _ _) (by have := HyI.out; omega) (by omega) ?_; intro A9 c9 w9 m9 j4 j5 j6; have J4 := hid j4; have J5 := hid j5; have J6 := hid (HE2.out.trans j6); clear j4 j5 j6)
              go_roundw
              case rel => exact ⟨y + 1, A9, c9, m9, Hlt.out, by go_num, rfl, by rw [Hl2.out]; exact J4.out, (J5.out.eq (b := m2 + (m9 + G)) (by ac_rfl)).right, J6.out⟩
              case measure => have := Hlt.out; simp [intOf]; omega
        · have hye : y = hp' := by omega
          subst hye
          clear hlt hy
          go_wp2
          go_ret2
          have hl : (apL p ⟨a, b, cc, d, e, f⟩ y).length = y := apL_len _ _ _
          refine ⟨B, dd, apL p ⟨a, b, cc, d, e, f⟩ y, 0, ms + G, by rw [hl]; rfl, HGK.out _ _ HW.out HE'.out, HW.out, ?_, fun _ => ⟨by rw [← Hhp.out], rfl⟩, fun h => by rw [hq.out] at h; cases h⟩
          rw [hl]
          exact (SlR.rd (R := StrR) (T := RT.str) (fun a cs m h => h.1) HS.out).less _
    · have hab : (a == 0) = false := by rw [beq_eq_false_iff_ne]; exact ha
      have Hw1 := hid (show YteibbnmlmbhkpaaDoor.wd p = wp by rw [Hwp.out]; unfold apW; rw [if_neg ha])
      have Hh1 := hid (show p.length = hp' by rw [Hhp.out]; unfold apH; rw [if_neg ha])
      clear ha
      go_enter Tryd.func27, Tryd.ntmps27
      go_wp2_with (first
        | (go_at_call 20; rw [← hW1, ← hbm]; clear hW1 hbm; refine Hof.out.mono ?_; rintro e1 w1 ⟨rfl, q1, rfl⟩; have K1 := hid (HA.out.drewN q1); have E1 := hid (HE.out.trans (Ext.drewN _ q1)); obtain ⟨n0, n1, n2, n3, n4, n5⟩ := Hcells.out _ K1.out)
        | (go_at_call 23; refine (Hkind.out _).mono ?_; rintro e2 w2 ⟨rfl, k2⟩; have K2 := hid (k2.1 _ K1.out); have E2 := hid (E1.out.trans k2.2); clear k2; obtain ⟨p0, p1, p2, p3, p4, p5⟩ := Hcells.out w2 K2.out; obtain ⟨b0, o0, s0, hA0, f0, hs0⟩ := Hrd.out.row0 Hp.out (HFW.out _ _ K2.out); subst hA0; have hs6 : (s0.size : Int) ≤ 6 := by have := Hp.out.w6; omega))
      rw [Hw1.out, Hh1.out]
      rw [Hh1.out] at Hat
      clear n0 n1 n2 n3 n4 n5 p0 p1 p2 p3 p4 p5 f0 hs6 K1 E1 hs0
      have K3 := hid (HKp.out _ _ K2.out E2.out)
      have HG := hid (Has.all w2)
      have HGB := hid (show ∀ W X, Has W (X + MS.all w2) → (W.cell? ⟨bm, 0, none⟩ = some (.int .i64 a) ∧ W.cell? ⟨bm, 1, none⟩ = some (.int .i64 b) ∧ W.cell? ⟨bm, 2, none⟩ = some (.int .i64 cc) ∧ W.cell? ⟨bm, 3, none⟩ = some (.int .i64 d) ∧ W.cell? ⟨bm, 4, none⟩ = some (.int .i64 e) ∧ W.cell? ⟨bm, 5, none⟩ = some (.int .i64 f)) from fun W X hW => Hcells.out W (K2.out.of_all hW))
      have HGF := hid (show ∀ W Y, Has W (Y + MS.all w2) → Has W F from fun W Y hW => (HFW.out _ _ K2.out).of_all hW)
      have HGK := hid (show ∀ W Y, Has W (Y + MS.all w2) → Ext w2 W → Kp w W from fun W Y hW hE => K3.out.trans ⟨fun M hM => hM.of_all hW, hE⟩)
      have EG := hid (Ext.refl w2)
      generalize MS.all w2 = G at *
      have hhI : (hp' : Int) ≤ 6 := by have := Hwh.out; omega
      have hwI : (wp : Int) ≤ 6 := by have := Hwh.out; omega
      clear K2 E2 K3
      go_loopw [9, 10] (fun vo v wr => ∃ y : Nat, ∃ B dd ms, y ≤ hp' ∧ v = .int .i64 y ∧ vo = .slice B y dd ∧ SlR 9 1 StrR (apL p ⟨a, b, cc, d, e, f⟩ y) (.slice B y dd) ms ∧ Has wr (ms + G) ∧ Ext w2 wr) (fun _ v _ => hp' - (intOf v).toNat)
      case atStart => exact ⟨0, none, 0, 0, Nat.zero_le _, rfl, rfl, ⟨[], 0, 0, Sl.nil _ _, RowsR.nil, by rw [MS.zero_add]⟩, HG.out.eq (by rw [MS.zero_add]), EG.out⟩
      case round =>
        obtain ⟨y, B, dd, ms, hy, rfl, rfl, hS, hW, hE⟩ := hrel
        have HS := hid hS
        have HW := hid hW
        have HE' := hid hE
        clear hS hW hE HG EG
        by_cases hlt : y < hp'
        · have hltI : (y : Int) < hp' := by omega
          have Hlt := hid hlt
          clear hlt hy
          go_wp2
          go_loopw [11, 12] (fun vr v wq => ∃ x : Nat, ∃ B2 d2 m2, x ≤ wp ∧ v = .int .i64 x ∧ vr = .slice B2 x d2 ∧ SlR 5 1 ByR (apRow p ⟨a, b, cc, d, e, f⟩ y x) (.slice B2 x d2) m2 ∧ Has wq (m2 + (ms + G)) ∧ Ext w2 wq) (fun _ v _ => wp - (intOf v).toNat)
          case atStart => exact ⟨0, none, 0, 0, Nat.zero_le _, rfl, rfl, ⟨[], 0, 0, Sl.nil _ _, RowsR.nil, by rw [MS.zero_add]⟩, HW.out.eq (by rw [MS.zero_add]), HE'.out⟩
          case round =>
            obtain ⟨x, B2, d2, m2, hx, rfl, rfl, hS2, hW2, hE2⟩ := hrel
            have HS2 := hid hS2
            have HW2 := hid hW2
            have HE2 := hid hE2
            have HWq := hid (show Has wr ((m2 + ms) + G) from hW2.eq (by ac_rfl))
            clear hS2 hW2 hE2
            by_cases hlx : x < wp
            · have hlxI : (x : Int) < wp := by omega
              have Hlx := hid hlx
              obtain ⟨n0, n1, n2, n3, n4, n5⟩ := HGB.out wr _ HWq.out
              have hy6 : (y : Int) ≤ 6 := by have := Hlt.out; omega
              have hx6 : (x : Int) ≤ 6 := by omega
              obtain ⟨u, hu⟩ : ∃ u, u = unX ⟨a, b, cc, d, e, f⟩ x y := ⟨_, rfl⟩
              obtain ⟨v, hv⟩ : ∃ v, v = unY ⟨a, b, cc, d, e, f⟩ x y := ⟨_, rfl⟩
              obtain ⟨⟨ea, eb⟩, ec, ed⟩ := hoff.out
              obtain ⟨sa, sb, sc, sd⟩ := Hsm'.out
              simp only at sa sb sc sd
              obtain ⟨xe, hxe⟩ : ∃ xe : Int, xe = x - e := ⟨_, rfl⟩
              obtain ⟨yf, hyf⟩ : ∃ yf : Int, yf = y - f := ⟨_, rfl⟩
              have r1 : -1006 ≤ xe ∧ xe ≤ 1006 := by omega
              have r2 : -1006 ≤ yf ∧ yf ≤ 1006 := by omega
              have m3 : ∀ z t : Int, -1 ≤ z ∧ z ≤ 1 → -1006 ≤ t ∧ t ≤ 1006 → -1006 ≤ z * t ∧ z * t ≤ 1006 := fun z t hz ht => by
                have : z = -1 ∨ z = 0 ∨ z = 1 := by omega
                rcases this with rfl | rfl | rfl <;> omega
              have q1 := m3 a xe sa r1
              have q2 := m3 cc yf sc r2
              have q3 := m3 b xe sb r1
              have q4 := m3 d yf sd r2
              have hu2 : u = a * xe + cc * yf := by rw [hu, hxe, hyf]; rfl
              have hv2 : v = b * xe + d * yf := by rw [hv, hxe, hyf]; rfl
              have z1 : IntKind.i64.wrap ((x : Int) - e) = xe := by rw [hxe, IntKind.wrap_i64]; omega
              have z2 : IntKind.i64.wrap ((y : Int) - f) = yf := by rw [hyf, IntKind.wrap_i64]; omega
              have z3 : wrap64 ((x : Int) - e) = xe := by rw [hxe]; unfold wrap64; omega
              have z4 : wrap64 ((y : Int) - f) = yf := by rw [hyf]; unfold wrap64; omega
              have y1 : IntKind.i64.wrap (a * xe) = a * xe := by rw [IntKind.wrap_i64]; omega
              have y2 : IntKind.i64.wrap (cc * yf) = cc * yf := by rw [IntKind.wrap_i64]; omega
              have y3 : IntKind.i64.wrap (b * xe) = b * xe := by rw [IntKind.wrap_i64]; omega
              have y4 : IntKind.i64.wrap (d * yf) = d * yf := by rw [IntKind.wrap_i64]; omega
              have y5 : IntKind.i64.wrap (a * xe + cc * yf) = u := by rw [hu2, IntKind.wrap_i64]; omega
              have y6 : IntKind.i64.wrap (b * xe + d * yf) = v := by rw [hv2, IntKind.wrap_i64]; omega
              have Hau := hid (fun (W : World) (hW : Has W F) => Hat.out W hW u v)
              obtain ⟨c8, hc8⟩ : ∃ c8, c8 = col8 p u v := ⟨_, rfl⟩
              rw [← hc8] at Hau
              have Hr2 := hid (show apRow p ⟨a, b, cc, d, e, f⟩ y (x + 1) = apRow p ⟨a, b, cc, d, e, f⟩ y x ++ [c8] by rw [apRow_succ, hc8, hu, hv])
              clear hu hv hu2 hv2 hxe hyf r1 r2 m3 q1 q2 q3 q4 sa sb sc sd ea eb ec ed hc8 hlx hx
              go_wp2
              go_quiet (fail)
              go_simp
              generalize hwd : wr.drewN _ = wd
              have HWd := hid (show Has wd (m2 + (ms + G)) by rw [← hwd]; exact HW2.out.drewN _)
              have HEd := hid (show Ext w2 wd by rw [← hwd]; exact HE2.out.trans (Ext.drewN _ _))
              clear hwd n0 n1 n2 n3 n4 n5
              have HWe := hid (show Has wd ((m2 + ms) + G) from HWd.out.eq (by ac_rfl))
              obtain ⟨n0, n1, n2, n3, n4, n5⟩ := HGB.out wd _ HWe.out
              go_wp2_with (first
                | (go_at_call 49; refine (Hau.out _ (HGF.out _ _ HWe.out)).mono ?_; rintro e7 w7 ⟨rfl, q7, rfl⟩)
                | (at_builtin; refine wpList_push rfl (.tmp 73) (.tmp 94) row58 rfl (.slice B2 x d2) rfl _ rfl rfl ByR ByR.one ByR.len (apRow p ⟨a, b, cc, d, e, f⟩ y x) c8 m2 0 (ms + G) HS2.out ⟨rfl, rfl⟩ ((HWd.out.drewN _).eq (by rw [MS.zero_add])) x (apRow_len _ _ _ _) (by have := Hlx.out; have := Hwh.out; omega) (by omega) ?_; intro A9 c9 w9 m9 j4 j5 j6; have J4 := hid j4; have J5 := hid j5; have J6 := hid ((HEd.out.trans (Ext.drewN _ _)).trans j6); clear j4 j5 j6))
              go_roundw
              case rel => exact ⟨x + 1, A9, c9, m9, Hlx.out, by go_num, rfl, by rw [Hr2.out]; exact J4.out, J5.out, J6.out⟩
              case measure => have := Hlx.out; simp [intOf]; omega
            · have hxe : x = wp := by omega
              subst hxe
              clear hlx hx
              have hrow := apRow_len p ⟨a, b, cc, d, e, f⟩ y x
              have hby : RdS (m2 + (ms + G)) RT.by8 (apRow p ⟨a, b, cc, d, e, f⟩ y x) (.slice B2 (apRow p ⟨a, b, cc, d, e, f⟩ y x).length d2) := by
                rw [hrow]
                exact (SlR.rd (R := ByR) (T := RT.by8) (fun a cs m h => h.1) HS2.out).less _
              have hconv := conv_by hby (by rw [hrow]; have := Hwh.out; omega) HW2.out
              rw [hrow, show (⟨(apRow p ⟨a, b, cc, d, e, f⟩ y x).toArray⟩ : ByteArray) = apS p ⟨a, b, cc, d, e, f⟩ y by unfold apS; rw [Hwp.out]] at hconv
              have Hl2 := hid (apL_succ p ⟨a, b, cc, d, e, f⟩ y)
              have HyI := hid (show y ≤ 6 by have := Hlt.out; have := Hwh.out; omega)
              clear hby hrow
              go_wp2_with (at_builtin; refine wpList_push rfl (.tmp 96) (.tmp 99) row22 rfl (.slice B y dd) rfl _ rfl rfl StrR StrR.one StrR.len (apL p ⟨a, b, cc, d, e, f⟩ y) (apS p ⟨a, b, cc, d, e, f⟩ y) ms 0 (m2 + G) HS.out ⟨rfl, rfl⟩ (HW2.out.eq (by rw [MS.zero_add]; ac_rfl)) y (apL_len _ _ _) (by have := HyI.out; omega) (by omega) ?_; intro A9 c9 w9 m9 j4 j5 j6; have J4 := hid j4; have J5 := hid j5; have J6 := hid (HE2.out.trans j6); clear j4 j5 j6)
              go_roundw
              case rel => exact ⟨y + 1, A9, c9, m9, Hlt.out, by go_num, rfl, by rw [Hl2.out]; exact J4.out, (J5.out.eq (b := m2 + (m9 + G)) (by ac_rfl)).right, J6.out⟩
              case measure => have := Hlt.out; simp [intOf]; omega
        · have hye : y = hp' := by omega
          subst hye
          clear hlt hy
          go_wp2
          go_ret2
          have hl : (apL p ⟨a, b, cc, d, e, f⟩ y).length = y := apL_len _ _ _
          refine ⟨B, dd, apL p ⟨a, b, cc, d, e, f⟩ y, 0, ms + G, by rw [hl]; rfl, HGK.out _ _ HW.out HE'.out, HW.out, ?_, fun _ => ⟨by rw [← Hhp.out], rfl⟩, fun h => by rw [hq.out] at h; cases h⟩
          rw [hl]
          exact (SlR.rd (R := StrR) (T := RT.str) (fun a cs m h => h.1) HS.out).less _
end Go.Proofs.YteibbnmlmbhkpaaDoor

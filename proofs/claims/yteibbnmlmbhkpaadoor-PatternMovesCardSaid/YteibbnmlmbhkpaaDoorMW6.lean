/-
  The walks of Smallest.
-/
import Derived.Test.YteibbnmlmbhkpaaDoorMW4
import Derived.Test.YteibbnmlmbhkpaaDoorMW5
namespace Go.Proofs.YteibbnmlmbhkpaaDoor
open Go.RowKit
set_option linter.unusedVariables false
set_option linter.unusedSimpArgs false
set_option maxHeartbeats 4000000
set_option maxRecDepth 100000

/-- A pattern cut to its first rows and columns. -/
def cutL (p : List ByteArray) (x n : Nat) : List ByteArray := (p.take n).map fun s => s.extract 0 x
theorem cutL_len {p : List ByteArray} {x n : Nat} (h : n ≤ p.length) : (cutL p x n).length = n := by unfold cutL; rw [List.length_map, List.length_take]; omega
theorem cutL_succ {p : List ByteArray} {x n : Nat} {s : ByteArray} (h : p[n]? = some s) : cutL p x (n + 1) = cutL p x n ++ [s.extract 0 x] := by
  unfold cutL; rw [take_more h, List.map_append]; rfl
/-- What Smallest hands back. -/
def SmRes (p : List ByteArray) (w : World) (e : Ending) (w' : World) : Prop :=
  ∃ A' c' l er X, e = .returned (.tuple #[.slice A' l.length c', .int .i64 er]) ∧ Kp w w' ∧ Has w' X ∧ RdS X RT.str l (.slice A' l.length c') ∧ (isPat p = true → ∃ x n, IsMin (fun n => shB p n 0) (wd p) x ∧ IsMin (fun n => shB p 0 n) p.length n ∧ l = cutL p x n ∧ er = 0) ∧ (isPat p = false → l = [] ∧ er = 2)
theorem SmRes.no {p : List ByteArray} {w w' : World} (h : isPat p = false) (k : Kp w w') : SmRes p w (.returned (.tuple #[.slice none 0 0, .int .i64 2])) w' :=
  ⟨none, 0, [], 2, MS.all w', rfl, k, Has.all _, RdS.nil _ _, fun h' => (by rw [h] at h'; cases h'), fun _ => ⟨rfl, rfl⟩⟩
theorem refSmallest_any {F : MS} {p : List ByteArray} {A : Option Addr} {c : Nat} {w : World} (h : Giv F p A c) (hH : Has w F) :
    Calls Tryd.prog 29 #[.slice A p.length c] w (SmRes p w) := by
  have Hof := hid (pattern_any h.rd h.l h.s hH)
  have Hrd := hid h.rd
  have HF := hid (show ∀ W Y, Has W (Y + MS.all w) → Has W F from fun W Y hW => hH.of_all hW)
  have HFd := hid (fun q => hH.drewN q)
  clear h hH
  cases hp : isPat p with
  | false =>
    have hq := hid hp
    rw [hp] at Hof
    clear hp
    go_enter Tryd.func29, Tryd.ntmps29
    go_wp2_with (go_at_call 20; refine Hof.out.mono ?_; rintro e1 w1 ⟨rfl, q1, rfl⟩)
    go_ret2
    exact SmRes.no hq.out (Kp.drewN (Kp.refl _) _)
  | true =>
    have hq := hid hp
    have Hp := hid (isPat.ok hp).1
    rw [hp] at Hof
    clear hp
    obtain ⟨hh, hhh⟩ : ∃ hh, hh = p.length := ⟨_, rfl⟩
    obtain ⟨ww, hww⟩ : ∃ ww, ww = wd p := ⟨_, rfl⟩
    have Hhh := hid hhh
    have Hww := hid hww
    have hh1 := hid (show 1 ≤ hh by rw [hhh]; exact Hp.out.h1)
    have hh6 := hid (show hh ≤ 6 by rw [hhh]; exact Hp.out.h6)
    have ww1 := hid (show 1 ≤ ww by rw [hww]; exact Hp.out.w1)
    have ww6 := hid (show ww ≤ 6 by rw [hww]; exact Hp.out.w6)
    have hitH := hid (show shB p 0 hh = true from (shB_iff Hp.out (by omega) (by have := hh6.out; omega)).2 (by rw [hhh]; have := Sy.perY p 1; rwa [Int.mul_one] at this))
    have hitW := hid (show shB p ww 0 = true from (shB_iff Hp.out (by have := ww6.out; omega) (by omega)).2 (by rw [hww]; have := Sy.perX p 1; rwa [Int.mul_one] at this))
    have HtrX := hid (fun (W : World) (hW : Has W F) (x : Nat) (hx : x ≤ 1000) => show Calls Tryd.prog 54 #[.slice A p.length c, .int .i64 x, .int .i64 0] W fun e w' => e = .returned (.bool (shB p x 0)) ∧ ∃ q, w' = W.drewN q from by
      have := translated_any Hrd.out Hp.out hW x 0 (by omega) (by omega)
      rw [show trB p x 0 = shB p x 0 from trB_nat Hp.out (y := 0) hx (Nat.zero_le _)] at this
      exact this)
    have HtrY := hid (fun (W : World) (hW : Has W F) (y : Nat) (hy : y ≤ 1000) => show Calls Tryd.prog 54 #[.slice A p.length c, .int .i64 0, .int .i64 y] W fun e w' => e = .returned (.bool (shB p 0 y)) ∧ ∃ q, w' = W.drewN q from by
      have := translated_any Hrd.out Hp.out hW 0 y (by omega) (by omega)
      rw [show trB p 0 y = shB p 0 y from trB_nat Hp.out (x := 0) (Nat.zero_le _) hy] at this
      exact this)
    have hnc := Hrd.out.cells.2.1
    clear hhh hww
    go_enter Tryd.func29, Tryd.ntmps29
    go_wp2_with (go_at_call 20; refine Hof.out.mono ?_; rintro e1 w1 ⟨rfl, q1, rfl⟩)
    go_loopw [4] (fun v wr => ∃ x : Nat, 1 ≤ x ∧ x ≤ ww ∧ v = .int .i64 x ∧ (∀ i, 1 ≤ i → i < x → shB p i 0 = false) ∧ ∃ q, wr = w.drewN q) (fun v _ => ww - (intOf v).toNat)
    case atStart => exact ⟨1, Nat.le_refl _, ww1.out, rfl, fun i h1 h2 => by omega, _, rfl⟩
    case round =>
      obtain ⟨x, hx1, hxw, rfl, hno, q2, rfl⟩ := hrel
      have Hx1 := hid hx1
      have Hxw := hid hxw
      have HnoX := hid hno
      have hx6 : (x : Int) ≤ 6 := by have := ww6.out; omega
      have Htr := hid (HtrX.out _ (HFd.out q2) x (by omega))
      clear hx1 hxw hno
      cases hs : shB p x 0 with
      | false =>
        rw [hs] at Htr
        have Hlt := hid (show x < ww from (Nat.lt_or_ge x ww).elim id (fun hge => by
          have hxe : x = ww := by have := Hxw.out; omega
          rw [hxe, hitW.out] at hs; cases hs))
        have Hs := hid hs
        clear hs
        go_wp2_with (go_at_call 54; refine Htr.out.mono ?_; rintro e2 w2 ⟨rfl, q3, rfl⟩)
        go_roundw
        case rel => exact ⟨x + 1, by omega, Hlt.out, by go_num, fun i h1 h2 => by
          by_cases hin : i = x
          · rw [hin]; exact Hs.out
          · exact HnoX.out i h1 (by omega), _, rfl⟩
        case measure => have := Hlt.out; simp [intOf]; omega
      | true =>
        rw [hs] at Htr
        have HX := hid (show IsMin (fun n => shB p n 0) ww x from ⟨Hx1.out, Hxw.out, HnoX.out, fun _ => hs⟩)
        clear hs Hx1 HnoX
        go_wp2_with (go_at_call 54; refine Htr.out.mono ?_; rintro e2 w2 ⟨rfl, q3, rfl⟩)
        go_loopw [5] (fun v wr => ∃ y : Nat, 1 ≤ y ∧ y ≤ hh ∧ v = .int .i64 y ∧ (∀ i, 1 ≤ i → i < y → shB p 0 i = false) ∧ ∃ q, wr = w.drewN q) (fun v _ => hh - (intOf v).toNat)
        case atStart => exact ⟨1, Nat.le_refl _, hh1.out, rfl, fun i h1 h2 => by omega, _, rfl⟩
        case round =>
          obtain ⟨y, hy1, hyh, rfl, hno, q4, rfl⟩ := hrel
          have Hy1 := hid hy1
          have Hyh := hid hyh
          have HnoY := hid hno
          have hy6 : (y : Int) ≤ 6 := by have := hh6.out; omega
          have Htr2 := hid (HtrY.out _ (HFd.out q4) y (by omega))
          clear hy1 hyh hno
          cases hs : shB p 0 y with
          | false =>
            rw [hs] at Htr2
            have Hlt := hid (show y < hh from (Nat.lt_or_ge y hh).elim id (fun hge => by
              have hye : y = hh := by have := Hyh.out; omega
              rw [hye, hitH.out] at hs; cases hs))
            have Hs := hid hs
            clear hs
            go_wp2_with (go_at_call 54; refine Htr2.out.mono ?_; rintro e2 w2 ⟨rfl, q3, rfl⟩)
            go_roundw
            case rel => exact ⟨y + 1, by omega, Hlt.out, by go_num, fun i h1 h2 => by
              by_cases hin : i = y
              · rw [hin]; exact Hs.out
              · exact HnoY.out i h1 (by omega), _, rfl⟩
            case measure => have := Hlt.out; simp [intOf]; omega
          | true =>
            rw [hs] at Htr2
            have HY := hid (show IsMin (fun n => shB p 0 n) hh y from ⟨Hy1.out, Hyh.out, HnoY.out, fun _ => hs⟩)
            clear hs Hy1 HnoY
            have HG := hid (fun q => (Has.all w).drewN q)
            have EG := hid (fun q => Ext.drewN w q)
            have HK := hid (show ∀ W Y, Has W (Y + MS.all w) → Ext w W → Kp w W from fun W Y hW hE => ⟨fun M hM => hM.of_all hW, hE⟩)
            generalize MS.all w = G at *
            go_wp2_with (go_at_call 54; refine Htr2.out.mono ?_; rintro e2 w2 ⟨rfl, q5, rfl⟩)
            go_loopw [6, 7] (fun vo v wr => ∃ n : Nat, ∃ B dd ms, n ≤ y ∧ v = .int .i64 n ∧ vo = .slice B n dd ∧ SlR 9 1 StrR (cutL p x n) (.slice B n dd) ms ∧ Has wr (ms + G) ∧ Ext w wr) (fun _ v _ => y - (intOf v).toNat)
            case atStart => exact ⟨0, none, 0, 0, Nat.zero_le _, rfl, rfl, ⟨[], 0, 0, Sl.nil _ _, RowsR.nil, by rw [MS.zero_add]⟩, (HG.out _).eq (by rw [MS.zero_add]), EG.out _⟩
            case round =>
              obtain ⟨n, B, dd, ms, hn, rfl, rfl, hS, hW, hE⟩ := hrel
              have HS := hid hS
              have HW := hid hW
              have HE := hid hE
              clear hS hW hE HG EG
              by_cases hlt : n < y
              · have hltI : (n : Int) < y := by omega
                have Hlt := hid hlt
                have hnl : n < p.length := by have := Hhh.out; have := Hyh.out; omega
                have hnlI : (n : Int) < p.length := by omega
                obtain ⟨s, hs⟩ : ∃ s, p[n]? = some s := ⟨_, List.getElem?_eq_getElem hnl⟩
                obtain ⟨b, o, hA, e3⟩ := Hrd.out.getStr hs
                subst hA
                have f3 := e3.c0 (HF.out _ _ HW.out)
                have hsz : s.size = ww := by rw [Hww.out]; exact Hp.out.rows s (List.mem_of_getElem? hs)
                have hxs : x ≤ s.size := by rw [hsz]; exact Hxw.out
                have hxsI : (x : Int) ≤ s.size := by omega
                have Hsu := hid (show cutL p x (n + 1) = cutL p x n ++ [s.extract 0 x] from cutL_succ hs)
                have Hlen := hid (show (cutL p x n).length = n from cutL_len (by omega))
                have Hn6 := hid (show n ≤ 6 by omega)
                clear hlt hn hnl e3 hs hsz
                go_wp2_with (at_builtin; refine wpList_push rfl (.tmp 28) (.tmp 35) row22 rfl (.slice B n dd) rfl _ rfl rfl StrR StrR.one StrR.len (cutL p x n) (s.extract 0 x) ms 0 G HS.out ⟨rfl, rfl⟩ (HW.out.eq (by rw [MS.zero_add])) n Hlen.out (by have := Hn6.out; omega) (by omega) ?_; intro A9 c9 w9 m9 j4 j5 j6; have J4 := hid j4; have J5 := hid j5; have J6 := hid (HE.out.trans j6); clear j4 j5 j6)
                go_roundw
                case rel => exact ⟨n + 1, A9, c9, m9, Hlt.out, by go_num, rfl, by rw [Hsu.out]; exact J4.out, J5.out, J6.out⟩
                case measure => have := Hlt.out; simp [intOf]; omega
              · have hne : n = y := by omega
                subst hne
                clear hlt hn
                go_wp2
                go_ret2
                have hl : (cutL p x n).length = n := cutL_len (by have := Hhh.out; have := Hyh.out; omega)
                refine ⟨B, dd, cutL p x n, 0, ms + G, by rw [hl]; rfl, HK.out _ _ HW.out HE.out, HW.out, ?_, fun _ => ⟨x, n, by rw [← Hww.out]; exact HX.out, by rw [← Hhh.out]; exact HY.out, rfl, rfl⟩, fun h => by rw [hq.out] at h; cases h⟩
                rw [hl]
                exact (SlR.rd (R := StrR) (T := RT.str) (fun a cs m h => h.1) HS.out).less _
theorem size60 : (Tryd.prog.info? 60).map (·.size) = some 1 := by kernel_rfl
theorem smallest_any {F : MS} {p : List ByteArray} {A : Option Addr} {c : Nat} {w : World} (h : Giv F p A c) (hH : Has w F) :
    Calls Tryd.prog 28 #[.slice A p.length c] w (SmRes p w) := by
  have Hof := hid (of_any h.rd h.l h.s hH)
  have Hrd := hid h.rd
  have HF := hid hH
  clear h hH
  cases hp : isPat p with
  | false =>
    have hq := hid hp
    rw [hp] at Hof
    clear hp
    go_enter Tryd.func28, Tryd.ntmps28
    go_wp2_with (first
      | (go_at_call 33; refine Hof.out.mono ?_; rintro e1 w1 ⟨r, rfl, k1, _⟩; have K1 := hid k1; have HA := hid (show Has (w1.alloc (.cells #[.pointer none] 60)) (blk w1.heap.size #[.pointer none] 60 + MS.all w1) from (Has.all w1).alloc _); have EA := hid (Ext.alloc w1 (.cells #[.pointer none] 60)); clear k1)
      | (refine wpList_store_blk rfl (.tmp 4) (.tmp 15) 60 rfl size60 w1.heap.size 0 (.pointer r) rfl rfl rfl #[.pointer none] 60 _ HA.out (by simp) ?_; intro w6 k1 k2; have K6 := hid (show Kp w w6 from K1.out.trans ⟨fun M hM => hM.of_all k1, EA.out.trans k2⟩); clear k1 k2))
    go_ret2
    exact SmRes.no hq.out K6.out
  | true =>
    have hq := hid hp
    have Hp := hid (isPat.ok hp).1
    rw [hp] at Hof
    clear hp
    obtain ⟨hh, hhh⟩ : ∃ hh, hh = p.length := ⟨_, rfl⟩
    obtain ⟨ww, hww⟩ : ∃ ww, ww = wd p := ⟨_, rfl⟩
    have Hhh := hid hhh
    have Hww := hid hww
    have hh1 := hid (show 1 ≤ hh by rw [hhh]; exact Hp.out.h1)
    have hh6 := hid (show hh ≤ 6 by rw [hhh]; exact Hp.out.h6)
    have ww1 := hid (show 1 ≤ ww by rw [hww]; exact Hp.out.w1)
    have ww6 := hid (show ww ≤ 6 by rw [hww]; exact Hp.out.w6)
    have HlX := hid (fun (W : World) (X : MS) (fb bx : Nat) (hf : Flo X p fb) (hx : X.at bx 0 (.pointer (some ⟨fb, 0, none⟩))) (hW : Has W X) => show Calls Tryd.prog 50 #[.int .i64 ww, .func (.func 52) #[] #[], .pointer (some ⟨bx, 0, none⟩)] W fun e w' => ∃ n : Nat, e = .returned (.int .i64 n) ∧ IsMin (fun n => shB p n 0) ww n ∧ Kp W w' from leastX_any hf Hp.out hx hW ww ww1.out ww6.out)
    have HlY := hid (fun (W : World) (X : MS) (fb bx : Nat) (hf : Flo X p fb) (hx : X.at bx 0 (.pointer (some ⟨fb, 0, none⟩))) (hW : Has W X) => show Calls Tryd.prog 50 #[.int .i64 hh, .func (.func 53) #[] #[], .pointer (some ⟨bx, 0, none⟩)] W fun e w' => ∃ n : Nat, e = .returned (.int .i64 n) ∧ IsMin (fun n => shB p 0 n) hh n ∧ Kp W w' from leastY_any hf Hp.out hx hW hh hh1.out hh6.out)
    have hnc := Hrd.out.cells.2.1
    have hlm := Hrd.out.cells.2.2.1
    clear hhh hww
    go_enter Tryd.func28, Tryd.ntmps28
    obtain ⟨b0, o0, s0, hA0, _, _⟩ := Hrd.out.row0 Hp.out HF.out
    subst hA0
    go_wp2_with (first
      | (go_at_call 50; refine (HlY.out _ F2 fb bx HFl.out Hbx.out K7.out).mono ?_; rintro e8 w8 ⟨y, rfl, hy, k8⟩; have HY := hid hy; have K8 := hid (k8.1 _ K7.out); have E8 := hid (E7.out.trans k8); have hyc : (y : Int) ≤ c := (by have := HY.out.nm; have := Hhh.out; omega); have hy6 : (y : Int) ≤ 6 := (by have := HY.out.nm; have := hh6.out; omega); clear hy k8)
      | (go_at_call 50; refine (HlX.out _ F2 fb bx HFl.out Hbx.out H6.out).mono ?_; rintro e7 w7 ⟨x, rfl, hx, k7⟩; have HX := hid hx; have K7 := hid (k7.1 _ H6.out); have E7 := hid (K6.out.trans k7); clear hx k7; obtain ⟨g0, g1, g2⟩ := Hfb.out w7 K7.out)
      | (go_at_call 33; refine Hof.out.mono ?_; rintro e1 w1 ⟨r, rfl, k1, kf⟩; obtain ⟨fb, X, rfl, kX, kF⟩ := kf rfl; have K1 := hid k1; have KX := hid kX; have KF := hid kF; have HA := hid (show Has (w1.alloc (.cells #[.pointer none] 60)) (blk w1.heap.size #[.pointer none] 60 + MS.all w1) from (Has.all w1).alloc _); have EA := hid (Ext.alloc w1 (.cells #[.pointer none] 60)); clear k1 kX kF kf)
      | (refine wpList_store_blk rfl (.tmp 4) (.tmp 15) 60 rfl size60 w1.heap.size 0 (.pointer (some ⟨fb, 0, none⟩)) rfl rfl rfl #[.pointer none] 60 _ HA.out (by simp) ?_; intro w6 k1 k2; have H6 := hid (show Has w6 (blk w1.heap.size #[.pointer (some ⟨fb, 0, none⟩)] 60 + MS.all w1) from k1); have K6 := hid (show Kp w w6 from K1.out.trans ⟨fun M hM => hM.of_all k1, EA.out.trans k2⟩); have HFl := hid (show Flo (blk w1.heap.size #[.pointer (some ⟨fb, 0, none⟩)] 60 + MS.all w1) p fb from (KF.out.all KX.out).more _); have Hbx := hid (show MS.at (blk w1.heap.size #[.pointer (some ⟨fb, 0, none⟩)] 60 + MS.all w1) w1.heap.size 0 (.pointer (some ⟨fb, 0, none⟩)) from (blk_at (cs := #[.pointer (some ⟨fb, 0, none⟩)]) (e := 60) (i := 0) rfl).less (MS.all w1)); clear k1 k2 HA EA Hof KX KF K1; generalize blk w1.heap.size #[.pointer (some ⟨fb, 0, none⟩)] 60 + MS.all w1 = F2 at *; generalize w1.heap.size = bx at *; have Hfb := hid (show ∀ W, Has W F2 → (W.cell? ⟨bx, 0, none⟩ = some (.pointer (some ⟨fb, 0, none⟩)) ∧ W.cell? ⟨fb, 0, none⟩ = some (.int .i64 ww) ∧ W.cell? ⟨fb, 1, none⟩ = some (.int .i64 hh)) from fun W hW => Exists.elim HFl.out fun A2 h => Exists.elim h fun c2 g => ⟨Hbx.out.c0 hW, by rw [Hww.out]; exact g.1.c0 hW, by rw [Hhh.out]; exact g.2.1.c0 hW⟩); obtain ⟨f0, f1, f2⟩ := Hfb.out w6 H6.out))
    have HG := hid (Has.all w8)
    have EG := hid (Ext.refl w8)
    have HFW := hid (show ∀ W Y, Has W (Y + MS.all w8) → Has W F from fun W Y hW => (E8.out.1 _ HF.out).of_all hW)
    have HK := hid (show ∀ W Y, Has W (Y + MS.all w8) → Ext w8 W → Kp w W from fun W Y hW hE => E8.out.trans ⟨fun M hM => hM.of_all hW, hE⟩)
    generalize MS.all w8 = G at *
    clear f0 f1 f2 g0 g1 g2 Hfb H6 K6 K7 E7 K8 E8 HlX HlY hyc
    go_loopw [9, 36] (fun vo v wr => ∃ n : Nat, ∃ B dd ms, n ≤ y ∧ v = .int .i64 n ∧ vo = .slice B n dd ∧ SlR 9 1 StrR (cutL p x n) (.slice B n dd) ms ∧ Has wr (ms + G) ∧ Ext w8 wr) (fun _ v _ => y - (intOf v).toNat)
    case atStart => exact ⟨0, none, 0, 0, Nat.zero_le _, rfl, rfl, ⟨[], 0, 0, Sl.nil _ _, RowsR.nil, by rw [MS.zero_add]⟩, HG.out.eq (by rw [MS.zero_add]), EG.out⟩
    case round =>
      obtain ⟨n, B, dd, ms, hn, rfl, rfl, hS, hW, hE⟩ := hrel
      have HS := hid hS
      have HW := hid hW
      have HE := hid hE
      clear hS hW hE HG EG
      by_cases hlt : n < y
      · have hltI : (n : Int) < y := by omega
        have Hlt := hid hlt
        have hnl : n < p.length := by have := Hhh.out; have := HY.out.nm; omega
        obtain ⟨s, hs⟩ : ∃ s, p[n]? = some s := ⟨_, List.getElem?_eq_getElem hnl⟩
        obtain ⟨b, o, hA, e3⟩ := Hrd.out.getStr hs
        injection hA with hA
        injection hA with hb ho _
        subst hb
        subst ho
        have f3 := e3.c0 (HFW.out _ _ HW.out)
        have hsz : s.size = ww := by rw [Hww.out]; exact Hp.out.rows s (List.mem_of_getElem? hs)
        have hxs : x ≤ s.size := by rw [hsz]; exact HX.out.nm
        have hxsI : (x : Int) ≤ s.size := by omega
        have Hsu := hid (show cutL p x (n + 1) = cutL p x n ++ [s.extract 0 x] from cutL_succ hs)
        have Hlen := hid (show (cutL p x n).length = n from cutL_len (by omega))
        have Hn6 := hid (show n ≤ 6 by omega)
        clear hlt hn hnl e3 hs hsz
        go_wp2_with (at_builtin; refine wpList_push rfl (.tmp 40) (.tmp 44) row22 rfl (.slice B n dd) rfl _ rfl rfl StrR StrR.one StrR.len (cutL p x n) (s.extract 0 x) ms 0 G HS.out ⟨rfl, rfl⟩ (HW.out.eq (by rw [MS.zero_add])) n Hlen.out (by have := Hn6.out; omega) (by omega) ?_; intro A9 c9 w9 m9 j4 j5 j6; have J4 := hid j4; have J5 := hid j5; have J6 := hid (HE.out.trans j6); clear j4 j5 j6)
        go_roundw
        case rel => exact ⟨n + 1, A9, c9, m9, Hlt.out, by go_num, rfl, by rw [Hsu.out]; exact J4.out, J5.out, J6.out⟩
        case measure => have := Hlt.out; simp [intOf]; omega
      · have hne : n = y := by omega
        subst hne
        clear hlt hn
        go_wp2
        go_ret2
        have hl : (cutL p x n).length = n := cutL_len (by have := Hhh.out; have := HY.out.nm; omega)
        refine ⟨B, dd, cutL p x n, 0, ms + G, by rw [hl]; rfl, HK.out _ _ HW.out HE.out, HW.out, ?_, fun _ => ⟨x, n, by rw [← Hww.out]; exact HX.out, by rw [← Hhh.out]; exact HY.out, rfl, rfl⟩, fun h => by rw [hq.out] at h; cases h⟩
        rw [hl]
        exact (SlR.rd (R := StrR) (T := RT.str) (fun a cs m h => h.1) HS.out).less _
end Go.Proofs.YteibbnmlmbhkpaaDoor

/-
  The walks of name's closure, centres.
-/
import Derived.Test.YteibbnmlmbhkpaaDoorPW10
namespace Go.Proofs.YteibbnmlmbhkpaaDoor
open Go.RowKit
set_option linter.unusedVariables false
set_option linter.unusedSimpArgs false
set_option maxHeartbeats 2000000
set_option maxRecDepth 100000

/-- The two flags. -/
def Flg (bn bs : Nat) (n s : Bool) (F : MS) : MS := blk bn #[.bool n] 4 + (blk bs #[.bool s] 4 + F)
def FlgSt (bn bs : Nat) (F : MS) (on no : Prop) (W : World) : Prop := ∃ n s : Bool, (n = false ↔ on) ∧ (s = false ↔ no) ∧ Has W (Flg bn bs n s F)
theorem name1_any {F : MS} {p : List ByteArray} {g : Gd} {lb bl bn bs : Nat} {n s : Bool} {w : World} (h : Lns F p g lb) (hb : F.at bl 0 (.pointer (some ⟨lb, 0, none⟩))) (x y : Int) (hx : -200 ≤ x ∧ x ≤ 200) (hy : -200 ≤ y ∧ y ≤ 200) (hH : Has w (Flg bn bs n s F)) :
    Calls Tryd.prog 67 #[.int .i64 x, .int .i64 y, .pointer (some ⟨bl, 0, none⟩), .pointer (some ⟨bn, 0, none⟩), .pointer (some ⟨bs, 0, none⟩)] w fun e w' => e = .returned (.tuple #[]) ∧ FlgSt bn bs F (n = false ∨ onP p g x y) (s = false ∨ ¬ onP p g x y) w' ∧ Ext w w' := by
  have HF : Has w F := hH.right.right
  have f0 := hb.c0 HF
  have Hon := hid (fun (W : World) (hW : Has W F) => on_any h x y hx hy hW)
  have HH := hid hH
  clear h hb hx hy hH
  go_enter Tryd.func67, Tryd.ntmps67
  have HF2 := hid HF
  clear HF
  go_wp2_with (first
    | (go_at_call 68; refine (Hon.out _ HF2.out).mono ?_; rintro e1 w1 ⟨⟨q, rfl, hq⟩, hw⟩; rw [hw]; have Hq := hid hq; clear hw hq)
    | (refine wpList_store_blk rfl (.tmp 3) (.const (.bool false)) 4 rfl size4 bn 0 (.bool false) rfl rfl rfl #[.bool n] 4 _ HH.out (by simp) ?_; intro w6 k1 k2; have K6 := hid k1; have E6 := hid k2; clear k1 k2)
    | (refine wpList_store_blk rfl (.tmp 4) (.const (.bool false)) 4 rfl size4 bs 0 (.bool false) rfl rfl rfl #[.bool s] 4 (blk bn #[.bool n] 4 + F) (HH.out.eq (by unfold Flg; ac_rfl)) (by simp) ?_; intro w6 k1 k2; have K6 := hid k1; have E6 := hid k2; clear k1 k2))
  · rename_i hqt
    refine bodyPost_end (results_none rfl _ _ _) rfl ⟨rfl, ⟨false, s, ⟨fun _ => .inr (Hq.out.1 hqt), fun _ => rfl⟩, ⟨fun h => .inl h, fun h => h.elim id fun h => absurd (Hq.out.1 hqt) h⟩, K6.out⟩, E6.out⟩
  · rename_i hqf
    have hno : ¬ onP p g x y := fun h => by have := Hq.out.2 h; rw [this] at hqf; simp at hqf
    refine bodyPost_end (results_none rfl _ _ _) rfl ⟨rfl, ⟨n, false, ⟨fun h => .inl h, fun h => h.elim id fun h => absurd h hno⟩, ⟨fun _ => .inr hno, fun _ => rfl⟩, K6.out.eq (by unfold Flg; show blk bs _ 4 + (blk bn _ 4 + F) = _; ac_rfl)⟩, E6.out⟩
/-- The centres near the middle. -/
def in12 (e : Int) : Prop := -12 ≤ e ∧ e ≤ 12
def ctX (k : Nat) (e f : Int) : Int := if k = 2 then e else e - f
def ctY (k : Nat) (e f : Int) : Int := if k = 2 then f else e + f
def cOn (p : List ByteArray) (g : Gd) (k : Nat) (pr : Int → Int → Prop) (e f : Int) : Prop := in12 e ∧ in12 f ∧ hasB p g k e f = true ∧ pr (ctX k e f) (ctY k e f)
def ctr (p : List ByteArray) (g : Gd) (k : Nat) (pr : Int → Int → Prop) : Prop := ∃ e f, cOn p g k pr e f
theorem seen12_start {p : List ByteArray} {g : Gd} {k : Nat} {pr : Int → Int → Prop} : ¬ seenC (cOn p g k pr) (-12) (-12) := fun ⟨e', f', h1, h2, h3, h4⟩ => by
  have a := h4.1
  have b := h4.2.1
  unfold in12 at a b
  omega
theorem seen12_row {p : List ByteArray} {g : Gd} {k : Nat} {pr : Int → Int → Prop} {e : Int} : seenC (cOn p g k pr) e 13 ↔ seenC (cOn p g k pr) (e + 1) (-12) := by
  constructor
  · rintro ⟨e', f', h1, h2, h3, h4⟩
    exact ⟨e', f', h1, h2, by omega, h4⟩
  · rintro ⟨e', f', h1, h2, h3, h4⟩
    have a := h4.1
    have b := h4.2.1
    unfold in12 at a b
    exact ⟨e', f', h1, h2, by omega, h4⟩
theorem seen12_end {p : List ByteArray} {g : Gd} {k : Nat} {pr : Int → Int → Prop} : seenC (cOn p g k pr) 13 (-12) ↔ ctr p g k pr := by
  constructor
  · rintro ⟨e', f', h1, h2, h3, h4⟩
    exact ⟨e', f', h4⟩
  · rintro ⟨e', f', h4⟩
    have a := h4.1
    have b := h4.2.1
    unfold in12 at a b
    exact ⟨e', f', by unfold inR; omega, by unfold inR; omega, by omega, h4⟩
theorem centres_any {F : MS} {p : List ByteArray} {g : Gd} {gb lb bl bn bs : Nat} {w : World} (h : PGr F p g gb) (hk : KinOk F) (hl : Lns F p g lb) (hb : F.at bl 0 (.pointer (some ⟨lb, 0, none⟩))) (k : Nat) (hk12 : k = 1 ∨ k = 2) (hH : Has w (Flg bn bs true true F)) :
    Calls Tryd.prog 66 #[.pointer (some ⟨gb, 0, none⟩), .int .i64 k, .func (.func 67) #[] #[.pointer (some ⟨bl, 0, none⟩), .pointer (some ⟨bn, 0, none⟩), .pointer (some ⟨bs, 0, none⟩)]] w fun e w' => e = .returned (.tuple #[]) ∧ FlgSt bn bs F (ctr p g k (onP p g)) (ctr p g k fun x y => ¬ onP p g x y) w' ∧ Ext w w' := by
  have Hg := hid h
  have Hk := hid hk
  have HH := hid hH
  have Hname := hid (fun (n s : Bool) (x y : Int) (hx : -200 ≤ x ∧ x ≤ 200) (hy : -200 ≤ y ∧ y ≤ 200) (W : World) (hW : Has W (Flg bn bs n s F)) => name1_any hl hb x y hx hy hW)
  have hk8 : k < 8 := by omega
  have hkI : (k : Int) < 8 := by omega
  have H12 := hid hk12
  have hm1 : ∀ e f, in12 e → in12 f → -1000 ≤ (knd k e f).e ∧ (knd k e f).e ≤ 1000 ∧ -1000 ≤ (knd k e f).f ∧ (knd k e f).f ≤ 1000 := fun e f he hf => by
    unfold in12 at he hf
    simp only [knd]
    omega
  have HHas := hid (fun (e f : Int) (he : in12 e) (hf : in12 f) (W : World) (hW : Has W F) => has_any h k hk8 (knd k e f) (by have := hm1 e f he hf; exact ⟨this.1, this.2.1⟩) (by have := hm1 e f he hf; exact ⟨this.2.2.1, this.2.2.2⟩) W hW)
  have Hkk := hid (kinds_at k hk8)
  obtain ⟨ka, kb, kc, kd, hknd⟩ := knd_eq k
  have Hknd := hid hknd
  clear h hk hl hb hH hm1 hknd hk12
  have H0 := hid (show FlgSt bn bs F (seenC (cOn p g k (onP p g)) (-12) (-12)) (seenC (cOn p g k fun x y => ¬ onP p g x y) (-12) (-12)) w from ⟨true, true, ⟨fun h => absurd h (by decide), fun h => absurd h seen12_start⟩, ⟨fun h => absurd h (by decide), fun h => absurd h seen12_start⟩, HH.out⟩)
  clear HH
  go_enter Tryd.func66, Tryd.ntmps66
  go_wp2
  go_loopw [6] (fun v wq => ∃ e : Int, -12 ≤ e ∧ e ≤ 13 ∧ v = .int .i64 e ∧ FlgSt bn bs F (seenC (cOn p g k (onP p g)) e (-12)) (seenC (cOn p g k fun x y => ¬ onP p g x y) e (-12)) wq ∧ Ext w wq) (fun v _ => (13 - intOf v).toNat)
  case atStart => exact ⟨-12, by omega, by omega, rfl, H0.out, Ext.refl _⟩
  case round =>
    obtain ⟨e, hel, heu, rfl, hSt, hE⟩ := hrel
    have HSt := hid hSt
    have HE := hid hE
    clear hSt hE H0
    by_cases hlt : e ≤ 12
    · have Hel := hid hel
      have Heu := hid hlt
      have HinE := hid (show in12 e from ⟨hel, hlt⟩)
      clear heu
      go_wp2
      go_loopw [7] (fun v wq => ∃ f : Int, -12 ≤ f ∧ f ≤ 13 ∧ v = .int .i64 f ∧ FlgSt bn bs F (seenC (cOn p g k (onP p g)) e f) (seenC (cOn p g k fun x y => ¬ onP p g x y) e f) wq ∧ Ext w wq) (fun v _ => (13 - intOf v).toNat)
      case atStart => exact ⟨-12, by omega, by omega, rfl, HSt.out, HE.out⟩
      case round =>
        clear HSt HE
        obtain ⟨f, hfl, hfu, rfl, hSt, hE⟩ := hrel
        have HE := hid hE
        by_cases hltf : f ≤ 12
        · have Hfl := hid hfl
          have Hfu := hid hltf
          have HinF := hid (show in12 f from ⟨hfl, hltf⟩)
          obtain ⟨n, s, hn, hs, hW⟩ := hSt
          have Hn := hid hn
          have Hs := hid hs
          have HW := hid hW
          clear hfu hn hs hW hE
          have hk00 := Hknd.out 0 0
          have hkk : kinds[k]? = some ⟨ka, kb, kc, kd, 0, 0⟩ := by rw [Hkk.out, hk00]
          have HF0 : Has wr F := HW.out.right.right
          have m0 := (Hk.out k _ hkk 0 _ rfl).c0 HF0
          rw [Nat.add_zero] at m0
          have m1 := (Hk.out k _ hkk 1 _ rfl).c0 HF0
          have m2 := (Hk.out k _ hkk 2 _ rfl).c0 HF0
          have m3 := (Hk.out k _ hkk 3 _ rfl).c0 HF0
          have m4 := (Hk.out k _ hkk 4 _ rfl).c0 HF0
          have m5 := (Hk.out k _ hkk 5 _ rfl).c0 HF0
          clear HF0 hk00 hkk
          have HW3 := hid (show Has (wr.alloc (.cells #[.int .i64 ka, .int .i64 kb, .int .i64 kc, .int .i64 kd, .int .i64 e, .int .i64 f] 41)) (blk wr.heap.size #[.int .i64 ka, .int .i64 kb, .int .i64 kc, .int .i64 kd, .int .i64 e, .int .i64 f] 41 + Flg bn bs n s F) from HW.out.alloc _)
          have HE3 := hid (HE.out.trans (Ext.alloc wr (.cells #[.int .i64 ka, .int .i64 kb, .int .i64 kc, .int .i64 kd, .int .i64 e, .int .i64 f] 41)))
          have Hhas := hid (HHas.out e f HinE.out HinF.out _ HW3.out.right.right.right)
          rw [Hknd.out e f] at Hhas
          simp only at Hhas
          obtain ⟨q, hq⟩ : ∃ q, q = hasB p g k e f := ⟨_, rfl⟩
          rw [← hq] at Hhas
          have Hq := hid hq
          have hinR : inR e ∧ inR f := by
            have a := HinE.out
            have b := HinF.out
            unfold in12 at a b
            unfold inR
            omega
          have HinR := hid hinR
          have hwm : IntKind.i64.wrap (e - f) = e - f := by rw [IntKind.wrap_i64]; omega
          have hwp : IntKind.i64.wrap (e + f) = e + f := by rw [IntKind.wrap_i64]; omega
          clear hq hinR
          cases q with
          | false =>
            go_wp2_with (go_at_call 89; refine Hhas.out.mono ?_; rintro e5 w5 ⟨rfl, k5⟩; have K5 := hid (k5.1 _ HW3.out); have E5 := hid (HE3.out.trans k5.2); clear k5)
            go_roundw
            case rel => exact ⟨f + 1, by have := Hfl.out; omega, by have := Hfu.out; omega, by go_num, ⟨n, s, by rw [Hn.out, seenC_next HinR.out.1 HinR.out.2]; exact ⟨fun h => .inl h, fun h => h.elim id fun h => by have := h.2.2.1; rw [← Hq.out] at this; cases this⟩, by rw [Hs.out, seenC_next HinR.out.1 HinR.out.2]; exact ⟨fun h => .inl h, fun h => h.elim id fun h => by have := h.2.2.1; rw [← Hq.out] at this; cases this⟩, K5.out.right⟩, E5.out⟩
            case measure => have := Hfu.out; simp [intOf]; omega
          | true =>
            have Hc := hid (fun (W : World) (hW : Has W (Flg bn bs n s F)) => Hname.out n s (ctX k e f) (ctY k e f) (by have a := HinE.out; have b := HinF.out; unfold in12 at a b; unfold ctX; split <;> omega) (by have a := HinE.out; have b := HinF.out; unfold in12 at a b; unfold ctY; split <;> omega) W hW)
            have Hfin := hid (show ∀ (W : World) (X : MS), FlgSt bn bs F (n = false ∨ onP p g (ctX k e f) (ctY k e f)) (s = false ∨ ¬ onP p g (ctX k e f) (ctY k e f)) W → FlgSt bn bs F (seenC (cOn p g k (onP p g)) e (f + 1)) (seenC (cOn p g k fun x y => ¬ onP p g x y) e (f + 1)) W from fun W X hh => by
              obtain ⟨n', s', a1, a2, a3⟩ := hh
              refine ⟨n', s', ?_, ?_, a3⟩
              · rw [a1, Hn.out, seenC_next HinR.out.1 HinR.out.2]
                exact ⟨fun h => h.elim .inl fun h => .inr ⟨HinE.out, HinF.out, Hq.out.symm, h⟩, fun h => h.elim .inl fun h => .inr h.2.2.2⟩
              · rw [a2, Hs.out, seenC_next HinR.out.1 HinR.out.2]
                exact ⟨fun h => h.elim .inl fun h => .inr ⟨HinE.out, HinF.out, Hq.out.symm, h⟩, fun h => h.elim .inl fun h => .inr h.2.2.2⟩)
            by_cases hk2 : k = 2
            · have hx : ctX k e f = e := by unfold ctX; rw [if_pos hk2]
              have hy : ctY k e f = f := by unfold ctY; rw [if_pos hk2]
              rw [hx, hy] at Hc Hfin
              have hdec : ((k : Int) == 2) = true := by rw [beq_iff_eq]; omega
              clear hk2 hx hy
              go_wp2_with (first
                | (go_at_call 89; refine Hhas.out.mono ?_; rintro e5 w5 ⟨rfl, k5⟩; have K5 := hid (k5.1 _ HW3.out); have E5 := hid (HE3.out.trans k5.2); clear k5)
                | (go_at_call 67; refine (Hc.out _ K5.out.right).mono ?_; rintro e6 w6 ⟨rfl, k6, k7⟩; have K6 := hid k6; have E6 := hid (E5.out.trans k7); clear k6 k7))
              go_roundw
              case rel => exact ⟨f + 1, by have := Hfl.out; omega, by have := Hfu.out; omega, by go_num, Hfin.out _ 0 K6.out, E6.out⟩
              case measure => have := Hfu.out; simp [intOf]; omega
            · have hx : ctX k e f = e - f := by unfold ctX; rw [if_neg hk2]
              have hy : ctY k e f = e + f := by unfold ctY; rw [if_neg hk2]
              rw [hx, hy] at Hc Hfin
              have hkI2 : ¬ (k : Int) = 2 := by omega
              have hdec : ((k : Int) == 2) = false := by rw [beq_eq_false_iff_ne]; exact hkI2
              clear hk2 hx hy
              go_wp2_with (first
                | (go_at_call 89; refine Hhas.out.mono ?_; rintro e5 w5 ⟨rfl, k5⟩; have K5 := hid (k5.1 _ HW3.out); have E5 := hid (HE3.out.trans k5.2); clear k5)
                | (go_at_call 67; refine (Hc.out _ K5.out.right).mono ?_; rintro e6 w6 ⟨rfl, k6, k7⟩; have K6 := hid k6; have E6 := hid (E5.out.trans k7); clear k6 k7))
              go_roundw
              case rel => exact ⟨f + 1, by have := Hfl.out; omega, by have := Hfu.out; omega, by go_num, Hfin.out _ 0 K6.out, E6.out⟩
              case measure => have := Hfu.out; simp [intOf]; omega
        · have hf13 : f = 13 := by omega
          subst hf13
          have HSt := hid hSt
          clear hltf hfl hfu hSt hE
          go_wp2
          go_roundw
          case rel => exact ⟨e + 1, by have := Hel.out; omega, by have := Heu.out; omega, by go_num, by rw [← seen12_row, ← seen12_row]; exact HSt.out, HE.out⟩
          case measure => have := Heu.out; simp [intOf]; omega
    · have he13 : e = 13 := by omega
      subst he13
      clear hlt hel heu
      go_wp2
      refine bodyPost_end (results_none rfl _ _ _) rfl ⟨rfl, ?_, HE.out⟩
      have := HSt.out
      rw [seen12_end, seen12_end] at this
      exact this
end Go.Proofs.YteibbnmlmbhkpaaDoor

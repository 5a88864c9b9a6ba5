/-
  The walks of the reference's mate, order, many, Before; of short.
-/
import Derived.Test.YtnkgfgkgepadhaaBefores
import Derived.Test.YtnkgfgkgepadhaaClk3
namespace Go.Proofs.Ytnkgfgkgepadhaa
open Go.RowKit
set_option linter.unusedVariables false
set_option linter.unusedSimpArgs false
set_option maxHeartbeats 4000000
set_option maxRecDepth 100000

/-- What was there is there. -/
def Kp (w w' : World) : Prop := (∀ M, Has w M → Has w' M) ∧ Ext w w'
theorem Kp.refl (w : World) : Kp w w := ⟨fun _ h => h, Ext.refl w⟩
theorem Kp.trans {a b c : World} (h : Kp a b) (k : Kp b c) : Kp a c := ⟨fun M hM => k.1 M (h.1 M hM), h.2.trans k.2⟩
theorem Kp.drewN {a b : World} (h : Kp a b) (n : Nat) : Kp a (b.drewN n) := ⟨fun M hM => (h.1 M hM).drewN n, h.2.trans (Ext.drewN _ _)⟩
theorem Kp.drew {a b : World} (h : Kp a b) : Kp a b.drew := ⟨fun M hM => (h.1 M hM).drew, h.2.trans (Ext.drew _)⟩

/-! ### Plain -/
def smB (l : List Ev) (i j : Nat) : Bool := (l.getD j dfEv).what == 2 && ((l.getD j dfEv).station == (l.getD i dfEv).other && (l.getD j dfEv).other == (l.getD i dfEv).station)
def mtK (l : List Ev) (i : Nat) : Nat → Int
  | 0 => rcN l i i
  | j + 1 => if smB l i j then mtK l i j - 1 else mtK l i j
def mateP (l : List Ev) (i j : Nat) : Bool := smB l i j && mtK l i j == 0
/-- What sent what event i received; -1: none. -/
def mateI (l : List Ev) (i : Nat) : Int := match (List.range i).find? (mateP l i) with | some j => (j : Int) | none => -1
theorem mateI_hit {l : List Ev} {i j : Nat} (hj : j < i) (h : mateP l i j = true) (hno : ∀ k, k < j → mateP l i k = false) : mateI l i = j := by
  unfold mateI
  rw [List.find?_range_eq_some.2 ⟨h, List.mem_range.2 hj, fun k hk => by rw [hno k hk]; rfl⟩]
theorem mateI_none {l : List Ev} {i : Nat} (hno : ∀ k, k < i → mateP l i k = false) : mateI l i = -1 := by
  unfold mateI
  rw [List.find?_range_eq_none.2 (fun k hk => by rw [hno k hk]; rfl)]
theorem mtK_bound (l : List Ev) (i : Nat) : ∀ j : Nat, -(j : Int) ≤ mtK l i j ∧ mtK l i j ≤ i
  | 0 => by have := rcN_bound l i i; simp only [mtK]; omega
  | j + 1 => by
    have := mtK_bound l i j
    unfold mtK
    split <;> omega

theorem mate_any {F : MS} {l : List Ev} {A : Option Addr} {k c i : Nat} {w : World} (hr : RdS F RT.ev l (.slice A k c)) (hH : Has w F) (hl : l.length ≤ 1000) (hi : i < l.length) :
    Calls Try.prog 82 #[.slice A k c, .int .i64 i] w fun e w' => e = .returned (.int .i64 (mateI l i)) ∧ ∃ m, w' = w.drewN m := by
  obtain ⟨rfl, _⟩ := hr.cells
  obtain ⟨bl, ol, hA, hcell⟩ := evAt hr
  have hA1 := hA (by omega)
  subst hA1
  have Hcell := hid hcell
  have HH := hid hH
  have Hi := hid hi
  have Hei := hid (hcell i hi)
  have lI : (l.length : Int) ≤ 1000 := by omega
  have hil : (i : Int) < l.length := by omega
  have hi0 : (0 : Int) ≤ (i : Int) := by omega
  clear hcell hH hA hr hi
  go_enter Try.func82, Try.ntmps82
  go_wp2
  go_loopw [5, 6] (fun vk v wq => ∃ j : Nat, j ≤ i ∧ v = .int .i64 j ∧ vk = .int .i64 (rcN l i j) ∧ ∃ m, wq = w.drewN m) (fun _ v _ => i - (intOf v).toNat)
  case atStart => exact ⟨0, Nat.zero_le _, rfl, rfl, ⟨0, rfl⟩⟩
  case round =>
    obtain ⟨j, hj, rfl, rfl, m, rfl⟩ := hrel
    by_cases hlj : j < i
    · have Hej := Hcell.out j (by have := Hi.out; omega)
      have hF := HH.out
      have f0 := Hej.c0.c0 hF
      have f1 := Hej.c1.c0 hF
      have f2 := Hej.c2.c0 hF
      have g0 := Hei.out.c0.c0 hF
      have g2 := Hei.out.c2.c0 hF
      have hjI : (j : Int) < i := by omega
      have hjl : (j : Int) < l.length := by omega
      have hj0 : (0 : Int) ≤ (j : Int) := by omega
      obtain ⟨kb1, kb2⟩ := rcN_bound l i j
      have hw1 : IntKind.i64.wrap (rcN l i j + 1) = rcN l i j + 1 := by rw [IntKind.wrap_i64]; omega
      have Hn := hid (show rcN l i (j + 1) = if rcB l i j then rcN l i j + 1 else rcN l i j from rfl)
      have Hb := hid (show rcB l i j = ((l.getD j dfEv).what == 3 && ((l.getD j dfEv).station == (l.getD i dfEv).station && (l.getD j dfEv).other == (l.getD i dfEv).other)) from rfl)
      clear hF Hej
      generalize rcB l i j = rb at *
      generalize rcN l i j = kn at *
      generalize (l.getD j dfEv).what = wj at *
      generalize (l.getD j dfEv).station = sj at *
      generalize (l.getD j dfEv).other = oj at *
      generalize (l.getD i dfEv).station = si at *
      generalize (l.getD i dfEv).other = oi at *
      have Hlj := hid hlj
      clear hlj
      cases h1 : (wj == 3) with
      | false =>
        go_wp2
        go_quiet (fail)
        go_wp2
        go_roundw
        case rel => exact ⟨j + 1, Hlj.out, by go_num, by rw [Hn.out, Hb.out, h1]; rfl, ⟨_, rfl⟩⟩
        case measure => have := Hlj.out; simp [intOf]; omega
      | true =>
        obtain rfl := eq_of_beq h1
        cases h2 : (sj == si) with
        | false =>
          go_wp2
          go_quiet (fail)
          go_wp2
          go_roundw
          case rel => exact ⟨j + 1, Hlj.out, by go_num, by rw [Hn.out, Hb.out, h2]; rfl, ⟨_, rfl⟩⟩
          case measure => have := Hlj.out; simp [intOf]; omega
        | true =>
          obtain rfl := eq_of_beq h2
          cases h3 : (oj == oi) with
          | false =>
            go_wp2
            go_quiet (fail)
            go_wp2
            go_roundw
            case rel => exact ⟨j + 1, Hlj.out, by go_num, by rw [Hn.out, Hb.out, h3, beq_self_eq_true, Bool.and_false, Bool.and_false]; rfl, ⟨_, rfl⟩⟩
            case measure => have := Hlj.out; simp [intOf]; omega
          | true =>
            obtain rfl := eq_of_beq h3
            go_wp2
            go_quiet (fail)
            go_wp2
            go_roundw
            case rel => exact ⟨j + 1, Hlj.out, by go_num, by rw [Hn.out, Hb.out, beq_self_eq_true, beq_self_eq_true, beq_self_eq_true]; simp [hw1], ⟨_, rfl⟩⟩
            case measure => have := Hlj.out; simp [intOf]; omega
    · have hje : j = i := by omega
      subst hje
      clear hlj
      go_wp2
      go_loopw [5, 7] (fun vk v wq => ∃ t : Nat, t ≤ j ∧ v = .int .i64 t ∧ vk = .int .i64 (mtK l j t) ∧ (∀ q, q < t → mateP l j q = false) ∧ ∃ m, wq = w.drewN m) (fun _ v _ => j - (intOf v).toNat)
      case atStart => exact ⟨0, Nat.zero_le _, rfl, rfl, fun q hq => by omega, ⟨_, rfl⟩⟩
      case round =>
        obtain ⟨t, ht, rfl, rfl, hno, m, rfl⟩ := hrel
        have Hno := hid hno
        clear hno
        by_cases hlt : t < j
        · have Hej := Hcell.out t (by have := Hi.out; omega)
          have hF := HH.out
          have f0 := Hej.c0.c0 hF
          have f1 := Hej.c1.c0 hF
          have f2 := Hej.c2.c0 hF
          have g0 := Hei.out.c0.c0 hF
          have g2 := Hei.out.c2.c0 hF
          have hjI : (t : Int) < j := by omega
          have hjl : (t : Int) < l.length := by omega
          have hj0 : (0 : Int) ≤ (t : Int) := by omega
          obtain ⟨kb1, kb2⟩ := mtK_bound l j t
          have hw1 : IntKind.i64.wrap (mtK l j t - 1) = mtK l j t - 1 := by rw [IntKind.wrap_i64]; omega
          have Hn := hid (show mtK l j (t + 1) = if smB l j t then mtK l j t - 1 else mtK l j t from rfl)
          have Hp := hid (show mateP l j t = (smB l j t && mtK l j t == 0) from rfl)
          have Hb := hid (show smB l j t = ((l.getD t dfEv).what == 2 && ((l.getD t dfEv).station == (l.getD j dfEv).other && (l.getD t dfEv).other == (l.getD j dfEv).station)) from rfl)
          clear hF Hej
          have Hmore := hid (show mateP l j t = false → ∀ q, q < t + 1 → mateP l j q = false from fun h q hq => by
            by_cases hqt : q = t
            · rw [hqt]; exact h
            · exact Hno.out q (by omega))
          have Hhit := hid (fun h => mateI_hit (l := l) hlt h Hno.out)
          generalize smB l j t = rb at *
          generalize mtK l j t = kn at *
          generalize (l.getD t dfEv).what = wj at *
          generalize (l.getD t dfEv).station = sj at *
          generalize (l.getD t dfEv).other = oj at *
          generalize (l.getD j dfEv).station = si at *
          generalize (l.getD j dfEv).other = oi at *
          have Hlj := hid hlt
          clear hlt
          cases h1 : (wj == 2) with
          | false =>
            have hf := hid (show rb = false by rw [Hb.out, h1]; rfl)
            go_wp2
            go_quiet (fail)
            go_wp2
            go_roundw
            case rel => exact ⟨t + 1, Hlj.out, by go_num, by rw [Hn.out, hf.out]; rfl, Hmore.out (by rw [Hp.out, hf.out]; rfl), ⟨_, rfl⟩⟩
            case measure => have := Hlj.out; simp [intOf]; omega
          | true =>
            obtain rfl := eq_of_beq h1
            cases h2 : (sj == oi) with
            | false =>
              have hf := hid (show rb = false by rw [Hb.out, h2]; rfl)
              go_wp2
              go_quiet (fail)
              go_wp2
              go_roundw
              case rel => exact ⟨t + 1, Hlj.out, by go_num, by rw [Hn.out, hf.out]; rfl, Hmore.out (by rw [Hp.out, hf.out]; rfl), ⟨_, rfl⟩⟩
              case measure => have := Hlj.out; simp [intOf]; omega
            | true =>
              obtain rfl := eq_of_beq h2
              cases h3 : (oj == si) with
              | false =>
                have hf := hid (show rb = false by rw [Hb.out, h3, beq_self_eq_true, Bool.and_false, Bool.and_false])
                go_wp2
                go_quiet (fail)
                go_wp2
                go_roundw
                case rel => exact ⟨t + 1, Hlj.out, by go_num, by rw [Hn.out, hf.out]; rfl, Hmore.out (by rw [Hp.out, hf.out]; rfl), ⟨_, rfl⟩⟩
                case measure => have := Hlj.out; simp [intOf]; omega
              | true =>
                obtain rfl := eq_of_beq h3
                have hf := hid (show rb = true by rw [Hb.out, beq_self_eq_true, beq_self_eq_true, beq_self_eq_true]; rfl)
                cases h4 : (kn == 0) with
                | false =>
                  go_wp2
                  go_quiet (fail)
                  go_wp2
                  go_roundw
                  case rel => exact ⟨t + 1, Hlj.out, by go_num, by rw [Hn.out, hf.out]; simp [hw1], Hmore.out (by rw [Hp.out, hf.out, h4]; rfl), ⟨_, rfl⟩⟩
                  case measure => have := Hlj.out; simp [intOf]; omega
                | true =>
                  obtain rfl := eq_of_beq h4
                  have hres := hid (Hhit.out (by rw [Hp.out, hf.out]; rfl))
                  go_wp2
                  go_quiet (fail)
                  go_wp2
                  go_ret
                  exact ⟨by rw [hres.out]; rfl, ⟨_, rfl⟩⟩
        · have hte : t = j := by omega
          subst hte
          have hres := hid (mateI_none Hno.out)
          clear hlt
          go_wp2
          go_ret
          exact ⟨by rw [hres.out]; rfl, ⟨_, rfl⟩⟩

theorem order_any {F : MS} {l : List Ev} {A : Option Addr} {k c i s : Nat} {w : World} (hr : RdS F RT.ev l (.slice A k c)) (hH : Has w F) (hl : l.length ≤ 1000) (hi : i < l.length) (hs : (l.getD i dfEv).station = (s : Int)) :
    Calls Try.prog 94 #[.slice A k c, .int .i64 i] w fun e w' => e = .returned (.int .i64 (cntS l i s)) ∧ ∃ m, w' = w.drewN m := by
  obtain ⟨rfl, _⟩ := hr.cells
  obtain ⟨bl, ol, hA, hcell⟩ := evAt hr
  have hA1 := hA (by omega)
  subst hA1
  have Hcell := hid hcell
  have HH := hid hH
  have Hi := hid hi
  have Hei := hid (hcell i hi)
  have Hs := hid hs
  have lI : (l.length : Int) ≤ 1000 := by omega
  have hil : (i : Int) < l.length := by omega
  have hi0 : (0 : Int) ≤ (i : Int) := by omega
  clear hcell hH hA hr hi hs
  go_enter Try.func94, Try.ntmps94
  go_wp2
  go_loopw [5, 6] (fun vk v wq => ∃ j : Nat, j ≤ i ∧ v = .int .i64 j ∧ vk = .int .i64 (cntS l j s) ∧ ∃ m, wq = w.drewN m) (fun _ v _ => i - (intOf v).toNat)
  case atStart => exact ⟨0, Nat.zero_le _, rfl, by rw [cntS_zero]; rfl, ⟨0, rfl⟩⟩
  case round =>
    obtain ⟨j, hj, rfl, rfl, m, rfl⟩ := hrel
    by_cases hlj : j < i
    · have Hej := Hcell.out j (by have := Hi.out; omega)
      have hF := HH.out
      have f0 := Hej.c0.c0 hF
      have g0 := Hei.out.c0.c0 hF
      rw [Hs.out] at g0
      have hjI : (j : Int) < i := by omega
      have hjl : (j : Int) < l.length := by omega
      have hj0 : (0 : Int) ≤ (j : Int) := by omega
      have Hn := hid (cntS_succ (l := l) (t := j) (by have := Hi.out; omega) s)
      have hcb : cntS l j s ≤ j := by unfold cntS; exact Nat.le_trans List.countP_le_length (by rw [List.length_take]; omega)
      obtain ⟨kn, hkn⟩ : ∃ kn, kn = cntS l j s := ⟨_, rfl⟩
      rw [← hkn] at Hn ⊢
      have hw1 : IntKind.i64.wrap ((kn : Int) + 1) = kn + 1 := by rw [IntKind.wrap_i64]; omega
      clear hF Hej hkn hcb
      generalize (l.getD j dfEv).station = sj at *
      have Hlj := hid hlj
      clear hlj
      by_cases h1 : sj = (s : Int)
      · rw [if_pos h1] at Hn
        subst h1
        go_wp2
        go_quiet (fail)
        go_wp2
        go_roundw
        case rel => exact ⟨j + 1, Hlj.out, by go_num, by rw [Hn.out]; go_num, ⟨_, rfl⟩⟩
        case measure => have := Hlj.out; simp [intOf]; omega
      · rw [if_neg h1] at Hn
        have h2 : (sj == (s : Int)) = false := by simp [h1]
        clear h1
        go_wp2
        go_quiet (fail)
        go_wp2
        go_roundw
        case rel => exact ⟨j + 1, Hlj.out, by go_num, by rw [Hn.out]; rfl, ⟨_, rfl⟩⟩
        case measure => have := Hlj.out; simp [intOf]; omega
    · have hje : j = i := by omega
      subst hje
      go_wp2
      go_ret
      exact ⟨rfl, ⟨_, rfl⟩⟩

theorem many_any {F : MS} {l : List Ev} {A : Option Addr} {k c s : Nat} {w : World} (hr : RdS F RT.ev l (.slice A k c)) (hH : Has w F) (hl : l.length ≤ 1000) :
    Calls Try.prog 83 #[.slice A k c, .int .i64 s] w fun e w' => e = .returned (.int .i64 (cntS l l.length s)) ∧ ∃ m, w' = w.drewN m := by
  obtain ⟨rfl, _⟩ := hr.cells
  obtain ⟨bl, ol, hA, hcell⟩ := evAt hr
  have Hcell := hid hcell
  have HH := hid hH
  have HA := hid hA
  have lI : (l.length : Int) ≤ 1000 := by omega
  clear hcell hH hA hr
  go_enter Try.func83, Try.ntmps83
  go_wp2
  go_loopw [5, 6] (fun vk v wq => ∃ j : Nat, j ≤ l.length ∧ v = .int .i64 j ∧ vk = .int .i64 (cntS l j s) ∧ ∃ m, wq = w.drewN m) (fun _ v _ => l.length - (intOf v).toNat)
  case atStart => exact ⟨0, Nat.zero_le _, rfl, by rw [cntS_zero]; rfl, ⟨0, rfl⟩⟩
  case round =>
    obtain ⟨j, hj, rfl, rfl, m, rfl⟩ := hrel
    by_cases hlj : j < l.length
    · have hA1 := HA.out (by omega)
      subst hA1
      have Hej := Hcell.out j hlj
      have hF := HH.out
      have f0 := Hej.c0.c0 hF
      have hjl : (j : Int) < l.length := by omega
      have hj0 : (0 : Int) ≤ (j : Int) := by omega
      have Hn := hid (cntS_succ (l := l) (t := j) hlj s)
      have hcb : cntS l j s ≤ j := by unfold cntS; exact Nat.le_trans List.countP_le_length (by rw [List.length_take]; omega)
      obtain ⟨kn, hkn⟩ : ∃ kn, kn = cntS l j s := ⟨_, rfl⟩
      rw [← hkn] at Hn ⊢
      have hw1 : IntKind.i64.wrap ((kn : Int) + 1) = kn + 1 := by rw [IntKind.wrap_i64]; omega
      clear hF Hej hkn hcb
      generalize (l.getD j dfEv).station = sj at *
      have Hlj := hid hlj
      clear hlj
      by_cases h1 : sj = (s : Int)
      · rw [if_pos h1] at Hn
        subst h1
        go_wp2
        go_roundw
        case rel => exact ⟨j + 1, Hlj.out, by go_num, by rw [Hn.out]; go_num, ⟨_, rfl⟩⟩
        case measure => have := Hlj.out; simp [intOf]; omega
      · rw [if_neg h1] at Hn
        have h2 : (sj == (s : Int)) = false := by simp [h1]
        clear h1
        go_wp2
        go_roundw
        case rel => exact ⟨j + 1, Hlj.out, by go_num, by rw [Hn.out]; rfl, ⟨_, rfl⟩⟩
        case measure => have := Hlj.out; simp [intOf]; omega
    · have hje : j = l.length := by omega
      subst hje
      go_wp2
      go_ret
      exact ⟨rfl, ⟨_, rfl⟩⟩

/-- Are there few events with short clocks? -/
def shortB (l : List Ev) : Bool := (List.range l.length).all fun i => decide (i < 100) && decide ((l.getD i dfEv).clock.length ≤ 20)
theorem short_any {F : MS} {l : List Ev} {A : Option Addr} {k c : Nat} {w : World} (hr : RdS F RT.ev l (.slice A k c)) (hH : Has w F) :
    Calls Try.prog 39 #[.slice A k c] w fun e w' => e = .returned (.bool (shortB l)) ∧ Kp w w' := by
  obtain ⟨rfl, hc1, hc2, _⟩ := hr.cells
  have lI : (l.length : Int) ≤ 9223372036854775807 := by unfold maxLen at hc2; omega
  have Hr := hid hr
  have HH := hid hH
  obtain ⟨q, hq⟩ : ∃ q, q = shortB l := ⟨_, rfl⟩
  rw [← hq]
  have Hq := hid hq
  clear hq hr hH hc1 hc2
  go_enter Try.func39, Try.ntmps39
  go_wp2
  go_loopw [3] (fun v wq => ∃ j : Nat, j ≤ l.length ∧ j ≤ 100 ∧ v = .int .i64 j ∧ (List.range j).all (fun i => decide (i < 100) && decide ((l.getD i dfEv).clock.length ≤ 20)) = true ∧ Kp w wq) (fun v _ => 101 - (intOf v).toNat)
  case atStart => exact ⟨0, Nat.zero_le _, Nat.zero_le _, rfl, rfl, Kp.refl w⟩
  case round =>
    obtain ⟨j, hj, hj2, rfl, hall, hK⟩ := hrel
    have HK := hid hK
    have Hall := hid hall
    clear hK hall
    have j0 : (0 : Int) ≤ (j : Int) := by omega
    by_cases hlj : j < l.length
    · have hljI : (j : Int) < l.length := by omega
      have Hn := hid (all_range_succ (fun i => decide (i < 100) && decide ((l.getD i dfEv).clock.length ≤ 20)) j)
      have Hm := hid (all_range_false (p := fun i => decide (i < 100) && decide ((l.getD i dfEv).clock.length ≤ 20)) (i := j) hlj)
      by_cases h100 : j < 100
      · have h100I : ¬ (100 : Int) ≤ j := by omega
        obtain ⟨x, hx⟩ : ∃ x, l[j]? = some x := ⟨_, List.getElem?_eq_getElem hlj⟩
        have hxg : l.getD j dfEv = x := by simp [List.getD, hx]
        obtain ⟨b1, o1, Ak, ck, hA2, e0, e1, e2, e3, e4, k5⟩ := Hr.out.getEv hx
        subst hA2
        have hF := HK.out.1 F HH.out
        have f4 := e4.c0 hF
        obtain ⟨_, y1, y2, _⟩ := k5.cells
        have y3 : (x.clock.length : Int) ≤ 9223372036854775807 := by unfold maxLen at y2; omega
        rw [hxg] at Hn Hm
        generalize hnk : x.clock.length = nk at *
        have Hnj := hid h100
        have Hlj := hid hlj
        clear hx hxg e0 e1 e2 e3 e4 k5 hF hnk y1 y2 hlj h100
        by_cases h20 : (20 : Int) < nk
        · have hf := hid (show q = false by rw [Hq.out]; exact Hm.out (by rw [decide_eq_false (show ¬ nk ≤ 20 by omega), Bool.and_false]))
          go_wp2
          go_ret
          exact ⟨by rw [hf.out]; rfl, HK.out⟩
        · have Hn2 := hid (show nk ≤ 20 by omega)
          go_wp2
          go_roundw
          case rel => exact ⟨j + 1, Hlj.out, Hnj.out, by go_num, by rw [Hn.out, Hall.out, decide_eq_true Hnj.out, decide_eq_true Hn2.out]; rfl, HK.out⟩
          case measure => have := Hnj.out; simp [intOf]; omega
      · have h100I : (100 : Int) ≤ j := by omega
        have hf := hid (show q = false by rw [Hq.out]; exact Hm.out (by rw [decide_eq_false h100, Bool.false_and]))
        clear h100 hlj
        go_wp2
        go_ret
        exact ⟨by rw [hf.out]; rfl, HK.out⟩
    · have hje : j = l.length := by omega
      subst hje
      have hq := hid (show q = true by rw [Hq.out]; exact Hall.out)
      go_wp2
      go_ret
      exact ⟨by rw [hq.out]; rfl, HK.out⟩
end Go.Proofs.Ytnkgfgkgepadhaa

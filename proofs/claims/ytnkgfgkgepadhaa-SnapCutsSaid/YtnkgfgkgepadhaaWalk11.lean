/-
  Walks: at, done, Done, ended.
-/
import Derived.Test.YtnkgfgkgepadhaaWalk10
namespace Go.Proofs.Ytnkgfgkgepadhaa
open Go.RowKit
set_option linter.unusedVariables false
set_option linter.unusedSimpArgs false

/-- The header of the stations is there. -/
theorem IsNet.staHead {Pl : MS} {σ : Net} {ps : List Nat} {b : Nat} {m : MS} (h : IsNet Pl σ ps b m) (h0 : 0 < σ.sta.length) : ∃ ad c, ∀ W X, Has W (m + X) → W.cell? ⟨b, 0, none⟩ = some (.slice (some ad) σ.sta.length c) := by
  obtain ⟨hd, R, rfl, _, ⟨A, c, h2, hn, _⟩, _⟩ := h.heads
  cases A with
  | none => exact absurd (hn rfl) (by omega)
  | some ad => exact ⟨ad, c, fun W X hW => (hW.eq (b := blk b hd 84 + (R + X)) (by ac_rfl)).at_ h2⟩

def Net.atErr (σ : Net) (no : Int) : Int := if no < 1 ∨ (σ.shots.length : Int) < no then 6 else 0
theorem at_no (Pl F : MS) (σ : Net) (ps : List Nat) (b : Nat) (m : MS) (w : World) (h0 : 0 < σ.sta.length) (hnet : IsNet Pl σ ps b m) (hH : Has w (m + F)) (no : Int) (h : σ.atErr no = 6) :
    Calls Try.prog 54 #[.pointer (some ⟨b, 0, none⟩), .int .i64 no] w fun e w' => e = .returned (.tuple #[.pointer none, .int .i64 6]) ∧ w = w' := by
  obtain ⟨ad, c, hf⟩ := hnet.staHead h0
  have f0 := hf w _ hH
  obtain ⟨A2, c2, hA2, hf2⟩ := hnet.shotHead
  have f2 := hf2 w _ hH
  have h' : no < 1 ∨ (σ.shots.length : Int) < no := by
    unfold Net.atErr at h
    by_cases h' : no < 1 ∨ (σ.shots.length : Int) < no
    · exact h'
    · rw [if_neg h'] at h; cases h
  clear hnet hH hf hf2 h hA2
  by_cases h1 : no < 1
  · clear h'
    go_enter Try.func54, Try.ntmps54
    go_wp2
    go_ret2
    exact ⟨rfl, rfl⟩
  · have h2 : (σ.shots.length : Int) < no := by omega
    clear h'
    go_enter Try.func54, Try.ntmps54
    go_wp2
    go_ret2
    exact ⟨rfl, rfl⟩
theorem at_yes (Pl F : MS) (σ : Net) (ps : List Nat) (b : Nat) (m : MS) (w : World) (h0 : 0 < σ.sta.length) (hnet : IsNet Pl σ ps b m) (hH : Has w (m + F)) (k p : Nat) (x : Shot) (hx : σ.shots[k]? = some x) (hp : ps[k]? = some p) (hb : σ.shots.length ≤ 1000) :
    Calls Try.prog 54 #[.pointer (some ⟨b, 0, none⟩), .int .i64 (k + 1)] w fun e w' => e = .returned (.tuple #[.pointer (some ⟨p, 0, none⟩), .int .i64 0]) ∧ w = w' := by
  obtain ⟨ad, c, hf⟩ := hnet.staHead h0
  have f0 := hf w _ hH
  obtain ⟨b2, o2, c2, hf2⟩ := hnet.shotPtr hx hp
  obtain ⟨f2, f3⟩ := hf2 w _ hH
  have hk : (k : Int) < σ.shots.length := by have := (List.getElem?_eq_some_iff.1 hx).1; omega
  have hb' : (σ.shots.length : Int) ≤ 1000 := by omega
  clear hnet hH hf hf2 hx hp hb
  have e1 : ¬ ((k : Int) + 1 < 1) := by omega
  have e2 : ¬ ((σ.shots.length : Int) < (k : Int) + 1) := by omega
  go_enter Try.func54, Try.ntmps54
  go_wp2
  go_ret2
  exact ⟨rfl, rfl⟩

def cellOk (x : Shot) (i j : Nat) : Bool := x.recorded.getD i false && (i == j || (x.closed.getD i []).getD j false)
def Shot.fin (x : Shot) (n : Nat) : Bool := (List.range n).all fun i => (List.range n).all (cellOk x i)
theorem get_getD {α : Type} {l : List α} {j : Nat} (d : α) (h : j < l.length) : l[j]? = some (l.getD j d) := by simp [List.getD, List.getElem?_eq_getElem h]
/-- What is read of a snapshot. -/
structure ShotRd (w : World) (p : Nat) (x : Shot) (n br orr cr b1 o1 c1 : Nat) : Prop where
  h0 : w.cell? ⟨p, 0, none⟩ = some (.slice (some ⟨br, orr, none⟩) n cr)
  h1 : w.cell? ⟨p, 1, none⟩ = some (.slice (some ⟨b1, o1, none⟩) n c1)
  r : ∀ i, i < n → w.cell? ⟨br, orr + i, none⟩ = some (.bool (x.recorded.getD i false))
  c : ∀ i, i < n → ∃ b2 o2 c2, w.cell? ⟨b1, o1 + i, none⟩ = some (.slice (some ⟨b2, o2, none⟩) n c2) ∧ ∀ j, j < n → w.cell? ⟨b2, o2 + j, none⟩ = some (.bool ((x.closed.getD i []).getD j false))
theorem IsNet.shotRd {Pl : MS} {σ : Net} {ps : List Nat} {b : Nat} {m X : MS} {w : World} (h : IsNet Pl σ ps b m) (hH : Has w (m + X)) {k p : Nat} {x : Shot} (hx : σ.shots[k]? = some x) (hp : ps[k]? = some p)
    {n : Nat} (hn : 0 < n) (z1 : x.recorded.length = n) (z2 : x.closed.length = n) (z3 : ∀ r ∈ x.closed, r.length = n) : ∃ br orr cr b1 o1 c1, ShotRd w p x n br orr cr b1 o1 c1 := by
  have hrec : ∀ j, j < n → ∃ b1 o1 c1, w.cell? ⟨p, 0, none⟩ = some (.slice (some ⟨b1, o1, none⟩) n c1) ∧ w.cell? ⟨b1, o1 + j, none⟩ = some (.bool (x.recorded.getD j false)) := fun j hj => by
    have hq : x.recorded[j]? = some (x.recorded.getD j false) := by simp [List.getD, List.getElem?_eq_getElem (by omega : j < x.recorded.length)]
    obtain ⟨b1, o1, c1, hf⟩ := h.recs hx hp hq
    obtain ⟨g1, g2⟩ := hf w X hH
    exact ⟨b1, o1, c1, by rw [← z1]; exact g1, g2⟩
  have hclo : ∀ i j, i < n → j < n → ∃ b1 o1 c1 b2 o2 c2, w.cell? ⟨p, 1, none⟩ = some (.slice (some ⟨b1, o1, none⟩) n c1) ∧ w.cell? ⟨b1, o1 + i, none⟩ = some (.slice (some ⟨b2, o2, none⟩) n c2) ∧ w.cell? ⟨b2, o2 + j, none⟩ = some (.bool ((x.closed.getD i []).getD j false)) := fun i j hi hj => by
    have hr : x.closed[i]? = some (x.closed.getD i []) := by simp [List.getD, List.getElem?_eq_getElem (by omega : i < x.closed.length)]
    have hrl := z3 _ (List.mem_of_getElem? hr)
    have hq : (x.closed.getD i [])[j]? = some ((x.closed.getD i []).getD j false)  := get_getD false (by omega)
    obtain ⟨b1, o1, c1, b2, o2, c2, cur2, G, hm, e2, hf, _⟩ := h.closing hx hp hr hq
    obtain ⟨g1, g2⟩ := hf w X hH
    exact ⟨b1, o1, c1, b2, o2, c2, by rw [← z2]; exact g1, by rw [← hrl]; exact g2, (hH.eq (b := blk b2 cur2 4 + (G + X)) (by rw [hm]; ac_rfl)).at_ e2⟩
  obtain ⟨br, orr, cr, r0, _⟩ := hrec 0 hn
  obtain ⟨b1, o1, c1, _, _, _, k0, _, _⟩ := hclo 0 0 hn hn
  refine ⟨br, orr, cr, b1, o1, c1, r0, k0, fun i hi => ?_, fun i hi => ?_⟩
  · obtain ⟨b', o', c', g1, g2⟩ := hrec i hi
    have := r0.symm.trans g1
    simp only [Option.some.injEq, Value.slice.injEq, Addr.mk.injEq] at this
    obtain ⟨⟨rfl, rfl, _⟩, _⟩ := this
    exact g2
  · obtain ⟨b', o', c', b2, o2, c2, g1, g2, g3⟩ := hclo i 0 hi hn
    have := k0.symm.trans g1
    simp only [Option.some.injEq, Value.slice.injEq, Addr.mk.injEq] at this
    obtain ⟨⟨rfl, rfl, _⟩, _⟩ := this
    refine ⟨b2, o2, c2, g2, fun j hj => ?_⟩
    obtain ⟨b', o', c', b3, o3, c3, q1, q2, q3⟩ := hclo i j hi hj
    have := k0.symm.trans q1
    simp only [Option.some.injEq, Value.slice.injEq, Addr.mk.injEq] at this
    obtain ⟨⟨rfl, rfl, _⟩, _⟩ := this
    have := g2.symm.trans q2
    simp only [Option.some.injEq, Value.slice.injEq, Addr.mk.injEq] at this
    obtain ⟨⟨rfl, rfl, _⟩, _⟩ := this
    exact q3

theorem all_range_succ (p : Nat → Bool) (t : Nat) : (List.range (t + 1)).all p = ((List.range t).all p && p t) := by
  rw [List.range_succ, List.all_append]; simp
theorem all_range_false {p : Nat → Bool} {n i : Nat} (hi : i < n) (h : p i = false) : (List.range n).all p = false := by
  rw [List.all_eq_false]
  exact ⟨i, List.mem_range.2 hi, by simp [h]⟩

set_option maxHeartbeats 1000000 in
theorem done_any (w : World) (p : Nat) (x : Shot) (n br orr cr b1 o1 c1 : Nat) (h : ShotRd w p x n br orr cr b1 o1 c1) (hn : n ≤ 1000) :
    Calls Try.prog 55 #[.pointer (some ⟨p, 0, none⟩)] w fun e w' => e = .returned (.bool (x.fin n)) ∧ w = w' := by
  obtain ⟨h0, h1, hr, hc⟩ := h
  have Hr := hid hr
  have Hc := hid hc
  clear hr hc
  obtain ⟨fin, hfin⟩ : ∃ q, q = x.fin n := ⟨_, rfl⟩
  rw [← hfin]
  have Hfin := hid hfin
  clear hfin
  go_enter Try.func55, Try.ntmps55
  go_wp2
  go_loop [12] (fun v => ∃ t : Nat, t ≤ n ∧ v = .int .i64 t ∧ ((List.range t).all fun i => (List.range n).all (cellOk x i)) = true) (fun v => n - (intOf v).toNat)
  case atStart => exact ⟨0, Nat.zero_le _, rfl, rfl⟩
  case round =>
    obtain ⟨t, ht, rfl, hall⟩ := hrel
    have Hall := hid hall
    clear hall
    by_cases hlt : t < n
    · obtain ⟨b2, o2, c2, k1, k2⟩ := Hc.out t hlt
      have Hk := hid k2
      have Hlt := hid hlt
      have hrt := Hr.out t hlt
      obtain ⟨rc, hrc⟩ : ∃ q, q = x.recorded.getD t false := ⟨_, rfl⟩
      rw [← hrc] at hrt
      have Hrc := hid hrc
      have htn : (t : Int) < n := by omega
      clear k2 hrc
      go_wp2
      go_loop [19] (fun v => ∃ s : Nat, s ≤ n ∧ v = .int .i64 s ∧ ((List.range s).all (cellOk x t)) = true) (fun v => n - (intOf v).toNat)
      case atStart => exact ⟨0, Nat.zero_le _, rfl, rfl⟩
      case round =>
        obtain ⟨s, hs, rfl, hal2⟩ := hrel
        have Hal2 := hid hal2
        clear hal2
        by_cases hls : s < n
        · have k3 := Hk.out s hls
          obtain ⟨qc, hqc⟩ : ∃ q, q = (x.closed.getD t []).getD s false := ⟨_, rfl⟩
          rw [← hqc] at k3
          have Hls := hid hls
          have Hqc := hid hqc
          have hsn : (s : Int) < n := by omega
          clear hqc
          cases hcell : cellOk x t s with
          | false =>
            have hF := hid (show x.fin n = false from all_range_false Hlt.out (all_range_false Hls.out hcell))
            have hce := hid hcell
            clear hcell
            cases rc with
            | false =>
              go_wp2
              go_ret
              exact ⟨ret_bool (by rw [Hfin.out, hF.out]), rfl⟩
            | true =>
              have hts : ((t : Int) != (s : Int)) = true := by
                have h1 := hce.out
                unfold cellOk at h1
                rw [← Hrc.out] at h1
                simp only [Bool.true_and, Bool.or_eq_false_iff, beq_eq_false_iff_ne] at h1
                simp; omega
              have hq0 : qc = false := by
                have h1 := hce.out
                unfold cellOk at h1
                rw [← Hrc.out, ← Hqc.out] at h1
                simp only [Bool.true_and, Bool.or_eq_false_iff] at h1
                exact h1.2
              subst hq0
              go_wp2
              go_ret
              exact ⟨ret_bool (by rw [Hfin.out, hF.out]), rfl⟩
          | true =>
            have hr1 : rc = true := by
              unfold cellOk at hcell
              rw [← Hrc.out] at hcell
              simp only [Bool.and_eq_true] at hcell
              exact hcell.1
            subst hr1
            have hS := hid (show ((List.range (s + 1)).all (cellOk x t)) = true by rw [all_range_succ, Hal2.out, hcell]; rfl)
            have hce := hid hcell
            clear hcell
            by_cases hts : t = s
            · have hts' : ((t : Int) != (s : Int)) = false := by simp; omega
              clear hts
              go_wp2
              go_round
              case rel => exact ⟨s + 1, Hls.out, by go_num, hS.out⟩
              case measure => have := Hls.out; simp [intOf]; omega
            · have hts' : ((t : Int) != (s : Int)) = true := by simp; omega
              have hq1 : qc = true := by
                have h1 := hce.out
                unfold cellOk at h1
                rw [← Hrc.out, ← Hqc.out] at h1
                simp only [Bool.true_and, Bool.or_eq_true, beq_iff_eq] at h1
                exact h1.resolve_left hts
              subst hq1
              clear hts
              go_wp2
              go_round
              case rel => exact ⟨s + 1, Hls.out, by go_num, hS.out⟩
              case measure => have := Hls.out; simp [intOf]; omega
        · obtain rfl : s = n := by omega
          have hS := hid (show ((List.range (t + 1)).all fun i => (List.range s).all (cellOk x i)) = true by rw [all_range_succ, Hall.out, Hal2.out]; rfl)
          go_wp2
          go_round
          case rel => exact ⟨t + 1, Hlt.out, by go_num, hS.out⟩
          case measure => have := Hlt.out; simp [intOf]; omega
    · obtain rfl : t = n := by omega
      go_wp2
      go_ret
      exact ⟨ret_bool (by rw [Hfin.out]; exact Hall.out.symm), rfl⟩

/-- What 'at', 'Done' and 'ended' say of a number. -/
def Net.doneR (σ : Net) (no : Int) : Bool × Int :=
  if σ.atErr no = 0 then (match σ.shots[(no - 1).toNat]? with | some x => x.fin σ.sta.length | none => false, 0) else (false, 6)
theorem atErr_cases (σ : Net) (no : Int) : σ.atErr no = 6 ∨ (σ.atErr no = 0 ∧ ∃ k : Nat, no = k + 1 ∧ k < σ.shots.length) := by
  unfold Net.atErr
  by_cases h : no < 1 ∨ (σ.shots.length : Int) < no
  · rw [if_pos h]; exact .inl rfl
  · rw [if_neg h]; exact .inr ⟨rfl, (no - 1).toNat, by omega, by omega⟩
/-- A snapshot of a net that is in order, as it is read. -/
theorem IsNet.shotOk {Pl : MS} {σ : Net} {ps : List Nat} {b : Nat} {m X : MS} {w : World} (h : IsNet Pl σ ps b m) (hH : Has w (m + X)) (hok : NetOk σ) {k : Nat} (hk : k < σ.shots.length) :
    ∃ x p, σ.shots[k]? = some x ∧ ps[k]? = some p ∧ ∃ br orr cr b1 o1 c1, ShotRd w p x σ.sta.length br orr cr b1 o1 c1 := by
  obtain ⟨x, hx⟩ : ∃ x, σ.shots[k]? = some x := ⟨_, List.getElem?_eq_getElem hk⟩
  obtain ⟨p, hp⟩ : ∃ p, ps[k]? = some p := ⟨_, List.getElem?_eq_getElem (by rw [h.1]; exact hk)⟩
  obtain ⟨z1, z2, z3, _⟩ := hok.shot x (List.mem_of_getElem? hx)
  have := hok.n2
  exact ⟨x, p, hx, hp, h.shotRd hH hx hp (by omega) z1 z2 z3⟩
theorem Done_any (Pl F : MS) (σ : Net) (ps : List Nat) (b : Nat) (m : MS) (w : World) (hok : NetOk σ) (hnet : IsNet Pl σ ps b m) (hH : Has w (m + F)) (no : Int) :
    Calls Try.prog 17 #[.pointer (some ⟨b, 0, none⟩), .int .i64 no] w fun e w' => e = .returned (.tuple #[.bool (σ.doneR no).1, .int .i64 (σ.doneR no).2]) ∧ w = w' := by
  have hn2 := hok.n2
  rcases atErr_cases σ no with h | ⟨h, k, rfl, hk⟩
  · have e : σ.doneR no = (false, 6) := by unfold Net.doneR; rw [if_neg (by rw [h]; decide)]
    rw [e]
    have H := hid (at_no Pl F σ ps b m w (by omega) hnet hH no h)
    clear e h hnet hH hok
    go_enter Try.func17, Try.ntmps17
    go_wp2_with (go_at_call 54; refine H.out.mono ?_; rintro e w' ⟨rfl, rfl⟩)
    go_ret2
    exact ⟨rfl, rfl⟩
  · obtain ⟨x, p, hx, hp, br, orr, cr, b1, o1, c1, hrd⟩ := hnet.shotOk hH hok hk
    have e : σ.doneR ((k : Int) + 1) = (x.fin σ.sta.length, 0) := by
      unfold Net.doneR; rw [if_pos h, show ((k : Int) + 1 - 1).toNat = k by omega, hx]
    rw [e]
    have H := hid (at_yes Pl F σ ps b m w (by omega) hnet hH k p x hx hp (by have := hok.shots; omega))
    have H2 := hid (done_any w p x σ.sta.length br orr cr b1 o1 c1 hrd (by have := hok.n5; omega))
    clear e h hnet hH hok hx hp hk hrd
    go_enter Try.func17, Try.ntmps17
    go_wp2_with (first
      | (go_at_call 54; refine H.out.mono ?_; rintro e w' ⟨rfl, rfl⟩)
      | (go_at_call 55; refine H2.out.mono ?_; rintro e w' ⟨rfl, rfl⟩))
    go_ret2
    exact ⟨rfl, rfl⟩
/-- 'ended' of a number that is none. -/
theorem ended_no (Pl F : MS) (σ : Net) (ps : List Nat) (b : Nat) (m : MS) (w : World) (hok : NetOk σ) (hnet : IsNet Pl σ ps b m) (hH : Has w (m + F)) (no : Int) (h : σ.atErr no = 6) :
    Calls Try.prog 59 #[.pointer (some ⟨b, 0, none⟩), .int .i64 no] w fun e w' => e = .returned (.tuple #[.pointer none, .int .i64 6]) ∧ w = w' := by
  have hn2 := hok.n2
  have H := hid (at_no Pl F σ ps b m w (by omega) hnet hH no h)
  clear h hnet hH hok
  go_enter Try.func59, Try.ntmps59
  go_wp2_with (go_at_call 54; refine H.out.mono ?_; rintro e w' ⟨rfl, rfl⟩)
  go_ret2
  exact ⟨rfl, rfl⟩
def finErr (q : Bool) : Int := if q then 0 else 9
theorem ended_yes (Pl F : MS) (σ : Net) (ps : List Nat) (b : Nat) (m : MS) (w : World) (hok : NetOk σ) (hnet : IsNet Pl σ ps b m) (hH : Has w (m + F)) (k p : Nat) (x : Shot) (hx : σ.shots[k]? = some x) (hp : ps[k]? = some p) :
    Calls Try.prog 59 #[.pointer (some ⟨b, 0, none⟩), .int .i64 (k + 1)] w fun e w' => e = .returned (.tuple #[.pointer (some ⟨p, 0, none⟩), .int .i64 (finErr (x.fin σ.sta.length))]) ∧ w = w' := by
  have hn2 := hok.n2
  obtain ⟨x', p', hx', hp', br, orr, cr, b1, o1, c1, hrd⟩ := hnet.shotOk hH hok (List.getElem?_eq_some_iff.1 hx).1
  obtain rfl : x = x' := by rw [hx] at hx'; injection hx'
  obtain rfl : p = p' := by rw [hp] at hp'; injection hp'
  have H := hid (at_yes Pl F σ ps b m w (by omega) hnet hH k p x hx hp (by have := hok.shots; omega))
  have H2 := hid (done_any w p x σ.sta.length br orr cr b1 o1 c1 hrd (by have := hok.n5; omega))
  clear hnet hH hok hx hp hrd hx' hp'
  generalize x.fin σ.sta.length = q at *
  cases q with
  | true =>
    go_enter Try.func59, Try.ntmps59
    go_wp2_with (first
      | (go_at_call 54; refine H.out.mono ?_; rintro e w' ⟨rfl, rfl⟩)
      | (go_at_call 55; refine H2.out.mono ?_; rintro e w' ⟨rfl, rfl⟩))
    go_ret2
    exact ⟨rfl, rfl⟩
  | false =>
    go_enter Try.func59, Try.ntmps59
    go_wp2_with (first
      | (go_at_call 54; refine H.out.mono ?_; rintro e w' ⟨rfl, rfl⟩)
      | (go_at_call 55; refine H2.out.mono ?_; rintro e w' ⟨rfl, rfl⟩))
    go_ret2
    exact ⟨rfl, rfl⟩
end Go.Proofs.Ytnkgfgkgepadhaa

/-
  The walk of the reference's Work.
-/
import Derived.Test.YtnkgfgkgepadhaaRefMark
import Derived.Test.YtnkgfgkgepadhaaRefCopy
namespace Go.Proofs.Ytnkgfgkgepadhaa
open Go.RowKit
set_option linter.unusedVariables false
set_option linter.unusedSimpArgs false

theorem RdRef.head {F : MS} {σ : Net} {b : Nat} (h : RdRef F σ b) : ∃ A0 c0 A2 c2 A3 c3 A4 c4, F.at b 0 (.slice A0 σ.sta.length c0) ∧ RdS F RT.int σ.helds (.slice A0 σ.sta.length c0) ∧ F.at b 2 (.slice A2 σ.chan.length c2) ∧ RdS F (RT.sl (RT.sl RT.rmsg)) σ.chan (.slice A2 σ.chan.length c2) ∧
    F.at b 3 (.slice A3 σ.evs.length c3) ∧ RdS F RT.ev σ.evs (.slice A3 σ.evs.length c3) ∧ F.at b 4 (.slice A4 σ.shots.length c4) ∧ RdS F RT.rshot σ.shots (.slice A4 σ.shots.length c4) := by
  obtain ⟨v0, v1, v2, v3, v4, q⟩ := h
  obtain ⟨a0, a1, a2, a3, a4, kh, kc, kl, ke, ks⟩ := q
  obtain ⟨A0, c0, rfl, _⟩ := kh.form
  obtain ⟨A2, c2, rfl, _⟩ := kl.form
  obtain ⟨A3, c3, rfl, _⟩ := ke.form
  obtain ⟨A4, c4, rfl, _⟩ := ks.form
  have hl : σ.helds.length = σ.sta.length := by simp [Net.helds]
  rw [hl] at a0 kh
  exact ⟨A0, c0, A2, c2, A3, c3, A4, c4, a0, kh, a2, kl, a3, ke, a4, ks⟩
theorem staB_yes {n : Nat} {x : Int} (h : 0 ≤ x ∧ x < n) : staB n x = true := decide_eq_true h
theorem staB_no {n : Nat} {x : Int} (h : ¬ (0 ≤ x ∧ x < n)) : staB n x = false := decide_eq_false h
theorem MS.at.cell0 {F : MS} {b i : Nat} {u : Value} {w : World} (h : F.at b i u) (hH : Has w F) : w.cell? ⟨b, i, none⟩ = some u := MS.at.cell (X := 0) h (by rw [MS.zero_add]; exact hH)
theorem RdRef.same {F : MS} {σ : Net} {b : Nat} (h : RdRef F σ b) : RdRef (0 + F) σ b := by rw [MS.zero_add]; exact h
theorem Has.same {F : MS} {w : World} (h : Has w F) : Has w (0 + F) := by rw [MS.zero_add]; exact h
/-- A station's pieces are changed. -/
theorem IsRef.gaining {Pl : MS} {σ : Net} {b : Nat} {m : MS} (h : IsRef Pl σ b m) {k : Nat} {s : Sta} (hs : σ.sta[k]? = some s) :
    ∃ b1 o1 c1 cur R, m = blk b1 cur 3 + R ∧ (∀ (W : World) (X : MS), Has W (m + X) → W.cell? ⟨b, 0, none⟩ = some (.slice (some ⟨b1, o1, none⟩) σ.sta.length c1) ∧ W.cell? ⟨b1, o1 + k, none⟩ = some (.int .i64 s.pieces)) ∧ o1 + k < cur.size ∧
      ∀ d, IsRef Pl (σ.gain k d) b (blk b1 (cur.setIfInBounds (o1 + k) (.int .i64 (s.pieces + d))) 3 + R) := by
  obtain ⟨hd, b1, o1, c1, cur, R, rfl, hsz, i0, e, hput⟩ := h.held hs
  refine ⟨b1, o1, c1, cur, blk b hd 118 + R, by ac_rfl, fun W X h => ⟨(h.eq (MS.add_assoc _ _ _)).at_ i0, (h.eq (b := blk b1 cur 3 + (blk b hd 118 + R + X)) (by ac_rfl)).at_ e⟩, arr_lt e, fun d => ?_⟩
  have := hput (s.pieces + d)
  have eg : σ.gain k d = { σ with sta := σ.sta.set k { s with pieces := s.pieces + d } } := by simp [Net.gain, hs]
  rw [eg, show blk b1 (cur.setIfInBounds (o1 + k) (.int .i64 (s.pieces + d))) 3 + (blk b hd 118 + R) = blk b hd 118 + (blk b1 (cur.setIfInBounds (o1 + k) (.int .i64 (s.pieces + d))) 3 + R) by ac_rfl]
  exact this

set_option maxHeartbeats 2000000 in
set_option maxRecDepth 100000 in
theorem rwork_any {F : MS} {σ : Net} {b : Nat} {w : World} (hok : NetOk σ) (hr : RdRef F σ b) (hH : Has w F) (no pieces : Int) :
    Calls Try.prog 67 #[.pointer (some ⟨b, 0, none⟩), .int .i64 no, .int .i64 pieces] w fun e w' => ∃ b' X, e = .returned (.tuple #[.pointer (some ⟨b', 0, none⟩), .int .i64 (σ.work no pieces).1]) ∧ RdRef (X + F) (σ.work no pieces).2 b' ∧ Has w' (X + F) ∧ Ext w w' := by
  obtain ⟨A0, c0, A2, c2, A3, c3, A4, c4, a0, k0, a2, k2, a3, k3, a4, k4⟩ := hr.head
  have f0 := a0.cell0 hH
  have f3 := a3.cell0 hH
  have Hst := hid (station_any f0 no)
  have Hr := hid hr
  have HH := hid hH
  have Hok := hid hok
  clear a0 k0 a2 k2 a3 k3 a4 k4 hr hH hok
  by_cases h1 : 0 ≤ no ∧ no < σ.sta.length
  · by_cases h2 : 1 ≤ pieces ∧ pieces ≤ 1000000
    · have hs1 := staB_yes h1
      rw [hs1] at Hst
      obtain ⟨h2a, h2b⟩ := h2
      by_cases he : 400 ≤ σ.evs.length
      · have e : σ.work no pieces = (8, σ) := by unfold Net.work; rw [if_neg (fun h' => h' ⟨h1, h2a, h2b⟩), if_pos he]
        rw [e]
        have heI : (400 : Int) ≤ σ.evs.length := by omega
        clear e h1 hs1
        go_enter Try.func67, Try.ntmps67
        go_wp2_with (go_at_call 87; refine Hst.out.mono ?_; rintro e w' ⟨rfl, rfl⟩)
        go_ret2
        exact ⟨b, 0, rfl, Hr.out.same, HH.out.same, Ext.refl w⟩
      · obtain ⟨g1, g2⟩ := h1
        obtain ⟨k, rfl⟩ := Int.eq_ofNat_of_zero_le g1
        have e : σ.work k pieces = (0, (σ.gain k pieces).did k 1 k pieces) := by unfold Net.work; rw [if_neg (fun h' => h' ⟨⟨g1, g2⟩, h2a, h2b⟩), if_neg he]; rfl
        rw [e]
        have heI : ¬ (400 : Int) ≤ σ.evs.length := by omega
        have hk : k < σ.sta.length := by omega
        obtain ⟨s, hs⟩ : ∃ s, σ.sta[k]? = some s := ⟨_, List.getElem?_eq_getElem hk⟩
        obtain ⟨q1, q2, q3, q4, q5, q6⟩ := Hok.out.sta s (List.mem_of_getElem? hs)
        have Hc := hid (rcopy_any Hok.out Hr.out HH.out)
        have hg : σ.gain k pieces = { σ with sta := σ.sta.set k { s with pieces := s.pieces + pieces } } := by simp [Net.gain, hs]
        have hs2 : (σ.gain k pieces).sta[k]? = some { s with pieces := s.pieces + pieces } := by rw [hg]; simp [hk]
        have hev : (σ.gain k pieces).evs.length ≤ 400 := by rw [hg]; exact Hok.out.evs
        have hsum : IntKind.i64.wrap (s.pieces + pieces) = s.pieces + pieces := by rw [IntKind.wrap_i64]; have := Hok.out.evs; omega
        have Hs := hid (And.intro hs (And.intro hs2 (And.intro hev (And.intro (show k < s.clock.length by omega) (And.intro (show ∀ t ∈ s.clock, 0 ≤ t ∧ t < 1000000 from fun t ht => by have := q6 t ht; have := Hok.out.evs; omega) (show s.clock.length ≤ 1000 by have := Hok.out.n5; omega))))))
        clear e hs1 he hg hs2 hev hs q1 q2 q3 q4 q5 q6 g1
        go_enter Try.func67, Try.ntmps67
        go_wp2_with (first
          | (go_at_call 87; refine Hst.out.mono ?_; rintro e w' ⟨rfl, rfl⟩)
          | (go_at_call 88; refine Hc.out.mono ?_; rintro e w1 ⟨b1, m1, rfl, j1, j2, j3⟩
             obtain ⟨x1, x2, x3, x4, x5, x6⟩ := Hs.out
             obtain ⟨bh, oh, ch, cur, R, rfl, hcells, hlt, hput⟩ := j1.gaining x1
             obtain ⟨d0, d1⟩ := hcells w1 F j2
             have J2 := hid j2
             have J3 := hid j3
             have Hput := hid (hput pieces)
             clear hcells hput j1 j2 j3 x1 x2 x3 x4 x5 x6)
          | (refine wpList_store_blk rfl (.tmp 40) (.tmp 39) 3 rfl size3 bh (oh + k) (.int .i64 (s.pieces + pieces)) rfl rfl rfl cur 3 _ (J2.out.eq (MS.add_assoc _ _ _)) hlt ?_; intro w2 K1 K2)
          | (go_at_call 89
             obtain ⟨x1, x2, x3, x4, x5, x6⟩ := Hs.out
             refine (rdid_any Hput.out (K1.eq (MS.add_assoc _ _ _).symm) k _ x2 x4 1 k pieces x5 x6 (by omega)).mono ?_; rintro e w3 ⟨rfl, X, m3, z1, z2, z3⟩; have Z1 := hid z1; have Z2 := hid z2; have Z3 := hid z3; clear z1 z2 z3 x1 x2 x3 x4 x5 x6))
        go_ret2
        exact ⟨b1, m3 + X, rfl, by rw [MS.add_assoc]; exact Z1.out.rd, by rw [MS.add_assoc]; exact Z2.out, (J3.out.trans K2).trans Z3.out⟩
    · have hs1 := staB_yes h1
      rw [hs1] at Hst
      have e : σ.work no pieces = (2, σ) := by unfold Net.work; rw [if_pos (fun h' => h2 h'.2)]
      rw [e]
      clear e h1 hs1
      by_cases g1 : 1 ≤ pieces
      · have g2 : ¬ pieces ≤ 1000000 := fun h => h2 ⟨g1, h⟩
        clear h2
        go_enter Try.func67, Try.ntmps67
        go_wp2_with (go_at_call 87; refine Hst.out.mono ?_; rintro e w' ⟨rfl, rfl⟩)
        go_ret2
        exact ⟨b, 0, rfl, Hr.out.same, HH.out.same, Ext.refl w⟩
      · clear h2
        go_enter Try.func67, Try.ntmps67
        go_wp2_with (go_at_call 87; refine Hst.out.mono ?_; rintro e w' ⟨rfl, rfl⟩)
        go_ret2
        exact ⟨b, 0, rfl, Hr.out.same, HH.out.same, Ext.refl w⟩
  · have hs1 := staB_no h1
    rw [hs1] at Hst
    have e : σ.work no pieces = (2, σ) := by unfold Net.work; rw [if_pos (fun h' => h1 h'.1)]
    rw [e]
    clear e h1 hs1
    go_enter Try.func67, Try.ntmps67
    go_wp2_with (go_at_call 87; refine Hst.out.mono ?_; rintro e w' ⟨rfl, rfl⟩)
    go_ret2
    exact ⟨b, 0, rfl, Hr.out.same, HH.out.same, Ext.refl w⟩
end Go.Proofs.Ytnkgfgkgepadhaa

/-
  Plain: the net of SnapLimit.
-/
import Derived.Test.YtnkgfgkgepadhaaKeeps4
namespace Go.Proofs.Ytnkgfgkgepadhaa
set_option linter.unusedVariables false
set_option linter.unusedSimpArgs false

/-- Works at the limit: e events, s snapshots. -/
structure Lim (σ : Net) (e s : Nat) (tot : Int) : Prop where
  ok : NetOk σ
  n : σ.n = 2
  ev : σ.evs.length = e
  sh : σ.shots.length = s
  l01 : (σ.lineAt 0 1).map Msg.told = 1 :: (List.range s).map fun k : Nat => -((k : Int) + 1)
  l10 : σ.lineAt 1 0 = []
  p0 : 1 ≤ (σ.S 0).pieces
  tot : σ.held2 = tot
  cl : ∀ e ∈ σ.evs, e.clock.length ≤ 5

theorem zsum_two (f : Nat → Int) : zsum 2 f = f 0 + f 1 := by simp [zsum]
theorem held2_two {σ : Net} (hn : σ.n = 2) : σ.held2 = (σ.S 0).pieces + (σ.S 1).pieces + (totLine (σ.lineAt 0 0) + totLine (σ.lineAt 0 1) + (totLine (σ.lineAt 1 0) + totLine (σ.lineAt 1 1))) := by
  unfold Net.held2
  rw [hn, zsum_two, zsum_two, zsum_two, zsum_two]
theorem lim_start : newOk [3, 0] ∧ ((Net.new [3, 0]).send 0 1 1).1 = 0 ∧ Lim ((Net.new [3, 0]).send 0 1 1).2 1 0 3 := by
  have hok : newOk [3, 0] := by decide
  refine ⟨hok, by decide +kernel, (NetOk.new hok).send 0 1 1, by decide +kernel, by decide +kernel, by decide +kernel, by decide +kernel, ?_, by decide +kernel, by decide +kernel, ?_⟩
  · exact List.eq_nil_of_length_eq_zero (by decide +kernel)
  · intro e he
    have h := (EvsOk.new [3, 0]).send (NetOk.new hok) 0 1 1 e he
    have hn : ((Net.new [3, 0]).send 0 1 1).2.n = 2 := by decide +kernel
    have := h.cl
    omega
theorem totLine_told (l : List Msg) : totLine l = isum ((l.map Msg.told).map fun t => max t 0) := by unfold totLine; rw [List.map_map]; rfl
theorem Lim.work {σ : Net} {e s : Nat} {tot : Int} (h : Lim σ e s tot) (k : Nat) (hk : k < 2) (p : Int) (hp : 1 ≤ p ∧ p ≤ 1000000) (he : e < 400) : (σ.work k p).1 = 0 ∧ Lim (σ.work k p).2 (e + 1) s (tot + p) := by
  rcases work_cases h.ok k p with ⟨h1, _⟩ | ⟨h1, q, hq, hqn, _, _, _, ef⟩
  · exfalso
    apply h1
    unfold Net.work
    have hn : σ.sta.length = 2 := h.n
    rw [if_neg (by rw [hn]; omega), if_neg (by rw [h.ev]; omega)]
  · obtain rfl : q = k := by omega
    refine ⟨h1, h.ok.work _ _, by rw [ef.n, h.n], by rw [ef.evs]; simp [h.ev], by rw [ef.shots]; exact h.sh, by rw [ef.L]; exact h.l01, by rw [ef.L]; exact h.l10, ?_, ?_, ?_⟩
    · have := h.p0
      rw [ef.S]
      split
      · rename_i h0; rw [← h0]; simp only; omega
      · exact this
    · have hn' : (σ.work q p).2.n = 2 := by rw [ef.n, h.n]
      have := h.tot
      rw [held2_two h.n] at this
      rw [held2_two hn', ef.S, ef.S]
      simp only [ef.L]
      have hq2 : q = 0 ∨ q = 1 := by omega
      rcases hq2 with rfl | rfl <;> simp <;> omega
    · intro x hx
      rw [ef.evs] at hx
      rcases List.mem_append.1 hx with hx | hx
      · exact h.cl x hx
      · rw [List.mem_singleton.1 hx]
        simp only [tick_len]
        rw [S_clock h.ok (by rw [h.n]; exact hk), h.n]; omega
theorem Lim.full {σ : Net} {s : Nat} {tot : Int} (h : Lim σ 400 s tot) : (σ.work 0 1).1 = 8 ∧ (σ.work 0 1).2 = σ ∧ (σ.send 0 1 1).1 = 8 ∧ (σ.send 0 1 1).2 = σ ∧ (σ.recv 0 1).1 = 8 ∧ (σ.recv 0 1).2 = σ := by
  have hn : σ.sta.length = 2 := h.n
  have hev := h.ev
  have e1 : σ.work 0 1 = (8, σ) := by
    unfold Net.work
    rw [if_neg (by rw [hn]; omega), if_pos (by omega)]
  have e2 : σ.send 0 1 1 = (8, σ) := by
    have hheld : σ.held (0 : Int).toNat = (σ.S 0).pieces := by
      have := S_of (σ := σ) (k := 0) (by rw [h.n]; omega)
      simp [Net.held, this]
    unfold Net.send
    have hp : pairErr σ.sta.length 0 1 = 0 := by unfold pairErr; rw [if_pos (by rw [hn]; omega)]
    rw [if_neg (by rw [hp]; decide), if_neg (by decide), if_neg (by rw [hheld]; have := h.p0; omega), if_pos (by omega)]
  have e3 : σ.recv 0 1 = (8, σ) := by
    unfold Net.recv
    have hp : pairErr σ.sta.length 0 1 = 0 := by unfold pairErr; rw [if_pos (by rw [hn]; omega)]
    rw [if_neg (by rw [hp]; decide)]
    have hl := h.l01
    simp only [Int.toNat_zero, show (1 : Int).toNat = 1 by rfl]
    cases hc : σ.lineAt 0 1 with
    | nil => rw [hc] at hl; simp at hl
    | cons m rest =>
      rw [hc] at hl
      simp only [List.map_cons, List.cons.injEq] at hl
      simp only
      rw [if_pos (by omega), if_pos (by omega)]
  rw [e1, e2, e3]
  exact ⟨rfl, rfl, rfl, rfl, rfl, rfl⟩
theorem Lim.shot {σ : Net} {e s : Nat} {tot : Int} (h : Lim σ e s tot) (hs : s < 8) : (σ.start 1).1 = s + 1 ∧ (σ.start 1).2.1 = 0 ∧ ((σ.start 1).2.2.recv 1 0).1 = 0 ∧ Lim ((σ.start 1).2.2.recv 1 0).2 e (s + 1) tot := by
  have hn : σ.sta.length = 2 := h.n
  rcases start_cases h.ok 1 with ⟨h1, _⟩ | ⟨h1, h2, q, hq, hqn, _, ef⟩
  · exfalso
    apply h1
    unfold Net.start
    rw [if_neg (by rw [hn]; omega), if_neg (by rw [h.sh]; omega)]
  · obtain rfl : q = 1 := by omega
    refine ⟨by rw [h2, h.sh], h1, ?_⟩
    have hok := h.ok.start 1
    generalize (σ.start 1).2.2 = σ1 at *
    have hn1 : σ1.n = 2 := by rw [ef.n, h.n]
    have hL10 : σ1.lineAt 1 0 = [⟨-((s : Int) + 1), []⟩] := by rw [ef.L, if_pos ⟨rfl, by rw [h.n]; omega, by decide⟩, h.l10, h.sh]; rfl
    have hL01 : σ1.lineAt 0 1 = σ.lineAt 0 1 := by rw [ef.L, if_neg (fun h => absurd h.1 (by decide))]
    have hL00 : σ1.lineAt 0 0 = σ.lineAt 0 0 := by rw [ef.L, if_neg (fun h => absurd h.1 (by decide))]
    have hL11 : σ1.lineAt 1 1 = σ.lineAt 1 1 := by rw [ef.L, if_neg (fun h => h.2.2 rfl)]
    have hX := ef.X s
    rw [if_pos h.sh.symm] at hX
    have hR0 : (σ1.X s).R 0 = false := by rw [hX, note_R (new_dim σ.n) hqn, if_neg (by decide), new_R]
    rcases recv_cases hok 1 0 with ⟨g1, _⟩ | ⟨g1, i, j, hi, hj, hin, hjn, hij, m, rest, hl, ⟨g2, _⟩ | ⟨k, hk, hkl, ef2⟩⟩
    · exfalso
      apply g1
      have hn1' : σ1.sta.length = 2 := hn1
      unfold Net.recv
      have hp : pairErr σ1.sta.length 1 0 = 0 := by unfold pairErr; rw [if_pos (by rw [hn1']; omega)]
      rw [if_neg (by rw [hp]; decide)]
      simp only [Int.toNat_zero, show (1 : Int).toNat = 1 by rfl, hL10]
      rw [if_neg (by omega)]
    · exfalso
      obtain rfl : i = 1 := by omega
      obtain rfl : j = 0 := by omega
      rw [hL10] at hl
      injection hl with hl1 hl2
      rw [← hl1] at g2
      simp only at g2
      omega
    · obtain rfl : i = 1 := by omega
      obtain rfl : j = 0 := by omega
      rw [hL10] at hl
      injection hl with hl1 hl2
      rw [← hl1] at hk
      simp only at hk
      obtain rfl : k = s := by omega
      subst hl2
      refine ⟨g1, hok.recv 1 0, by rw [ef2.n, hn1], by rw [ef2.evs, ef.evs]; exact h.ev, by rw [ef2.len, ef.len, h.sh], ?_, ?_, ?_, ?_, ?_⟩
      · rw [ef2.L, if_neg (fun h => absurd h.1 (by decide)), if_pos ⟨hR0, rfl, by rw [hn1]; omega, by decide⟩, hL01, List.map_append, h.l01, List.range_succ, List.map_append]
        rfl
      · rw [ef2.L, if_pos ⟨rfl, rfl⟩]
      · have e1 : ((σ1.recv 1 0).2.S 0) = σ.S 0 := by unfold Net.S; rw [ef2.sta, ef.sta]
        rw [e1]; exact h.p0
      · have hS : ∀ a, (σ1.recv 1 0).2.S a = σ.S a := fun a => by unfold Net.S; rw [ef2.sta, ef.sta]
        have hn2 : (σ1.recv 1 0).2.n = 2 := by rw [ef2.n, hn1]
        have := h.tot
        rw [held2_two h.n] at this
        rw [held2_two hn2, hS, hS]
        have a1 : (σ1.recv 1 0).2.lineAt 0 0 = σ.lineAt 0 0 := by rw [ef2.L, if_neg (fun h => absurd h.1 (by decide)), if_neg (fun h => h.2.2.2 rfl), hL00]
        have a2 : (σ1.recv 1 0).2.lineAt 0 1 = σ.lineAt 0 1 ++ [⟨-((k : Int) + 1), []⟩] := by rw [ef2.L, if_neg (fun h => absurd h.1 (by decide)), if_pos ⟨hR0, rfl, by rw [hn1]; omega, by decide⟩, hL01]
        have a3 : (σ1.recv 1 0).2.lineAt 1 0 = [] := by rw [ef2.L, if_pos ⟨rfl, rfl⟩]
        have a4 : (σ1.recv 1 0).2.lineAt 1 1 = σ.lineAt 1 1 := by rw [ef2.L, if_neg (fun h => absurd h.2 (by decide)), if_neg (fun h => absurd h.2.1 (by decide)), hL11]
        rw [a1, a2, a3, a4, totLine_append, totLine_one]
        rw [h.l10] at this
        simp only
        omega
      · rw [ef2.evs, ef.evs]; exact h.cl
theorem Lim.last {σ : Net} {e : Nat} {tot : Int} (h : Lim σ e 8 tot) : σ.start 0 = (0, 8, σ) := by
  have hn : σ.sta.length = 2 := h.n
  unfold Net.start
  rw [if_neg (by rw [hn]; omega), if_pos (by rw [h.sh]; omega)]
end Go.Proofs.Ytnkgfgkgepadhaa

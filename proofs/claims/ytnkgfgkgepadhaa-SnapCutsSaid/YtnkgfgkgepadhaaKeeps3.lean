/-
  Plain: nothing is lost: Receive and Start; what a snapshot that is done has recorded.
-/
import Derived.Test.YtnkgfgkgepadhaaKeeps2
namespace Go.Proofs.Ytnkgfgkgepadhaa
set_option linter.unusedVariables false
set_option linter.unusedSimpArgs false

theorem told_mark {k : Nat} {m : Msg} (h : 0 < m.told) : isMark k m = false := by simp [isMark]; omega
theorem mark_is (k q : Nat) : isMark k ⟨-((q : Int) + 1), []⟩ = (q == k) := by
  simp only [isMark]
  rw [Bool.eq_iff_iff]
  simp
  omega

theorem KI.take {σ σ' : Net} {p0 : Int} (h : KI σ p0) (hok : NetOk σ') {i j : Nat} (hi : i < σ.n) (hj : j < σ.n) (hij : i ≠ j) {m : Msg} {rest : List Msg} (hl : σ.lineAt i j = m :: rest) (h0 : 0 < m.told) (h1 : m.told ≤ 1000000) (e : TakeEff σ σ' i j m rest) : KI σ' p0 := by
  have hSe : ∀ a, (σ'.S a).events = if a = j then (σ.S j).events + 1 else (σ.S a).events := fun a => by rw [e.S]; split <;> rfl
  have hSp : ∀ a, (σ'.S a).pieces = if a = j then (σ.S j).pieces + m.told else (σ.S a).pieces := fun a => by rw [e.S]; split <;> rfl
  have hmax : max m.told 0 = m.told := by omega
  have hLij : σ'.lineAt i j = rest := by rw [e.L, if_pos ⟨rfl, rfl⟩]
  refine ⟨hok, ev_step h.ev rfl e.evs e.n hSe, st_step h.st hj rfl e.evs e.n, fun a => by rw [e.L, if_neg (fun h => hij (h.1.symm.trans h.2))]; exact h.di a, ?_, fun k hk => ?_⟩
  · have h1 := zsum_upd (f := fun a => (σ'.S a).pieces) (g := fun a => (σ.S a).pieces) hj (fun a _ ha => by rw [hSp, if_neg ha])
    rw [hSp, if_pos rfl] at h1
    have h2 := zsum2_upd (f := fun a b => totLine (σ'.lineAt a b)) (g := fun a b => totLine (σ.lineAt a b)) hi hj (fun a b _ _ hab => by rw [e.L, if_neg hab])
    rw [hLij, hl, totLine_cons, hmax] at h2
    have := h.tot
    unfold Net.held2 at this ⊢
    rw [e.n, e.evs, madeL_snoc]
    simp only [show ((3 : Int) = 1) = False by simp, false_and, if_false]
    omega
  · rw [e.len] at hk
    have s := h.sh k hk
    have d := h.ok.dim hk
    have hR : ∀ a, (σ'.X k).R a = (σ.X k).R a := fun a => by rw [e.X]; split <;> rfl
    have hT : ∀ a, (σ'.X k).T a = (σ.X k).T a := fun a => by rw [e.X]; split <;> rfl
    have hP : ∀ a, (σ'.X k).P a = (σ.X k).P a := fun a => by rw [e.X]; split <;> rfl
    have hC : ∀ a b, (σ'.X k).C a b = (σ.X k).C a b := fun a b => by rw [e.X]; split <;> rfl
    have hU : ∀ a b, (σ'.X k).U a b = if (a = i ∧ b = j) ∧ (σ.X k).R j = true ∧ (σ.X k).C i j = false then (σ.X k).U i j ++ [m.told] else (σ.X k).U a b := fun a b => by
      rw [e.X]
      by_cases hc : (σ.X k).R j = true ∧ (σ.X k).C i j = false
      · rw [if_pos ⟨hk, hc⟩, more_U d hi hj]
        by_cases hab : a = i ∧ b = j
        · rw [if_pos hab, if_pos ⟨hab, hc⟩]
        · rw [if_neg hab, if_neg (fun h => hab h.1)]
      · rw [if_neg (fun h => hc h.2), if_neg (fun h => hc h.2)]
    refine ⟨fun a ha hRa => ?_, ?_, ?_, ?_, fun a => ?_, ?_, ?_, ?_⟩
    · rw [e.n] at ha
      rw [hR] at hRa
      have := s.t a ha hRa
      rw [hT, hSe]
      split
      · rename_i h; subst h; omega
      · exact this
    · rw [e.n]; intro a b ha hb; rw [hC, hR, hR]; exact s.c a b ha hb
    · rw [e.n]
      intro a b ha hb hm
      rw [hR]
      refine s.m a b ha hb ?_
      obtain ⟨m', hm', hk'⟩ := hm
      refine ⟨m', ?_, hk'⟩
      rw [e.L] at hm'
      split at hm'
      · rename_i hc
        obtain ⟨rfl, rfl⟩ := hc
        rw [hl]; exact List.mem_cons_of_mem _ hm'
      · exact hm'
    · rw [e.n]
      intro a b ha hb hab hRa
      rw [hR] at hRa
      rw [hC]
      rcases s.d a b ha hb hab hRa with h1 | ⟨m', hm', hk'⟩
      · exact .inl h1
      · refine .inr ⟨m', ?_, hk'⟩
        rw [e.L]
        split
        · rename_i hc
          obtain ⟨rfl, rfl⟩ := hc
          rw [hl] at hm'
          rcases List.mem_cons.1 hm' with rfl | hm'
          · rw [told_mark h0] at hk'; cases hk'
          · exact hm'
        · exact hm'
    · rw [hU, if_neg (fun h => hij (h.1.1.symm.trans h.1.2))]; exact s.u a
    · rw [e.n]; intro a ha; rw [hP]; exact s.p a ha
    · intro a b v hv
      rw [hU] at hv
      split at hv
      · rcases List.mem_append.1 hv with hv | hv
        · exact s.ub i j v hv
        · obtain rfl := List.mem_singleton.1 hv; omega
      · exact s.ub a b v hv
    · have h1 := made_step (x := σ.X k) (x' := σ'.X k) (p0 := p0) hj h.ev h.st rfl e.evs hSe hR hT (fun i hi hR => (s.t i hi hR).2)
      have h2 := zsum_upd (f := Pst σ' (σ'.X k)) (g := Pst σ (σ.X k)) hj (fun a _ ha => by unfold Pst; rw [hR, hP, hSp, if_neg ha])
      have h3 := zsum2_upd (f := Cst σ' (σ'.X k) k) (g := Cst σ (σ.X k) k) hi hj (fun a b _ _ hab => by unfold Cst; rw [e.L, if_neg hab, hC, hU, if_neg (fun h => hab h.1)])
      have h4 := s.sum
      rw [e.n, h1]
      simp only [show ((3 : Int) = 1) = False by simp, false_and, if_false]
      have h5 : Cst σ' (σ'.X k) k i j = Cst σ (σ.X k) k i j - if (σ.X k).R j = true then 0 else m.told := by
        unfold Cst
        rw [hLij, hl, hC, hU, before_cons _ (told_mark h0), hmax]
        by_cases hRj : (σ.X k).R j = true
        · rw [if_pos hRj]
          by_cases hc : (σ.X k).C i j = true
          · rw [if_neg (fun h => by rw [hc] at h; cases h.2.2), if_pos hc, if_pos hc]; omega
          · rw [if_pos ⟨⟨rfl, rfl⟩, hRj, by simpa using hc⟩, if_neg hc, if_neg hc, isum_snoc]; omega
        · have hc : ¬ (σ.X k).C i j = true := fun hc => hRj (s.c i j hi hj hc).2
          rw [if_neg (fun h => hRj h.2.1), if_neg hc, if_neg hc, if_neg hRj]; omega
      rw [h5] at h3
      have h6 : Pst σ' (σ'.X k) j = Pst σ (σ.X k) j + if (σ.X k).R j = true then 0 else m.told := by
        unfold Pst
        rw [hR, hP, hSp, if_pos (rfl : j = j)]
        split <;> omega
      rw [h6] at h2
      omega

theorem KI.heard {σ σ' : Net} {p0 : Int} (h : KI σ p0) (hok : NetOk σ') {i j q : Nat} (hi : i < σ.n) (hj : j < σ.n) (hij : i ≠ j) {m : Msg} {rest : List Msg} (hl : σ.lineAt i j = m :: rest) (hm : m.told = -((q : Int) + 1)) (hq : q < σ.shots.length) (e : HeardEff σ σ' i j q rest) : KI σ' p0 := by
  have hS : ∀ a, σ'.S a = σ.S a := fun a => by unfold Net.S; rw [e.sta]
  have hLij : σ'.lineAt i j = rest := by rw [e.L, if_pos ⟨rfl, rfl⟩]
  have hmk : ∀ k, isMark k m = (q == k) := fun k => by
    simp only [isMark, hm]; rw [Bool.eq_iff_iff]; simp; omega
  have hbt : ∀ a b, ¬ (a = i ∧ b = j) → ∀ k, before k (σ'.lineAt a b) = before k (σ.lineAt a b) := fun a b hab k => by
    rw [e.L, if_neg hab]
    split
    · exact before_snoc k _ (by simp only; omega)
    · rfl
  have htl : ∀ a b, totLine (σ'.lineAt a b) = totLine (σ.lineAt a b) := fun a b => by
    rw [e.L]
    split
    · rename_i hc
      obtain ⟨rfl, rfl⟩ := hc
      rw [hl, totLine_cons]; omega
    · split
      · rw [totLine_append, totLine_one]; simp only; omega
      · rfl
  refine ⟨hok, fun a ha => by rw [hS, e.evs]; rw [e.n] at ha; exact h.ev a ha, by rw [e.evs, e.n]; exact h.st, fun a => by rw [e.L, if_neg (fun h => hij (h.1.symm.trans h.2)), if_neg (fun h => h.2.2.2 h.2.1)]; exact h.di a, ?_, fun k hk => ?_⟩
  · have := h.tot
    unfold Net.held2 at this ⊢
    rw [e.n, e.evs]
    simp only [hS, htl]
    exact this
  · rw [e.len] at hk
    have s := h.sh k hk
    have d := h.ok.dim hk
    by_cases hkq : k = q
    · -- the snapshot itself
      subst hkq
      have hX := e.X k
      rw [if_pos rfl] at hX
      have dn : Dim (if (σ.X k).R j = true then σ.X k else (σ.X k).note j (σ.S j)) σ.n := by
        split
        · exact d
        · exact ⟨by simp [Shot.note, d.r], d.c, d.cc, by simp [Shot.note, d.t], by simp [Shot.note, d.p], d.u, d.uu⟩
      have hR : ∀ a, (σ'.X k).R a = if a = j then true else (σ.X k).R a := fun a => by
        rw [hX]
        show (if (σ.X k).R j = true then σ.X k else (σ.X k).note j (σ.S j)).R a = _
        by_cases hRj : (σ.X k).R j = true
        · rw [if_pos hRj]; split
          · rename_i h; rw [h, hRj]
          · rfl
        · rw [if_neg hRj, note_R d hj]
      have hP : ∀ a, (σ'.X k).P a = if a = j ∧ (σ.X k).R j = false then (σ.S j).pieces else (σ.X k).P a := fun a => by
        rw [hX]
        show (if (σ.X k).R j = true then σ.X k else (σ.X k).note j (σ.S j)).P a = _
        by_cases hRj : (σ.X k).R j = true
        · rw [if_pos hRj, if_neg (fun h => by rw [hRj] at h; cases h.2)]
        · rw [if_neg hRj, note_P d hj]
          have hRj : (σ.X k).R j = false := by simpa using hRj
          by_cases ha : a = j
          · rw [if_pos ha, if_pos ⟨ha, hRj⟩]
          · rw [if_neg ha, if_neg (fun h => ha h.1)]
      have hT : ∀ a, (σ'.X k).T a = if a = j ∧ (σ.X k).R j = false then (σ.S j).events else (σ.X k).T a := fun a => by
        rw [hX]
        show (if (σ.X k).R j = true then σ.X k else (σ.X k).note j (σ.S j)).T a = _
        by_cases hRj : (σ.X k).R j = true
        · rw [if_pos hRj, if_neg (fun h => by rw [hRj] at h; cases h.2)]
        · rw [if_neg hRj, note_T d hj]
          have hRj : (σ.X k).R j = false := by simpa using hRj
          by_cases ha : a = j
          · rw [if_pos ha, if_pos ⟨ha, hRj⟩]
          · rw [if_neg ha, if_neg (fun h => ha h.1)]
      have hC : ∀ a b, (σ'.X k).C a b = if a = i ∧ b = j then true else (σ.X k).C a b := fun a b => by
        rw [hX, shut_C dn hi hj]
        split
        · rfl
        · split <;> rfl
      have hU : ∀ a b, (σ'.X k).U a b = (σ.X k).U a b := fun a b => by
        rw [hX]
        show (if (σ.X k).R j = true then σ.X k else (σ.X k).note j (σ.S j)).U a b = _
        split <;> rfl
      have hRi : (σ.X k).R i = true := s.m i j hi hj ⟨m, by rw [hl]; simp, by rw [hmk]; simp⟩
      have hPst : ∀ a, Pst σ' (σ'.X k) a = Pst σ (σ.X k) a := fun a => by
        unfold Pst
        rw [hR, hP, hS]
        by_cases ha : a = j
        · subst ha
          cases hRj : (σ.X k).R a with
          | true => simp [hRj]
          | false => simp [hRj]
        · simp [ha]
      have hTst : ∀ a, Tst σ' (σ'.X k) a = Tst σ (σ.X k) a := fun a => by
        unfold Tst
        rw [hR, hT, hS]
        by_cases ha : a = j
        · subst ha
          cases hRj : (σ.X k).R a with
          | true => simp [hRj]
          | false => simp [hRj]
        · simp [ha]
      refine ⟨fun a ha hRa => ?_, ?_, ?_, ?_, fun a => by rw [hU]; exact s.u a, ?_, fun a b v hv => s.ub a b v (by rw [hU] at hv; exact hv), ?_⟩
      · rw [e.n] at ha
        rw [hT, hS]
        split
        · rename_i hc
          rw [hc.1]
          have := S_bound h.ok hj
          omega
        · rename_i hc
          rw [hR] at hRa
          refine s.t a ha ?_
          by_cases haj : a = j
          · have : (σ.X k).R j = true := by
              cases hRj : (σ.X k).R j with
              | true => rfl
              | false => exact absurd ⟨haj, hRj⟩ hc
            rw [haj]; exact this
          · rw [if_neg haj] at hRa; exact hRa
      · rw [e.n]
        intro a b ha hb hc
        rw [hC] at hc
        rw [hR, hR]
        by_cases hab : a = i ∧ b = j
        · rw [hab.1, hab.2]
          exact ⟨by rw [hRi]; split <;> rfl, by rw [if_pos rfl]⟩
        · rw [if_neg hab] at hc
          obtain ⟨c1, c2⟩ := s.c a b ha hb hc
          exact ⟨by rw [c1]; split <;> rfl, by rw [c2]; split <;> rfl⟩
      · rw [e.n]
        intro a b ha hb hm'
        rw [hR]
        by_cases haj : a = j
        · rw [if_pos haj]
        · rw [if_neg haj]
          refine s.m a b ha hb ?_
          obtain ⟨m', hm', hk'⟩ := hm'
          refine ⟨m', ?_, hk'⟩
          rw [e.L] at hm'
          split at hm'
          · rename_i hc
            obtain ⟨rfl, rfl⟩ := hc
            rw [hl]; exact List.mem_cons_of_mem _ hm'
          · rw [if_neg (fun h => haj h.2.1)] at hm'
            exact hm'
      · rw [e.n]
        intro a b ha hb hab hRa
        rw [hC]
        by_cases hc : a = i ∧ b = j
        · rw [if_pos hc]; exact .inl rfl
        · rw [if_neg hc]
          by_cases hRa' : (σ.X k).R a = true
          · rcases s.d a b ha hb hab hRa' with h1 | ⟨m', hm', hk'⟩
            · exact .inl h1
            · refine .inr ⟨m', ?_, hk'⟩
              rw [e.L, if_neg hc]
              split
              · exact List.mem_append_left _ hm'
              · exact hm'
          · rw [hR] at hRa
            have haj : a = j := by
              by_cases haj : a = j
              · exact haj
              · rw [if_neg haj] at hRa; exact absurd hRa hRa'
            refine .inr ⟨⟨-((k : Int) + 1), []⟩, ?_, by rw [mark_is]; simp⟩
            rw [e.L, if_neg hc, if_pos ⟨by rw [← haj]; simpa using hRa', haj, hb, fun h => hab (haj.trans h.symm)⟩]
            simp
      · rw [e.n]
        intro a ha
        rw [hP]
        split
        · have := S_bound h.ok hj; omega
        · exact s.p a ha
      · have h1 : madeL (okT σ' (σ'.X k)) σ'.evs = madeL (okT σ (σ.X k)) σ.evs := by
          rw [e.evs]; exact madeL_congr fun s c _ => by unfold okT; rw [hTst]
        have h2 : zsum σ.n (Pst σ' (σ'.X k)) = zsum σ.n (Pst σ (σ.X k)) := zsum_congr fun a _ => hPst a
        have h3 : zsum σ.n (fun a => zsum σ.n (Cst σ' (σ'.X k) k a)) = zsum σ.n (fun a => zsum σ.n (Cst σ (σ.X k) k a)) := zsum2_congr fun a b ha hb => by
          unfold Cst
          rw [hU, hC]
          by_cases hc : a = i ∧ b = j
          · rw [if_pos hc, if_pos rfl, hc.1, hc.2, hl, before_cons_mark _ (by rw [hmk]; simp)]
            split <;> rfl
          · rw [if_neg hc, hbt a b hc]
        have h4 := s.sum
        rw [e.n, h1, h2, h3]
        exact h4
    · -- another snapshot
      have hX : σ'.X k = σ.X k := by rw [e.X, if_neg hkq]
      rw [hX]
      have hmem : ∀ a b m', isMark k m' = true → (m' ∈ σ'.lineAt a b ↔ m' ∈ σ.lineAt a b) := fun a b m' hk' => by
        rw [e.L]
        split
        · rename_i hc
          obtain ⟨rfl, rfl⟩ := hc
          rw [hl, List.mem_cons]
          refine ⟨.inr, fun h => h.resolve_left fun h => ?_⟩
          rw [h, hmk] at hk'
          exact hkq (Eq.symm (by simpa using hk'))
        · split
          · rw [List.mem_append]
            refine ⟨fun h => h.resolve_right fun h => ?_, .inl⟩
            rw [List.mem_singleton.1 h, mark_is] at hk'
            exact hkq (Eq.symm (by simpa using hk'))
          · rfl
      refine ⟨fun a ha hRa => by rw [hS]; rw [e.n] at ha; exact s.t a ha hRa, by rw [e.n]; exact s.c, ?_, ?_, s.u, by rw [e.n]; exact s.p, s.ub, ?_⟩
      · rw [e.n]
        intro a b ha hb ⟨m', hm', hk'⟩
        exact s.m a b ha hb ⟨m', (hmem a b m' hk').1 hm', hk'⟩
      · rw [e.n]
        intro a b ha hb hab hRa
        rcases s.d a b ha hb hab hRa with h1 | ⟨m', hm', hk'⟩
        · exact .inl h1
        · exact .inr ⟨m', (hmem a b m' hk').2 hm', hk'⟩
      · have h4 := s.sum
        have h1 : madeL (okT σ' (σ.X k)) σ'.evs = madeL (okT σ (σ.X k)) σ.evs := by
          rw [e.evs]; exact madeL_congr fun s c _ => by unfold okT Tst; rw [hS]
        have h2 : zsum σ.n (Pst σ' (σ.X k)) = zsum σ.n (Pst σ (σ.X k)) := zsum_congr fun a _ => by unfold Pst; rw [hS]
        have h3 : zsum σ.n (fun a => zsum σ.n (Cst σ' (σ.X k) k a)) = zsum σ.n (fun a => zsum σ.n (Cst σ (σ.X k) k a)) := zsum2_congr fun a b ha hb => by
          unfold Cst
          by_cases hc : a = i ∧ b = j
          · rw [hc.1, hc.2, hLij, hl, before_cons _ (by rw [hmk]; simpa using fun h => hkq h.symm)]
            split <;> omega
          · rw [hbt a b hc]
        rw [e.n, h1, h2, h3]
        exact h4

theorem KI.recv {σ : Net} {p0 : Int} (h : KI σ p0) (x y : Int) : KI (σ.recv x y).2 p0 := by
  have hok := h.ok.recv x y
  rcases recv_cases h.ok x y with ⟨_, h2, _⟩ | ⟨_, i, j, _, _, hi, hj, hij, m, rest, hl, ⟨h0, h1, _, _, e⟩ | ⟨q, hm, hq, e⟩⟩
  · rw [h2]; exact h
  · exact h.take hok hi hj hij hl h0 h1 e
  · exact h.heard hok hi hj hij hl hm hq e

theorem new_U (n i j : Nat) : (Shot.new n).U i j = [] := by
  simp only [Shot.new, Shot.U, List.getD, List.getElem?_replicate]
  split
  · simp only [Option.getD_some, List.getElem?_replicate]; split <;> rfl
  · rfl
theorem new_P (n j : Nat) : (Shot.new n).P j = 0 := by
  simp only [Shot.new, Shot.P, List.getD, List.getElem?_replicate]; split <;> rfl
theorem KI.start {σ : Net} {p0 : Int} (h : KI σ p0) (x : Int) : KI (σ.start x).2.2 p0 := by
  have hok := h.ok.start x
  rcases start_cases h.ok x with ⟨_, _, h2⟩ | ⟨_, _, q, _, hq, h8, e⟩
  · rw [h2]; exact h
  generalize (σ.start x).2.2 = σ' at *
  have hS : ∀ a, σ'.S a = σ.S a := fun a => by unfold Net.S; rw [e.sta]
  have hbt : ∀ a b k, before k (σ'.lineAt a b) = before k (σ.lineAt a b) := fun a b k => by
    rw [e.L]
    split
    · exact before_snoc k _ (by simp only; omega)
    · rfl
  have htl : ∀ a b, totLine (σ'.lineAt a b) = totLine (σ.lineAt a b) := fun a b => by
    rw [e.L]
    split
    · rw [totLine_append, totLine_one]; simp only; omega
    · rfl
  have hmem : ∀ k, k < σ.shots.length → ∀ a b m', isMark k m' = true → (m' ∈ σ'.lineAt a b ↔ m' ∈ σ.lineAt a b) := fun k hk a b m' hk' => by
    rw [e.L]
    split
    · rw [List.mem_append]
      refine ⟨fun h => h.resolve_right fun h => ?_, .inl⟩
      rw [List.mem_singleton.1 h, mark_is] at hk'
      have : σ.shots.length = k := by simpa using hk'
      omega
    · rfl
  have hnone : ∀ a b, a < σ.n → b < σ.n → ∀ m' ∈ σ.lineAt a b, isMark σ.shots.length m' = false := fun a b ha hb m' hm' => by
    rcases told_ge h.ok ha hb hm' with h1 | h1
    · exact told_mark h1.1
    · simp [isMark]; omega
  refine ⟨hok, fun a ha => by rw [hS, e.evs]; rw [e.n] at ha; exact h.ev a ha, by rw [e.evs, e.n]; exact h.st, fun a => by rw [e.L, if_neg (fun h => h.2.2 h.1)]; exact h.di a, ?_, fun k hk => ?_⟩
  · have := h.tot
    unfold Net.held2 at this ⊢
    rw [e.n, e.evs]
    simp only [hS, htl]
    exact this
  · rw [e.len] at hk
    by_cases hkn : k = σ.shots.length
    · have hX := e.X k
      rw [if_pos hkn] at hX
      have d := new_dim σ.n
      have hR : ∀ a, (σ'.X k).R a = if a = q then true else false := fun a => by rw [hX, note_R d hq, new_R]
      have hP : ∀ a, (σ'.X k).P a = if a = q then (σ.S q).pieces else 0 := fun a => by rw [hX, note_P d hq, new_P]
      have hT : ∀ a, a = q → (σ'.X k).T a = (σ.S q).events := fun a ha => by rw [hX, note_T d hq, if_pos ha]
      have hC : ∀ a b, (σ'.X k).C a b = false := fun a b => by rw [hX]; exact new_C σ.n a b
      have hU : ∀ a b, (σ'.X k).U a b = [] := fun a b => by rw [hX]; exact new_U σ.n a b
      refine ⟨fun a ha hRa => ?_, fun a b _ _ hc => (by rw [hC] at hc; cases hc), ?_, ?_, fun a => hU a a, ?_, fun a b v hv => (by rw [hU] at hv; cases hv), ?_⟩
      · rw [hR] at hRa
        have haq : a = q := by
          by_cases haq : a = q
          · exact haq
          · rw [if_neg haq] at hRa; cases hRa
        rw [hT a haq, hS, haq]
        have := S_bound h.ok hq
        omega
      · rw [e.n]
        intro a b ha hb ⟨m', hm', hk'⟩
        rw [hR]
        by_cases haq : a = q
        · rw [if_pos haq]
        · rw [e.L, if_neg (fun h => haq h.1)] at hm'
          rw [hkn, hnone a b ha hb m' hm'] at hk'
          cases hk'
      · rw [e.n]
        intro a b ha hb hab hRa
        rw [hR] at hRa
        have haq : a = q := by
          by_cases haq : a = q
          · exact haq
          · rw [if_neg haq] at hRa; cases hRa
        refine .inr ⟨⟨-((σ.shots.length : Int) + 1), []⟩, ?_, by rw [mark_is, hkn]; simp⟩
        rw [e.L, if_pos ⟨haq, hb, fun h => hab (haq.trans h.symm)⟩]
        simp
      · rw [e.n]
        intro a ha
        rw [hP]
        split
        · have := S_bound h.ok hq; omega
        · omega
      · have h4 := h.tot
        unfold Net.held2 at h4
        have h1 : madeL (okT σ' (σ'.X k)) σ'.evs = madeL (fun _ _ => true) σ.evs := by
          rw [e.evs]
          refine madeL_congr fun s c hc => ?_
          have hpos : 0 < cntE σ.evs s := by omega
          unfold cntE at hpos
          obtain ⟨ev, hev, hs⟩ := List.countP_pos_iff.1 hpos
          obtain ⟨a, h5, ha⟩ := h.st ev hev
          have hs : ev.station = s := by simpa using hs
          subst hs
          rw [h5] at hc ⊢
          have h6 := h.ev a ha
          unfold okT Tst
          rw [Int.toNat_natCast, hR, hS]
          refine decide_eq_true ?_
          by_cases haq : a = q
          · rw [if_pos (by rw [if_pos haq]), hT a haq, ← haq]; omega
          · rw [if_neg (by rw [if_neg haq]; decide)]; omega
        have h2 : zsum σ.n (Pst σ' (σ'.X k)) = zsum σ.n fun i => (σ.S i).pieces := zsum_congr fun a _ => by
          unfold Pst
          rw [hR, hP, hS]
          by_cases haq : a = q
          · rw [if_pos (by rw [if_pos haq]), if_pos haq, haq]
          · rw [if_neg (by rw [if_neg haq]; decide)]
        have h3 : zsum σ.n (fun a => zsum σ.n (Cst σ' (σ'.X k) k a)) = zsum σ.n (fun a => zsum σ.n fun b => totLine (σ.lineAt a b)) := zsum2_congr fun a b ha hb => by
          unfold Cst
          rw [hU, hC, if_neg (by decide), hbt, hkn, before_none (hnone a b ha hb)]
          simp [isum]
        rw [e.n, h1, h2, h3]
        exact h4
    · have hk : k < σ.shots.length := by omega
      have hX : σ'.X k = σ.X k := by rw [e.X, if_neg hkn]
      have s := h.sh k hk
      rw [hX]
      refine ⟨fun a ha hRa => by rw [hS]; rw [e.n] at ha; exact s.t a ha hRa, by rw [e.n]; exact s.c, ?_, ?_, s.u, by rw [e.n]; exact s.p, s.ub, ?_⟩
      · rw [e.n]
        intro a b ha hb ⟨m', hm', hk'⟩
        exact s.m a b ha hb ⟨m', (hmem k hk a b m' hk').1 hm', hk'⟩
      · rw [e.n]
        intro a b ha hb hab hRa
        rcases s.d a b ha hb hab hRa with h1 | ⟨m', hm', hk'⟩
        · exact .inl h1
        · exact .inr ⟨m', (hmem k hk a b m' hk').2 hm', hk'⟩
      · have h4 := s.sum
        have h1 : madeL (okT σ' (σ.X k)) σ'.evs = madeL (okT σ (σ.X k)) σ.evs := by
          rw [e.evs]; exact madeL_congr fun s c _ => by unfold okT Tst; rw [hS]
        have h2 : zsum σ.n (Pst σ' (σ.X k)) = zsum σ.n (Pst σ (σ.X k)) := zsum_congr fun a _ => by unfold Pst; rw [hS]
        have h3 : zsum σ.n (fun a => zsum σ.n (Cst σ' (σ.X k) k a)) = zsum σ.n (fun a => zsum σ.n (Cst σ (σ.X k) k a)) := zsum2_congr fun a b ha hb => by
          unfold Cst; rw [hbt]
        rw [e.n, h1, h2, h3]
        exact h4
theorem KI.act {σ : Net} {p0 : Int} (h : KI σ p0) (x : ActD) : KI (σ.act x) p0 := by
  unfold Net.act
  split
  · exact h.work _ _
  · split
    · exact h.send _ _ _
    · split
      · exact h.start _
      · exact h.recv _ _
theorem KI.acts {p0 : Int} : ∀ (l : List ActD) {σ : Net}, KI σ p0 → KI (σ.acts l) p0
  | [], _, h => h
  | x :: l, _, h => KI.acts l (h.act x)
theorem zsum_isum (l : List Int) : zsum l.length (fun i => l.getD i 0) = isum l := by
  have key : ∀ n, n ≤ l.length → zsum n (fun i => l.getD i 0) = isum (l.take n) := by
    intro n
    induction n with
    | zero => intro _; rfl
    | succ n ih =>
      intro h
      rw [zsum, ih (by omega), List.take_succ_eq_append_getElem (by omega), isum_snoc]
      simp [List.getD, List.getElem?_eq_getElem (show n < l.length by omega)]
  rw [key _ (Nat.le_refl _), List.take_length]
theorem new_lineAt (l : List Int) (a b : Nat) : (Net.new l).lineAt a b = [] := by
  simp only [Net.new, Net.lineAt, List.getD, List.getElem?_replicate]
  split
  · simp only [Option.getD_some, List.getElem?_replicate]; split <;> rfl
  · rfl
theorem new_S (l : List Int) {i : Nat} (hi : i < l.length) : (Net.new l).S i = Sta.new l.length (l.getD i 0) := by
  simp [Net.new, Net.S, List.getD, hi]
theorem KI.new {l : List Int} (h : newOk l) : KI (Net.new l) (isum l) := by
  have hn : (Net.new l).n = l.length := by simp [Net.n, Net.new]
  refine ⟨NetOk.new h, fun i hi => ?_, fun e he => by simp [Net.new] at he, fun i => new_lineAt l i i, ?_, fun k hk => by simp [Net.new] at hk⟩
  · rw [hn] at hi; rw [new_S l hi]; simp [Sta.new, Net.new, cntE]
  · unfold Net.held2
    rw [hn]
    have h1 : zsum l.length (fun i => ((Net.new l).S i).pieces) = isum l := by
      rw [← zsum_isum]
      exact zsum_congr fun i hi => by rw [new_S l hi]; rfl
    have h2 : zsum l.length (fun i => zsum l.length fun j => totLine ((Net.new l).lineAt i j)) = 0 := by
      have : ∀ n m : Nat, zsum n (fun i => zsum m fun j => totLine ((Net.new l).lineAt i j)) = 0 := by
        intro n m
        have e0 : ∀ m : Nat, zsum m (fun _ => (0 : Int)) = 0 := fun m => by induction m with
          | zero => rfl
          | succ m ih => simp [zsum, ih]
        rw [zsum_congr (g := fun _ => 0) (fun i _ => by
          rw [zsum_congr (g := fun _ => 0) (fun j _ => by rw [new_lineAt]; rfl), e0]), e0]
      exact this _ _
    rw [h1, h2]
    simp [Net.new, madeL, madeF]
end Go.Proofs.Ytnkgfgkgepadhaa

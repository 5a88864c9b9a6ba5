/-
  Plain: through all calls; what a snapshot that is done has recorded is what the net beside it holds, and its cut is consistent.
-/
import Derived.Test.YtnkgfgkgepadhaaWithin
import Derived.Test.YtnkgfgkgepadhaaBfs
namespace Go.Proofs.Ytnkgfgkgepadhaa
set_option linter.unusedVariables false
set_option linter.unusedSimpArgs false
variable {p0 : Int} {σ σ' ρ x0 : Net} {x x' : Shot} {k : Nat}

theorem mark_of {q : Nat} {m : Msg} (hm : m.told = -((q : Int) + 1)) (k : Nat) : isMark k m = (q == k) := by
  simp only [isMark, hm]; rw [Bool.eq_iff_iff]; simp; omega
/-- Another snapshot's marker. -/
theorem WX.other {i j q : Nat} {m : Msg} {rest : List Msg} (h : WX p0 x0 σ x k) (hl : σ.lineAt i j = m :: rest) (hm : m.told = -((q : Int) + 1)) (hq : q ≠ k) (e : HeardEff σ σ' i j q rest) : WX p0 x0 σ' x k := by
  obtain ⟨ρ, r, s⟩ := h
  refine ⟨ρ, by rw [e.evs]; exact r, s.lines e.n e.evs (fun t => by unfold Net.S; rw [e.sta]) (fun _ => rfl) (fun _ => rfl) (fun _ => rfl) (fun _ _ => rfl) (fun _ _ _ _ => .inl rfl) (fun a b ha hb _ => ?_)⟩
  rw [e.L]
  split
  · rename_i hc
    obtain ⟨rfl, rfl⟩ := hc
    rw [hl, pre_other _ (by omega) (by rw [mark_of hm]; simpa using hq)]
  · split
    · exact pre_snoc _ (by simp only; omega)
    · rfl
/-- Its own marker. -/
theorem WX.own {i j : Nat} {m : Msg} {rest : List Msg} (h : WX p0 x0 σ (σ.X k) k) (K : KI σ p0) (hk : k < σ.shots.length) (hi : i < σ.n) (hj : j < σ.n) (hl : σ.lineAt i j = m :: rest) (hm : m.told = -((k : Int) + 1)) (e : HeardEff σ σ' i j k rest) : WX p0 x0 σ' (σ'.X k) k := by
  obtain ⟨ρ, r, s⟩ := h
  have X := (K.sh k hk).xi
  have d := K.ok.dim hk
  have hX := e.X k
  rw [if_pos rfl] at hX
  have hmk : pre k (σ.lineAt i j) = [] := by rw [hl]; exact pre_mark _ (by rw [mark_of hm]; simp)
  cases hRj : (σ.X k).R j with
  | true =>
    rw [if_pos hRj] at hX
    rw [hX]
    have hC := shut_C d hi hj
    refine ⟨ρ, by rw [e.evs]; exact r.congr fun i _ => wi_congr (fun _ => rfl) (fun _ => rfl) _ i, s.lines e.n e.evs (fun t => by unfold Net.S; rw [e.sta]) (fun _ => rfl) (fun _ => rfl) (fun _ => rfl) (fun _ _ => rfl) (fun a b ha hb => ?_) (fun a b ha hb hc => ?_)⟩
    · rw [hC]
      by_cases h : a = i ∧ b = j
      · exact .inr ⟨by rw [h.2]; exact hRj, by rw [if_pos h], by rw [h.1, h.2]; exact hmk⟩
      · exact .inl (by rw [if_neg h])
    · by_cases h : a = i ∧ b = j
      · exfalso
        rw [hC, if_pos h, h.2, hRj] at hc
        rcases hc with hc | hc <;> cases hc
      · rw [e.L, if_neg h, if_neg (fun h => by rw [hRj] at h; cases h.1)]
  | false =>
    rw [if_neg (by rw [hRj]; decide)] at hX
    rw [hX]
    have hR1 := note_R d hj (σ.S j)
    have hT1 := note_T d hj (σ.S j)
    have s1 := s.record (x' := (σ.X k).note j (σ.S j)) X K.st (K.ev j hj) hj hRj hR1 hT1 (note_P d hj (σ.S j)) (fun _ _ => rfl) (fun _ _ => rfl)
    have r1 : Rp x0 σ.evs ((σ.X k).note j (σ.S j)) ρ := r.congr (wi_record K.st (K.ev j hj) hRj hR1 hT1)
    have dn : Dim ((σ.X k).note j (σ.S j)) σ.n := ⟨by simp [Shot.note, d.r], d.c, d.cc, by simp [Shot.note, d.t], by simp [Shot.note, d.p], d.u, d.uu⟩
    have hC := shut_C dn hi hj
    have hR1j : ((σ.X k).note j (σ.S j)).R j = true := by rw [hR1, if_pos rfl]
    refine ⟨ρ, by rw [e.evs]; exact r1.congr fun i _ => wi_congr (fun _ => rfl) (fun _ => rfl) _ i, s1.lines e.n e.evs (fun t => by unfold Net.S; rw [e.sta]) (fun _ => rfl) (fun _ => rfl) (fun _ => rfl) (fun _ _ => rfl) (fun a b ha hb => ?_) (fun a b ha hb hc => ?_)⟩
    · rw [hC]
      by_cases h : a = i ∧ b = j
      · exact .inr ⟨by rw [h.2]; exact hR1j, by rw [if_pos h], by rw [h.1, h.2]; exact hmk⟩
      · exact .inl (by rw [if_neg h])
    · by_cases h : a = i ∧ b = j
      · exfalso
        rw [hC, if_pos h, h.2, hR1j] at hc
        rcases hc with hc | hc <;> cases hc
      · rw [e.L, if_neg h]
        split
        · exact pre_snoc _ (by simp only; omega)
        · rfl
theorem WX.started {q : Nat} (h : WX p0 x0 σ x k) (e : StartEff σ σ' q) : WX p0 x0 σ' x k := by
  obtain ⟨ρ, r, s⟩ := h
  refine ⟨ρ, by rw [e.evs]; exact r, s.lines e.n e.evs (fun t => by unfold Net.S; rw [e.sta]) (fun _ => rfl) (fun _ => rfl) (fun _ => rfl) (fun _ _ => rfl) (fun _ _ _ _ => .inl rfl) (fun a b ha hb _ => ?_)⟩
  rw [e.L]
  split
  · exact pre_snoc _ (by simp only; omega)
  · rfl
theorem no_mark (h : NetOk σ) {t : Nat} (ht : σ.shots.length ≤ t) {a b : Nat} (ha : a < σ.n) (hb : b < σ.n) : ∀ m ∈ σ.lineAt a b, isMark t m = false := fun m hm => by
  rcases told_ge h ha hb hm with h1 | h1
  · exact told_mark h1.1
  · simp [isMark]; omega
theorem new_xi (h : NetOk σ) {t : Nat} (ht : σ.shots.length ≤ t) : XI σ t (Shot.new σ.n) :=
  ⟨fun i _ hR => (by rw [new_R] at hR; cases hR), fun i j _ _ hC => (by rw [new_C] at hC; cases hC), fun i j hi hj _ => no_mark h ht hi hj, fun i j _ _ _ hR => (by rw [new_R] at hR; cases hR)⟩
theorem WX.first {q : Nat} (h : WX p0 x0 σ (Shot.new σ.n) 8) (K : KI σ p0) (hq : q < σ.n) (h8 : σ.shots.length < 8) (e : StartEff σ σ' q) : WX p0 x0 σ' (σ'.X σ.shots.length) σ.shots.length := by
  obtain ⟨ρ, r, s⟩ := h
  have d := new_dim σ.n
  have hX := e.X σ.shots.length
  rw [if_pos rfl] at hX
  rw [hX]
  have s0 := s.rek (k' := σ.shots.length) (fun a b ha hb => no_mark K.ok (by omega) ha hb) (fun a b ha hb => no_mark K.ok (Nat.le_refl _) ha hb)
  have hR1 := note_R d hq (σ.S q)
  have hT1 := note_T d hq (σ.S q)
  have s1 := s0.record (x' := (Shot.new σ.n).note q (σ.S q)) (new_xi K.ok (Nat.le_refl _)) K.st (K.ev q hq) hq (new_R _ _) hR1 hT1 (note_P d hq (σ.S q)) (fun _ _ => rfl) (fun _ _ => rfl)
  have r1 : Rp x0 σ.evs ((Shot.new σ.n).note q (σ.S q)) ρ := r.congr (wi_record K.st (K.ev q hq) (new_R _ _) hR1 hT1)
  refine ⟨ρ, by rw [e.evs]; exact r1, s1.lines e.n e.evs (fun t => by unfold Net.S; rw [e.sta]) (fun _ => rfl) (fun _ => rfl) (fun _ => rfl) (fun _ _ => rfl) (fun _ _ _ _ => .inl rfl) (fun a b ha hb _ => ?_)⟩
  rw [e.L]
  split
  · exact pre_snoc _ (by simp only; omega)
  · rfl
/-- Through all calls. -/
structure WI (p0 : Int) (x0 σ : Net) : Prop where
  ki : KI σ p0
  base : WX p0 x0 σ (Shot.new σ.n) 8
  sh : ∀ t, t < σ.shots.length → WX p0 x0 σ (σ.X t) t
theorem WI.new {l : List Int} (h : newOk l) : WI (isum l) (Net.new l) (Net.new l) := by
  refine ⟨KI.new h, ⟨Net.new l, rfl, KI.new h, NetGood.new h, rfl, Nat.le_refl _, fun _ _ _ => rfl, fun _ _ hR => ?_, fun _ _ hR => ?_, fun a b _ _ _ => ?_, fun a b _ _ hR => ?_, fun a b _ _ _ => new_U _ a b, fun i hi => ?_⟩, fun t ht => by simp [Net.new] at ht⟩
  · rw [new_R] at hR; cases hR
  · rw [new_R] at hR; cases hR
  · rw [new_lineAt]; rfl
  · rw [new_R] at hR; cases hR
  · simp [Net.new] at hi
theorem WI.work (h : WI p0 x0 σ) (no p : Int) : WI p0 x0 (σ.work no p).2 := by
  have hk := h.ki.work no p
  rcases work_cases h.ki.ok no p with ⟨_, h2⟩ | ⟨_, q, _, hq, h1, h2, he, e⟩
  · rw [h2]; exact h
  · refine ⟨hk, ?_, fun t ht => ?_⟩
    · rw [e.n]; exact h.base.work h.ki (new_xi h.ki.ok h.ki.ok.shots) hq h1 h2 he e
    · rw [e.shots] at ht
      have : (σ.work no p).2.X t = σ.X t := by unfold Net.X; rw [e.shots]
      rw [this]
      exact (h.sh t ht).work h.ki (h.ki.sh t ht).xi hq h1 h2 he e
theorem WI.send (h : WI p0 x0 σ) (x y p : Int) : WI p0 x0 (σ.send x y p).2 := by
  have hk := h.ki.send x y p
  rcases send_cases h.ki.ok x y p with ⟨_, h2⟩ | ⟨_, i, j, _, _, hi, hj, hij, h1, h2, h3, he, e⟩
  · rw [h2]; exact h
  · refine ⟨hk, ?_, fun t ht => ?_⟩
    · rw [e.n]; exact h.base.send h.ki (new_xi h.ki.ok h.ki.ok.shots) hi hj hij h1 h2 h3 he e
    · rw [e.shots] at ht
      have : (σ.send x y p).2.X t = σ.X t := by unfold Net.X; rw [e.shots]
      rw [this]
      exact (h.sh t ht).send h.ki (h.ki.sh t ht).xi hi hj hij h1 h2 h3 he e
theorem WI.recv (h : WI p0 x0 σ) (x y : Int) : WI p0 x0 (σ.recv x y).2 := by
  have hk := h.ki.recv x y
  rcases recv_cases h.ki.ok x y with ⟨_, h2, _⟩ | ⟨_, i, j, _, _, hi, hj, hij, m, rest, hl, ⟨h0, h1, _, he, e⟩ | ⟨q, hm, hq, e⟩⟩
  · rw [h2]; exact h
  · generalize (σ.recv x y).2 = σ' at *
    refine ⟨hk, ?_, fun t ht => ?_⟩
    · rw [e.n]
      exact h.base.take h.ki (new_xi h.ki.ok h.ki.ok.shots) hi hj hij hl h0 he e (fun _ => rfl) (fun _ => rfl) (fun _ => rfl) (fun _ _ => rfl) (fun a b => by rw [if_neg (fun h => by rw [new_R] at h; cases h.2.1)])
    · rw [e.len] at ht
      have d := h.ki.ok.dim ht
      have hR : ∀ a, (σ'.X t).R a = (σ.X t).R a := fun a => by rw [e.X]; split <;> rfl
      have hT : ∀ a, (σ'.X t).T a = (σ.X t).T a := fun a => by rw [e.X]; split <;> rfl
      have hP : ∀ a, (σ'.X t).P a = (σ.X t).P a := fun a => by rw [e.X]; split <;> rfl
      have hC : ∀ a b, (σ'.X t).C a b = (σ.X t).C a b := fun a b => by rw [e.X]; split <;> rfl
      have hU : ∀ a b, (σ'.X t).U a b = if (a = i ∧ b = j) ∧ (σ.X t).R j = true ∧ (σ.X t).C i j = false then (σ.X t).U i j ++ [m.told] else (σ.X t).U a b := fun a b => by
        rw [e.X]
        by_cases hc : (σ.X t).R j = true ∧ (σ.X t).C i j = false
        · rw [if_pos ⟨ht, hc⟩, more_U d hi hj]
          by_cases hab : a = i ∧ b = j
          · rw [if_pos hab, if_pos ⟨hab, hc⟩]
          · rw [if_neg hab, if_neg (fun h => hab h.1)]
        · rw [if_neg (fun h => hc h.2), if_neg (fun h => hc h.2)]
      exact (h.sh t ht).take h.ki (h.ki.sh t ht).xi hi hj hij hl h0 he e hR hT hP hC hU
  · generalize (σ.recv x y).2 = σ' at *
    refine ⟨hk, ?_, fun t ht => ?_⟩
    · rw [e.n]
      have := h.ki.ok.shots
      exact h.base.other hl hm (by omega) e
    · rw [e.len] at ht
      by_cases hqt : q = t
      · subst hqt
        exact (h.sh q ht).own h.ki ht hi hj hl hm e
      · have : σ'.X t = σ.X t := by rw [e.X, if_neg (fun h => hqt h.symm)]
        rw [this]
        exact (h.sh t ht).other hl hm hqt e
theorem WI.start (h : WI p0 x0 σ) (x : Int) : WI p0 x0 (σ.start x).2.2 := by
  have hk := h.ki.start x
  rcases start_cases h.ki.ok x with ⟨_, _, h2⟩ | ⟨_, _, q, _, hq, h8, e⟩
  · rw [h2]; exact h
  · generalize (σ.start x).2.2 = σ' at *
    refine ⟨hk, ?_, fun t ht => ?_⟩
    · rw [e.n]; exact h.base.started e
    · rw [e.len] at ht
      by_cases htn : t = σ.shots.length
      · subst htn; exact h.base.first h.ki hq h8 e
      · have : σ'.X t = σ.X t := by rw [e.X, if_neg htn]
        rw [this]
        exact (h.sh t (by omega)).started e
theorem WI.act (h : WI p0 x0 σ) (x : ActD) : WI p0 x0 (σ.act x) := by
  unfold Net.act
  split
  · exact h.work _ _
  · split
    · exact h.send _ _ _
    · split
      · exact h.start _
      · exact h.recv _ _
theorem WI.acts : ∀ (l : List ActD) {σ : Net}, WI p0 x0 σ → WI p0 x0 (σ.acts l)
  | [], _, h => h
  | a :: l, _, h => WI.acts l (h.act a)

/-- What the law asks of a snapshot that is done. -/
structure Done (x0 σ : Net) (t : Nat) : Prop where
  net : ∃ ρ, rpN x0 σ.evs (fun i => decide ((cntS σ.evs i (σ.evs.getD i dfEv).station.toNat : Int) < (σ.X t).cut.getD (σ.evs.getD i dfEv).station.toNat 0)) σ.evs.length = some ρ ∧ NetOk ρ ∧ ρ.n = σ.n ∧
    ρ.sta.map Sta.pieces = (σ.X t).pieces ∧ ∀ a b, a < σ.n → b < σ.n → (ρ.lineAt a b).map Msg.told = (σ.X t).U a b
  cut : ∀ h : Hist, HistEv σ.n σ.evs h → cutOk h.needs (σ.X t).cut = true
  u : ∀ a, (σ.X t).U a a = []
theorem WI.done (h : WI p0 x0 σ) (G : NetGood σ) {t : Nat} (ht : t < σ.shots.length) (hf : (σ.X t).fin σ.n = true) : Done x0 σ t := by
  obtain ⟨ρ, r, s⟩ := h.sh t ht
  obtain ⟨_, hall⟩ := fin_all hf
  have d := h.ki.ok.dim ht
  have ks := h.ki.sh t ht
  have hR : ∀ i, i < σ.n → (σ.X t).R i = true := fun i hi => (hall i i hi hi).1
  have hst : ∀ i, i < σ.evs.length → ∃ q : Nat, q < σ.n ∧ (σ.evs.getD i dfEv).station = q := fun i hi => by
    obtain ⟨q, h1, h2⟩ := h.ki.st _ (getD_mem hi)
    exact ⟨q, h2, h1⟩
  have hw : ∀ i, i < σ.evs.length → wi (σ.X t) σ.evs i = decide ((cntS σ.evs i (σ.evs.getD i dfEv).station.toNat : Int) < (σ.X t).cut.getD (σ.evs.getD i dfEv).station.toNat 0) := fun i hi => by
    obtain ⟨q, hq, hs⟩ := hst i hi
    unfold wi
    rw [hs, Int.toNat_natCast, hR q hq]; rfl
  refine ⟨⟨ρ, by rw [rpN_congr (W := wi (σ.X t) σ.evs) (fun i hi => (hw i hi).symm) _ (Nat.le_refl _)]; exact r, s.ki.ok, s.n, ?_, fun a b ha hb => ?_⟩, fun hh hv => ?_, ks.u⟩
  · apply List.ext_getElem
    · rw [List.length_map, d.p]; exact s.n
    · intro i h1 h2
      rw [d.p] at h2
      have h3 := s.P i h2 (hR i h2)
      have h4 : i < ρ.sta.length := by rw [List.length_map] at h1; exact h1
      simp only [Net.S, Shot.P, List.getD, List.getElem?_eq_getElem h4, List.getElem?_eq_getElem (show i < (σ.X t).pieces.length by rw [d.p]; exact h2), Option.getD_some] at h3
      rw [List.getElem_map]; exact h3
  · rw [s.M a b ha hb (hR b hb)]
    by_cases hab : a = b
    · subst hab
      rw [h.ki.di a]
      simp [pre]
    · rw [if_pos ((hall a b ha hb).2 hab), List.append_nil]
  · have hok := h.ki.ok
    rw [cutOk_iff hv.len]
    intro q hq
    have hT := ks.t q hq (hR q hq)
    rw [h.ki.ev q hq, ← cntS_E] at hT
    have hTe : (σ.X t).cut.getD q 0 = (σ.X t).T q := rfl
    rw [hv.row q hq, hTe]
    refine ⟨hT.1, hT.2, fun o ho y hy => ?_⟩
    obtain ⟨i, hi, hs, hc⟩ := cntS_find (l := σ.evs) (s := q) σ.evs.length (Nat.le_refl _) (o + 1) (by omega) (by omega)
    have hc' := cntS_own hi hs
    obtain ⟨y', hy1, hy2⟩ := hv.need i q hi hs
    rw [show cntS σ.evs i q = o by omega, hy] at hy1
    injection hy1 with hy1
    subst hy1
    rcases hy2 with ⟨_, rfl⟩ | ⟨hwh, a, j, ho2, hj, h7, h8, rfl⟩
    · have h0 : 0 < σ.n := by omega
      exact (ks.t 0 h0 (hR 0 h0)).1
    · simp only [Int.toNat_natCast]
      -- event i is within the cut
      have hin : wi (σ.X t) σ.evs i = true := by
        rw [hw i hi, hs, Int.toNat_natCast, hTe]
        exact decide_eq_true (by omega)
      have hmem := s.sub i hi hin
      obtain ⟨i', hi', hie⟩ := List.getElem_of_mem hmem
      have hie' : ρ.evs.getD i' dfEv = σ.evs.getD i dfEv := by simp [List.getD, hi', hie]
      -- the clock of the sent event is in that of the received one
      obtain ⟨q2, hq2, hs2, hE⟩ := G.good.at i hi
      obtain rfl : q2 = q := by omega
      obtain ⟨a2, ha2, hsa, _⟩ := G.good.at j (by omega)
      have hsa' : (σ.evs.getD j dfEv).station = (a : Int) := by
        simp only [isSend, Bool.and_eq_true, beq_iff_eq] at h7
        exact h7.2.1
      obtain rfl : a2 = a := by omega
      have hck : ckN σ.evs j a2 ≤ ckN σ.evs i a2 := by
        rcases hE with ⟨hww, _⟩ | ⟨_, a3, j3, ha3, hak, ho3, hj3, h73, h83, hcl, _⟩
        · rcases hww with hww | hww <;> rw [hwh] at hww <;> cases hww
        · obtain rfl : a3 = a2 := by omega
          have hjj : j3 = j := scnt_uniq (by omega) (by omega) h73 h7 (by rw [h83, h8])
          subst hjj
          have hlen := G.good.lens
          unfold ckN
          rw [hcl, joined_get (by rw [hlen.1 _ (getD_mem (by omega)), (G.good.take i).lens.2]) (by rw [(G.good.take i).lens.2]; exact hq) (by rw [(G.good.take i).lens.2]; exact ha2), if_neg hak]
          omega
      have hb := (s.good.good.bound i' hi').1 a2 (by rw [s.n]; exact ha2)
      have hle := cntS_le (l := ρ.evs) (show i' + 1 ≤ ρ.evs.length by omega) a2
      rw [cntS_E] at hle
      have hTa := s.T a2 ha2 (hR a2 ha2)
      rw [s.ki.ev a2 (by rw [s.n]; exact ha2)] at hTa
      have hck2 : ckN ρ.evs i' a2 = ckN σ.evs i a2 := by unfold ckN; rw [hie']
      show ckN σ.evs j a2 ≤ (σ.X t).T a2
      omega
end Go.Proofs.Ytnkgfgkgepadhaa

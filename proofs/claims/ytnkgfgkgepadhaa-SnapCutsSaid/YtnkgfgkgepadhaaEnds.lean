/-
  Plain: when all messages have been received, every snapshot is done.
-/
import Derived.Test.YtnkgfgkgepadhaaEff
import Derived.Test.YtnkgfgkgepadhaaAct
namespace Go.Proofs.Ytnkgfgkgepadhaa
set_option linter.unusedVariables false
set_option linter.unusedSimpArgs false

/-! ### Sums -/
def fsum : Nat → (Nat → Nat) → Nat
  | 0, _ => 0
  | n + 1, f => fsum n f + f n
theorem fsum_congr {f g : Nat → Nat} : ∀ {n : Nat}, (∀ q, q < n → f q = g q) → fsum n f = fsum n g
  | 0, _ => rfl
  | n + 1, h => by unfold fsum; rw [fsum_congr (fun q hq => h q (by omega)), h n (by omega)]
theorem fsum_upd {f g : Nat → Nat} {k : Nat} : ∀ {n : Nat}, k < n → (∀ q, q < n → q ≠ k → f q = g q) → fsum n f + g k = fsum n g + f k
  | 0, h, _ => by omega
  | n + 1, h, hq => by
    unfold fsum
    by_cases hk : k = n
    · subst hk
      rw [fsum_congr (f := f) (g := g) (n := k) (fun q h => hq q (by omega) (by omega))]; omega
    · have := fsum_upd (f := f) (g := g) (n := n) (k := k) (by omega) (fun q h h' => hq q (by omega) h')
      rw [hq n (by omega) (by omega)]; omega
theorem fsum_le {f g : Nat → Nat} : ∀ {n : Nat}, (∀ q, q < n → f q ≤ g q) → fsum n f ≤ fsum n g
  | 0, _ => Nat.le_refl _
  | n + 1, h => by
    unfold fsum
    have h1 := fsum_le (n := n) (f := f) (g := g) fun q hq => h q (by omega)
    have h2 := h n (by omega)
    omega
theorem fsum_const (n c : Nat) : fsum n (fun _ => c) = n * c := by
  induction n with
  | zero => simp [fsum]
  | succ n ih => unfold fsum; rw [ih, Nat.succ_mul]
theorem fsum_zero {f : Nat → Nat} {n : Nat} (h : ∀ q, q < n → f q = 0) : fsum n f = 0 := by
  rw [fsum_congr (g := fun _ => 0) h, fsum_const, Nat.mul_zero]
/-- All but one. -/
theorem fsum_but {f g : Nat → Nat} {k n : Nat} (hk : k < n) (h : ∀ q, q < n → f q = g q + if q = k then 0 else 1) : fsum n f + 1 = fsum n g + n := by
  have h1 : fsum n f = fsum n (fun q => g q + if q = k then 0 else 1) := fsum_congr h
  have h2 : ∀ m, fsum m (fun q => g q + if q = k then 0 else 1) = fsum m g + fsum m (fun q => if q = k then 0 else 1) := by
    intro m
    induction m with
    | zero => rfl
    | succ m ih => simp only [fsum, ih]; omega
  have h3 := fsum_upd (f := fun q => if q = k then 0 else 1) (g := fun _ => 1) hk (fun q _ hq => by simp [hq])
  rw [fsum_const] at h3
  simp at h3
  rw [h1, h2]
  omega

def Net.msgs (σ : Net) : Nat := fsum σ.n fun i => fsum σ.n fun j => (σ.lineAt i j).length
def Net.unr (σ : Net) : Nat := fsum σ.shots.length fun q => fsum σ.n fun j => if (σ.X q).R j then 0 else 1
def Net.phi (σ : Net) : Nat := σ.msgs + σ.n * σ.unr
theorem msgs_congr {σ σ' : Net} (hn : σ'.n = σ.n) (h : ∀ a b, σ'.lineAt a b = σ.lineAt a b) : σ'.msgs = σ.msgs := by
  unfold Net.msgs; rw [hn]; exact fsum_congr fun a _ => fsum_congr fun b _ => by rw [h]
/-- One channel turns. -/
theorem msgs_one {σ σ' : Net} (hn : σ'.n = σ.n) {i j : Nat} (hi : i < σ.n) (hj : j < σ.n) {l : List Msg} (h : ∀ a b, σ'.lineAt a b = if a = i ∧ b = j then l else σ.lineAt a b) : σ'.msgs + (σ.lineAt i j).length = σ.msgs + l.length := by
  unfold Net.msgs
  rw [hn]
  have h1 := fsum_upd (f := fun b => (σ'.lineAt i b).length) (g := fun b => (σ.lineAt i b).length) hj (fun b _ hb => by rw [h, if_neg (fun h' => hb h'.2)])
  have h2 := fsum_upd (f := fun a => fsum σ.n fun b => (σ'.lineAt a b).length) (g := fun a => fsum σ.n fun b => (σ.lineAt a b).length) hi (fun a _ ha => fsum_congr fun b _ => by rw [h, if_neg (fun h' => ha h'.1)])
  have h3 : σ'.lineAt i j = l := by rw [h, if_pos ⟨rfl, rfl⟩]
  simp only [h3] at h1 h2
  omega
/-- A station sends a marker on all its channels. -/
theorem msgs_row {σ σ' : Net} (hn : σ'.n = σ.n) {k : Nat} (hk : k < σ.n) {x : Msg} (h : ∀ a b, a < σ.n → b < σ.n → σ'.lineAt a b = if a = k ∧ b ≠ k then σ.lineAt a b ++ [x] else σ.lineAt a b) : σ'.msgs + 1 = σ.msgs + σ.n := by
  unfold Net.msgs
  rw [hn]
  have h1 := fsum_but (f := fun b => (σ'.lineAt k b).length) (g := fun b => (σ.lineAt k b).length) hk (fun b hb => by
    by_cases hbk : b = k
    · rw [h k b hk hb, if_neg (fun h' => h'.2 hbk), if_pos hbk]; rfl
    · rw [h k b hk hb, if_pos ⟨rfl, hbk⟩, if_neg hbk]; simp)
  have h2 := fsum_upd (f := fun a => fsum σ.n fun b => (σ'.lineAt a b).length) (g := fun a => fsum σ.n fun b => (σ.lineAt a b).length) hk (fun a ha hak => fsum_congr fun b hb => by rw [h a b ha hb, if_neg (fun h' => hak h'.1)])
  omega
theorem unr_congr {σ σ' : Net} (hn : σ'.n = σ.n) (hl : σ'.shots.length = σ.shots.length) (h : ∀ q j, (σ'.X q).R j = (σ.X q).R j) : σ'.unr = σ.unr := by
  unfold Net.unr; rw [hn, hl]; exact fsum_congr fun q _ => fsum_congr fun j _ => by rw [h]
theorem unr_one {σ σ' : Net} (hn : σ'.n = σ.n) (hl : σ'.shots.length = σ.shots.length) {k j : Nat} (hk : k < σ.shots.length) (hj : j < σ.n) (h0 : (σ.X k).R j = false) (h : ∀ q a, (σ'.X q).R a = if q = k ∧ a = j then true else (σ.X q).R a) : σ'.unr + 1 = σ.unr := by
  unfold Net.unr
  rw [hn, hl]
  have h1 := fsum_upd (f := fun a => if (σ'.X k).R a then 0 else 1) (g := fun a => if (σ.X k).R a then 0 else 1) hj (fun a _ ha => by rw [h, if_neg (c := k = k ∧ a = j) (fun h' => ha h'.2)])
  have h2 := fsum_upd (f := fun q => fsum σ.n fun a => if (σ'.X q).R a then 0 else 1) (g := fun q => fsum σ.n fun a => if (σ.X q).R a then 0 else 1) hk (fun q _ hq => fsum_congr fun a _ => by rw [h, if_neg (c := q = k ∧ a = j) (fun h' => hq h'.1)])
  have h3 : (σ'.X k).R j = true := by rw [h, if_pos ⟨rfl, rfl⟩]
  simp only [h3, h0, if_true, Bool.false_eq_true, if_false] at h1 h2
  omega

/-- How far each snapshot has come. -/
def Net.going (σ : Net) : Prop := ∀ k, k < σ.shots.length →
  (∀ i j, i < σ.n → j < σ.n → i ≠ j → (σ.X k).R i = true → (σ.X k).C i j = true ∨ ∃ m ∈ σ.lineAt i j, m.told = -((k : Int) + 1)) ∧
  (∀ i j, i < σ.n → j < σ.n → i ≠ j → (σ.X k).C i j = true → (σ.X k).R j = true) ∧ ∃ i, i < σ.n ∧ (σ.X k).R i = true
structure EI (σ : Net) (N : Nat) : Prop where
  ok : NetOk σ
  b : σ.evs.length + σ.phi ≤ N + 24 * σ.shots.length
  g : σ.going

theorem EI.le {σ : Net} {N M : Nat} (h : EI σ N) (hm : N ≤ M) : EI σ M := ⟨h.ok, by have := h.b; omega, h.g⟩
theorem EI.work {σ : Net} {N : Nat} (h : EI σ N) (no p : Int) : EI (σ.work no p).2 (N + 2) := by
  refine ⟨h.ok.work no p, ?_, ?_⟩
  · rcases work_cases h.ok no p with ⟨_, h2⟩ | ⟨_, k, _, _, _, _, _, e⟩
    · rw [h2]; have := h.b; omega
    · have h1 := msgs_congr e.n e.L
      have h2 := unr_congr (σ := σ) (σ' := (σ.work no p).2) e.n (by rw [e.shots]) (fun q j => by unfold Net.X; rw [e.shots])
      have := h.b
      unfold Net.phi at this ⊢
      rw [h1, h2, e.n, e.shots, e.evs]
      simp; omega
  · rcases work_cases h.ok no p with ⟨_, h2⟩ | ⟨_, k, _, _, _, _, _, e⟩
    · rw [h2]; exact h.g
    · intro q hq
      have hX : (σ.work no p).2.X q = σ.X q := by unfold Net.X; rw [e.shots]
      rw [e.shots] at hq
      have := h.g q hq
      simp only [hX, e.n, e.L]
      exact this
theorem EI.send {σ : Net} {N : Nat} (h : EI σ N) (x y p : Int) : EI (σ.send x y p).2 (N + 2) := by
  refine ⟨h.ok.send x y p, ?_, ?_⟩
  · rcases send_cases h.ok x y p with ⟨_, h2⟩ | ⟨_, i, j, _, _, hi, hj, hij, _, _, _, _, e⟩
    · rw [h2]; have := h.b; omega
    · have h1 := msgs_one e.n hi hj e.L
      have h2 := unr_congr (σ := σ) (σ' := (σ.send x y p).2) e.n (by rw [e.shots]) (fun q j => by unfold Net.X; rw [e.shots])
      have := h.b
      unfold Net.phi at this ⊢
      rw [h2, e.n, e.shots, e.evs]
      simp at h1 ⊢; omega
  · rcases send_cases h.ok x y p with ⟨_, h2⟩ | ⟨_, i, j, _, _, hi, hj, hij, _, _, _, _, e⟩
    · rw [h2]; exact h.g
    · intro q hq
      have hX : (σ.send x y p).2.X q = σ.X q := by unfold Net.X; rw [e.shots]
      rw [e.shots] at hq
      obtain ⟨g1, g2, g3⟩ := h.g q hq
      simp only [hX, e.n]
      refine ⟨fun a b ha hb hab hR => ?_, g2, g3⟩
      rcases g1 a b ha hb hab hR with h3 | ⟨m, hm, ht⟩
      · exact .inl h3
      · refine .inr ⟨m, ?_, ht⟩
        rw [e.L]
        split
        · rename_i hc
          obtain ⟨rfl, rfl⟩ := hc
          exact List.mem_append_left _ hm
        · exact hm
theorem EI.recv {σ : Net} {N : Nat} (h : EI σ N) (x y : Int) : EI (σ.recv x y).2 N ∧ ((σ.recv x y).1 = 0 → (σ.recv x y).2.phi + 1 ≤ σ.phi) ∧ (σ.recv x y).2.n = σ.n := by
  rcases recv_cases h.ok x y with ⟨h0, h2, _⟩ | ⟨h0, i, j, _, _, hi, hj, hij, m, rest, hl, ⟨_, _, _, _, e⟩ | ⟨k, hk, hkl, e⟩⟩
  · rw [h2]; exact ⟨h, fun h3 => absurd h3 h0, rfl⟩
  · have h1 := msgs_one e.n hi hj e.L
    have hR : ∀ q a, ((σ.recv x y).2.X q).R a = (σ.X q).R a := fun q a => by
      rw [e.X]; split <;> rfl
    have hC : ∀ q a b, ((σ.recv x y).2.X q).C a b = (σ.X q).C a b := fun q a b => by
      rw [e.X]; split <;> rfl
    have h2 := unr_congr (σ := σ) (σ' := (σ.recv x y).2) e.n e.len hR
    rw [hl] at h1
    simp only [List.length_cons] at h1
    have hphi : (σ.recv x y).2.phi + 1 = σ.phi := by unfold Net.phi; rw [h2, e.n]; omega
    refine ⟨⟨h.ok.recv x y, ?_, ?_⟩, fun _ => by omega, e.n⟩
    · have := h.b
      rw [e.len, e.evs]
      simp; omega
    · intro q hq
      rw [e.len] at hq
      obtain ⟨g1, g2, g3⟩ := h.g q hq
      simp only [hR, hC, e.n]
      refine ⟨fun a b ha hb hab hR' => ?_, g2, g3⟩
      rcases g1 a b ha hb hab hR' with h3 | ⟨m', hm, ht⟩
      · exact .inl h3
      · refine .inr ⟨m', ?_, ht⟩
        rw [e.L]
        split
        · rename_i hc
          obtain ⟨rfl, rfl⟩ := hc
          rw [hl] at hm
          rcases List.mem_cons.1 hm with rfl | hm
          · omega
          · exact hm
        · exact hm
  · -- a marker
    have d := h.ok.dim hkl
    have dn : Dim (if (σ.X k).R j = true then σ.X k else (σ.X k).note j (σ.S j)) σ.n := by
      split
      · exact d
      · exact ⟨by simp [Shot.note, d.r], d.c, d.cc, by simp [Shot.note, d.t], by simp [Shot.note, d.p], d.u, d.uu⟩
    have hR : ∀ q a, ((σ.recv x y).2.X q).R a = if q = k ∧ a = j then true else (σ.X q).R a := fun q a => by
      rw [e.X]
      by_cases hq : q = k
      · subst hq
        rw [if_pos rfl]
        show (if (σ.X q).R j = true then σ.X q else (σ.X q).note j (σ.S j)).R a = _
        by_cases hRj : (σ.X q).R j = true
        · rw [if_pos hRj]
          by_cases ha : a = j
          · rw [if_pos ⟨rfl, ha⟩, ha, hRj]
          · rw [if_neg (fun h => ha h.2)]
        · rw [if_neg hRj, note_R d hj]
          by_cases ha : a = j
          · rw [if_pos ha, if_pos ⟨rfl, ha⟩]
          · rw [if_neg ha, if_neg (fun h => ha h.2)]
      · rw [if_neg hq, if_neg (fun h => hq h.1)]
    have hC : ∀ q a b, ((σ.recv x y).2.X q).C a b = if q = k ∧ a = i ∧ b = j then true else (σ.X q).C a b := fun q a b => by
      rw [e.X]
      by_cases hq : q = k
      · subst hq
        rw [if_pos rfl, shut_C dn hi hj]
        by_cases hab : a = i ∧ b = j
        · rw [if_pos hab, if_pos ⟨rfl, hab⟩]
        · rw [if_neg hab, if_neg (c := q = q ∧ a = i ∧ b = j) (fun h => hab h.2)]; split <;> rfl
      · rw [if_neg hq, if_neg (fun h => hq h.1)]
    have hphi : (σ.recv x y).2.phi + 1 ≤ σ.phi := by
      by_cases hRj : (σ.X k).R j = true
      · have h1 := msgs_one (σ := σ) (σ' := (σ.recv x y).2) e.n hi hj (l := rest) (fun a b => by rw [e.L, if_neg (c := _ ∧ _ ∧ _ ∧ _) (fun h => by rw [hRj] at h; cases h.1)])
        have h2 := unr_congr (σ := σ) (σ' := (σ.recv x y).2) e.n e.len (fun q a => by
          rw [hR]; split
          · rename_i hc; rw [hc.1, hc.2, hRj]
          · rfl)
        rw [hl] at h1
        simp only [List.length_cons] at h1
        unfold Net.phi; rw [h2, e.n]; omega
      · have hRj : (σ.X k).R j = false := by simpa using hRj
        have h2 := unr_one (σ := σ) (σ' := (σ.recv x y).2) e.n e.len hkl hj hRj hR
        -- the line alone, then the row
        have h1 := msgs_one (σ := σ) (σ' := σ.drop i j) (by unfold Net.n; rw [(Net.drop_keeps σ i j).1]) hi hj (lineAt_drop h.ok hi hj)
        have hdn : (σ.drop i j).n = σ.n := by unfold Net.n; rw [(Net.drop_keeps σ i j).1]
        have h3 := msgs_row (σ := σ.drop i j) (σ' := (σ.recv x y).2) (by rw [hdn, e.n]) (k := j) (by rw [hdn]; exact hj) (x := ⟨-((k : Int) + 1), []⟩) (fun a b ha hb => by
          rw [hdn] at ha hb
          rw [e.L, lineAt_drop h.ok hi hj, hl]
          by_cases hc : a = i ∧ b = j
          · rw [if_neg (c := a = j ∧ b ≠ j) (fun h => h.2 hc.2), if_pos hc, if_pos hc]; rfl
          · rw [if_neg hc, if_neg hc]
            by_cases hc2 : a = j ∧ b ≠ j
            · rw [if_pos hc2, if_pos ⟨hRj, hc2.1, hb, hc2.2⟩]
            · rw [if_neg hc2, if_neg (fun h => hc2 ⟨h.2.1, h.2.2.2⟩)])
        rw [hl] at h1
        simp only [List.length_cons, List.drop_succ_cons, List.drop_zero] at h1
        rw [hdn] at h3
        unfold Net.phi
        rw [e.n, ← h2, Nat.mul_add]
        omega
    refine ⟨⟨h.ok.recv x y, ?_, ?_⟩, fun _ => hphi, e.n⟩
    · have := h.b
      rw [e.len, e.evs]; omega
    · intro q hq
      rw [e.len] at hq
      obtain ⟨g1, g2, g3⟩ := h.g q hq
      simp only [hR, hC, e.n]
      refine ⟨fun a b ha hb hab hRa => ?_, fun a b ha hb hab hCa => ?_, ?_⟩
      · -- who has recorded has sent its marker
        have hmem : ∀ m ∈ σ.lineAt a b, (¬ (a = i ∧ b = j) ∨ m ∈ rest) → m ∈ (σ.recv x y).2.lineAt a b := fun m' hm hc => by
          rw [e.L]
          by_cases hc2 : a = i ∧ b = j
          · rw [if_pos hc2]; exact hc.resolve_left (fun h => h hc2)
          · rw [if_neg hc2]
            split
            · exact List.mem_append_left _ hm
            · exact hm
        by_cases hqa : q = k ∧ a = j
        · obtain ⟨rfl, rfl⟩ := hqa
          by_cases hRj : (σ.X q).R a = true
          · rcases g1 a b ha hb hab hRj with h3 | ⟨m', hm, ht⟩
            · exact .inl (by rw [h3]; split <;> rfl)
            · exact .inr ⟨m', hmem m' hm (.inl (fun h => hij h.1.symm)), ht⟩
          · refine .inr ⟨⟨-((q : Int) + 1), []⟩, ?_, rfl⟩
            rw [e.L, if_neg (fun h => hij h.1.symm), if_pos ⟨by simpa using hRj, rfl, hb, fun h => hab h.symm⟩]
            simp
        · rw [if_neg hqa] at hRa
          rcases g1 a b ha hb hab hRa with h3 | ⟨m', hm, ht⟩
          · exact .inl (by rw [h3]; split <;> rfl)
          · by_cases hc : a = i ∧ b = j
            · obtain ⟨rfl, rfl⟩ := hc
              rw [hl] at hm
              rcases List.mem_cons.1 hm with rfl | hm'
              · obtain rfl : q = k := by omega
                exact .inl (by rw [if_pos ⟨rfl, rfl, rfl⟩])
              · exact .inr ⟨m', hmem m' (by rw [hl]; exact hm) (.inr hm'), ht⟩
            · exact .inr ⟨m', hmem m' hm (.inl hc), ht⟩
      · by_cases hc : q = k ∧ b = j
        · rw [if_pos hc]
        · rw [if_neg hc]
          rw [if_neg (fun h => hc ⟨h.1, h.2.2⟩)] at hCa
          exact g2 a b ha hb hab hCa
      · obtain ⟨a, ha, hRa⟩ := g3
        exact ⟨a, ha, by rw [hRa]; split <;> rfl⟩

theorem new_R (n j : Nat) : (Shot.new n).R j = false := by
  simp only [Shot.new, Shot.R, List.getD, List.getElem?_replicate]; split <;> rfl
theorem new_C (n i j : Nat) : (Shot.new n).C i j = false := by
  simp only [Shot.new, Shot.C, List.getD, List.getElem?_replicate]
  split
  · simp only [Option.getD_some, List.getElem?_replicate]; split <;> rfl
  · rfl
theorem new_dim (n : Nat) : Dim (Shot.new n) n := by
  refine ⟨by simp [Shot.new], by simp [Shot.new], fun i hi => ?_, by simp [Shot.new], by simp [Shot.new], by simp [Shot.new], fun i hi => ?_⟩
  · simp only [Shot.new, List.getD, List.getElem?_replicate, if_pos hi, Option.getD_some, List.length_replicate]
  · simp only [Shot.new, List.getD, List.getElem?_replicate, if_pos hi, Option.getD_some, List.length_replicate]
theorem fsum_all {f : Nat → Nat} {k n : Nat} (hk : k < n) (h : ∀ q, q < n → f q = if q = k then 0 else 1) : fsum n f + 1 = n := by
  have := fsum_but (f := f) (g := fun _ => 0) hk (fun q hq => by rw [h q hq, Nat.zero_add])
  rw [fsum_const] at this
  omega
theorem EI.start {σ : Net} {N : Nat} (h : EI σ N) (x : Int) : EI (σ.start x).2.2 N ∧ (σ.start x).2.2.n = σ.n := by
  rcases start_cases h.ok x with ⟨_, _, h2⟩ | ⟨_, _, k, _, hk, h8, e⟩
  · rw [h2]; exact ⟨h, rfl⟩
  · have hR : ∀ q a, ((σ.start x).2.2.X q).R a = if q = σ.shots.length then (if a = k then true else false) else (σ.X q).R a := fun q a => by
      rw [e.X]
      split
      · rw [note_R (new_dim σ.n) hk, new_R]
      · rfl
    have hC : ∀ q a b, ((σ.start x).2.2.X q).C a b = if q = σ.shots.length then false else (σ.X q).C a b := fun q a b => by
      rw [e.X]
      split
      · exact new_C σ.n a b
      · rfl
    have h1 := msgs_row (σ := σ) (σ' := (σ.start x).2.2) e.n hk (x := ⟨-((σ.shots.length : Int) + 1), []⟩) (fun a b ha hb => by
      rw [e.L]
      by_cases hc : a = k ∧ b ≠ k
      · rw [if_pos hc, if_pos ⟨hc.1, hb, hc.2⟩]
      · rw [if_neg hc, if_neg (fun h => hc ⟨h.1, h.2.2⟩)])
    have h2 : (σ.start x).2.2.unr + 1 = σ.unr + σ.n := by
      unfold Net.unr
      rw [e.n, e.len]
      have e0 : fsum (σ.shots.length + 1) (fun q => fsum σ.n fun j => if ((σ.start x).2.2.X q).R j then 0 else 1) = fsum σ.shots.length (fun q => fsum σ.n fun j => if ((σ.start x).2.2.X q).R j then 0 else 1) + fsum σ.n (fun j => if ((σ.start x).2.2.X σ.shots.length).R j then 0 else 1) := rfl
      rw [e0]
      have a1 : fsum σ.shots.length (fun q => fsum σ.n fun j => if ((σ.start x).2.2.X q).R j then 0 else 1) = fsum σ.shots.length (fun q => fsum σ.n fun j => if (σ.X q).R j then 0 else 1) :=
        fsum_congr fun q hq => fsum_congr fun a _ => by rw [hR, if_neg (c := q = σ.shots.length) (by omega)]
      have a2 := fsum_all (f := fun j => if ((σ.start x).2.2.X σ.shots.length).R j then 0 else 1) hk (fun a ha => by
        rw [hR, if_pos rfl]
        by_cases hak : a = k
        · rw [if_pos hak, if_pos rfl, if_pos hak]
        · rw [if_neg hak, if_neg (by decide), if_neg hak])
      rw [a1]
      omega
    have hn5 := h.ok.n5
    have hn2 := h.ok.n2
    have hnn : σ.n = σ.sta.length := rfl
    refine ⟨⟨h.ok.start x, ?_, ?_⟩, e.n⟩
    · have := h.b
      rw [e.evs, e.len]
      unfold Net.phi at this ⊢
      rw [e.n]
      have h3 : σ.n * (σ.start x).2.2.unr + σ.n = σ.n * σ.unr + σ.n * σ.n := by rw [← Nat.mul_add, ← h2, Nat.mul_add]; omega
      have h4 : σ.n * σ.n ≤ 5 * 5 := Nat.mul_le_mul (by omega) (by omega)
      omega
    · intro q hq
      rw [e.len] at hq
      simp only [hR, hC, e.n]
      by_cases hqk : q = σ.shots.length
      · simp only [if_pos hqk]
        refine ⟨fun a b ha hb hab hRa => ?_, fun a b _ _ _ hCa => (by cases hCa), k, hk, if_pos rfl⟩
        have hak : a = k := by
          by_cases hak : a = k
          · exact hak
          · rw [if_neg hak] at hRa; cases hRa
        refine .inr ⟨⟨-((σ.shots.length : Int) + 1), []⟩, ?_, by rw [hqk]⟩
        rw [e.L, if_pos ⟨hak, hb, fun h => hab (hak.trans h.symm)⟩]
        simp
      · simp only [if_neg hqk]
        obtain ⟨g1, g2, g3⟩ := h.g q (by omega)
        refine ⟨fun a b ha hb hab hRa => ?_, g2, g3⟩
        rcases g1 a b ha hb hab hRa with h3 | ⟨m', hm, ht⟩
        · exact .inl h3
        · refine .inr ⟨m', ?_, ht⟩
          rw [e.L]
          split
          · exact List.mem_append_left _ hm
          · exact hm
theorem act_n {σ : Net} (h : NetOk σ) (x : ActD) : (σ.act x).n = σ.n := by
  unfold Net.act
  split
  · rcases work_cases h x.a x.n with ⟨_, h2⟩ | ⟨_, _, _, _, _, _, _, e⟩
    · rw [h2]
    · exact e.n
  · split
    · rcases send_cases h x.a x.b x.n with ⟨_, h2⟩ | ⟨_, _, _, _, _, _, _, _, _, _, _, _, e⟩
      · rw [h2]
      · exact e.n
    · split
      · rcases start_cases h x.a with ⟨_, _, h2⟩ | ⟨_, _, _, _, _, _, e⟩
        · rw [h2]
        · exact e.n
      · rcases recv_cases h x.a x.b with ⟨_, h2, _⟩ | ⟨_, _, _, _, _, _, _, _, _, _, _, ⟨_, _, _, _, e⟩ | ⟨_, _, _, e⟩⟩
        · rw [h2]
        · exact e.n
        · exact e.n
theorem EI.act {σ : Net} {N : Nat} (h : EI σ N) (x : ActD) : EI (σ.act x) (N + 2) := by
  unfold Net.act
  split
  · exact h.work _ _
  · split
    · exact h.send _ _ _
    · split
      · exact (h.start _).1.le (by omega)
      · exact (h.recv _ _).1.le (by omega)
theorem EI.acts : ∀ (l : List ActD) {σ : Net} {N : Nat}, EI σ N → EI (σ.acts l) (N + 2 * l.length) ∧ (σ.acts l).n = σ.n
  | [], _, _, h => ⟨h, rfl⟩
  | x :: l, σ, N, h => by
    obtain ⟨h1, h2⟩ := EI.acts l (h.act x)
    refine ⟨h1.le (by simp; omega), ?_⟩
    show ((σ.act x).acts l).n = σ.n
    rw [h2, act_n h.ok x]
theorem EI.new {l : List Int} (h : newOk l) : EI (Net.new l) 0 ∧ (Net.new l).n = l.length := by
  refine ⟨⟨NetOk.new h, ?_, fun k hk => by simp [Net.new] at hk⟩, by simp [Net.n, Net.new]⟩
  have hL : ∀ a b, (Net.new l).lineAt a b = [] := fun a b => by
    simp only [Net.new, Net.lineAt, List.getD, List.getElem?_replicate]
    split
    · simp only [Option.getD_some, List.getElem?_replicate]; split <;> rfl
    · rfl
  have h1 : (Net.new l).msgs = 0 := fsum_zero fun a _ => fsum_zero fun b _ => by rw [hL]; rfl
  have h2 : (Net.new l).unr = 0 := rfl
  unfold Net.phi
  rw [h1, h2]
  simp [Net.new]
/-- All channels are empty: every snapshot is done. -/
theorem EI.done {σ : Net} {N : Nat} (h : EI σ N) (hq : ∀ i j, i < σ.n → j < σ.n → i ≠ j → σ.lineAt i j = []) (k : Nat) (hk : k < σ.shots.length) : (σ.X k).fin σ.n = true := by
  obtain ⟨g1, g2, i, hi, hR⟩ := h.g k hk
  have hC : ∀ a b, a < σ.n → b < σ.n → a ≠ b → (σ.X k).R a = true → (σ.X k).C a b = true := fun a b ha hb hab hRa => by
    rcases g1 a b ha hb hab hRa with h3 | ⟨m, hm, _⟩
    · exact h3
    · rw [hq a b ha hb hab] at hm; cases hm
  have hRa : ∀ a, a < σ.n → (σ.X k).R a = true := fun a ha => by
    by_cases hia : i = a
    · rw [← hia]; exact hR
    · exact g2 i a hi ha hia (hC i a hi ha hia hR)
  unfold Shot.fin
  rw [List.all_eq_true]
  intro a ha
  rw [List.all_eq_true]
  intro b hb
  have ha := List.mem_range.1 ha
  have hb := List.mem_range.1 hb
  unfold cellOk
  have h1 : (σ.X k).recorded.getD a false = true := hRa a ha
  rw [h1, Bool.true_and]
  by_cases hab : a = b
  · rw [beq_iff_eq.2 hab]; rfl
  · have h2 : ((σ.X k).closed.getD a []).getD b false = true := hC a b ha hb hab (hRa a ha)
    rw [h2]; simp
end Go.Proofs.Ytnkgfgkgepadhaa

/-
  Plain: the lists of events that a net makes, and that a net's events are such a list.
-/
import Derived.Test.YtnkgfgkgepadhaaKeeps4
import Derived.Test.YtnkgfgkgepadhaaEvRd
namespace Go.Proofs.Ytnkgfgkgepadhaa
set_option linter.unusedVariables false
set_option linter.unusedSimpArgs false

/-- Is an event sent from a to b? -/
def isSend (a b : Nat) (e : Ev) : Bool := e.what == 2 && (e.station == (a : Int) && e.other == (b : Int))
/-- Is it the receipt by b of what came from a? -/
def isRecv (a b : Nat) (e : Ev) : Bool := e.what == 3 && (e.station == (b : Int) && e.other == (a : Int))
def scnt (l : List Ev) (a b : Nat) : Nat := l.countP (isSend a b)
def rcnt (l : List Ev) (a b : Nat) : Nat := l.countP (isRecv a b)
/-- The clock of station k after the events. -/
def lastC (n : Nat) (l : List Ev) (k : Nat) : List Int := l.foldl (fun c e => if e.station = (k : Int) then e.clock else c) (List.replicate n 0)
/-- What is under way. -/
def pend (l : List Ev) (a b : Nat) : List Ev := (l.filter (isSend a b)).drop (rcnt l a b)
def evWork (n : Nat) (l : List Ev) (k : Nat) (p : Int) : Ev := ⟨k, 1, k, p, tick (lastC n l k) k⟩
def evSend (n : Nat) (l : List Ev) (i j : Nat) (p : Int) : Ev := ⟨i, 2, j, p, tick (lastC n l i) i⟩
def evRecv (n : Nat) (l : List Ev) (i j : Nat) (x : Ev) : Ev := ⟨j, 3, i, x.pieces, joined (lastC n l j) x.clock j⟩
inductive Good (n : Nat) : List Ev → Prop
  | nil : Good n []
  | work {l : List Ev} (k : Nat) (p : Int) : Good n l → k < n → Good n (l ++ [evWork n l k p])
  | send {l : List Ev} (i j : Nat) (p : Int) : Good n l → i < n → j < n → i ≠ j → Good n (l ++ [evSend n l i j p])
  | recv {l : List Ev} (i j : Nat) (x : Ev) (rest : List Ev) : Good n l → i < n → j < n → i ≠ j → pend l i j = x :: rest → Good n (l ++ [evRecv n l i j x])

theorem scnt_snoc (l : List Ev) (e : Ev) (a b : Nat) : scnt (l ++ [e]) a b = scnt l a b + if isSend a b e = true then 1 else 0 := by
  unfold scnt; rw [List.countP_append]; cases h : isSend a b e <;> simp [h]
theorem rcnt_snoc (l : List Ev) (e : Ev) (a b : Nat) : rcnt (l ++ [e]) a b = rcnt l a b + if isRecv a b e = true then 1 else 0 := by
  unfold rcnt; rw [List.countP_append]; cases h : isRecv a b e <;> simp [h]
theorem lastC_snoc (n : Nat) (l : List Ev) (e : Ev) (k : Nat) : lastC n (l ++ [e]) k = if e.station = (k : Int) then e.clock else lastC n l k := by
  unfold lastC; rw [List.foldl_append]; rfl
theorem filter_snoc {p : Ev → Bool} (l : List Ev) (e : Ev) : (l ++ [e]).filter p = l.filter p ++ if p e = true then [e] else [] := by
  rw [List.filter_append]; cases h : p e <;> simp [h]
theorem scnt_len (l : List Ev) (a b : Nat) : (l.filter (isSend a b)).length = scnt l a b := by unfold scnt; rw [List.countP_eq_length_filter]
/-- No more is received than was sent. -/
theorem Good.le {n : Nat} {l : List Ev} (h : Good n l) (a b : Nat) : rcnt l a b ≤ scnt l a b := by
  induction h with
  | nil => simp [rcnt, scnt]
  | work k p _ hk ih => rw [scnt_snoc, rcnt_snoc]; simp [isRecv, evWork]; omega
  | send i j p _ hi hj hij ih => rw [scnt_snoc, rcnt_snoc]; simp [isRecv, evSend]; omega
  | @recv l i j x rest _ hi hj hij hp ih =>
    rw [scnt_snoc, rcnt_snoc]
    split
    · rename_i hr
      simp only [isRecv, evRecv, Bool.and_eq_true, beq_iff_eq] at hr
      have e1 : b = j := by omega
      have e2 : a = i := by omega
      subst e1; subst e2
      have hl : (pend l a b).length = scnt l a b - rcnt l a b := by unfold pend; rw [List.length_drop, scnt_len]
      rw [hp, List.length_cons] at hl
      omega
    · omega
theorem pend_snoc {l : List Ev} {a b : Nat} (h : rcnt l a b ≤ scnt l a b) (e : Ev) :
    pend (l ++ [e]) a b = if isSend a b e = true then pend l a b ++ [e] else if isRecv a b e = true then (pend l a b).drop 1 else pend l a b := by
  unfold pend
  rw [filter_snoc, rcnt_snoc]
  cases hs : isSend a b e with
  | true =>
    have hr : isRecv a b e = false := by
      simp only [isSend, Bool.and_eq_true, beq_iff_eq] at hs
      simp only [isRecv, hs.1]
      rfl
    rw [hr]
    simp only [if_true, if_false, Bool.false_eq_true, Nat.add_zero]
    rw [List.drop_append_of_le_length (by rw [scnt_len]; exact h)]
  | false =>
    cases hr : isRecv a b e with
    | true => simp only [if_true, if_false, Bool.false_eq_true, List.append_nil, List.drop_drop]
    | false => simp

/-! ### A net's events -/
structure NetGood (σ : Net) : Prop where
  good : Good σ.n σ.evs
  clk : ∀ k, k < σ.n → (σ.S k).clock = lastC σ.n σ.evs k
  par : ∀ i j, i < σ.n → j < σ.n → (σ.lineAt i j).filter (fun m => decide (0 < m.told)) = (pend σ.evs i j).map fun e => ⟨e.pieces, e.clock⟩
theorem NetGood.new {l : List Int} (h : newOk l) : NetGood (Net.new l) := by
  refine ⟨Good.nil, fun k hk => ?_, fun i j hi hj => ?_⟩
  · have hk' : k < l.length := by simpa [Net.n, Net.new] using hk
    simp [Net.S, Net.new, List.getD, hk', Sta.new, lastC, Net.n]
  · have hi' : i < l.length := by simpa [Net.n, Net.new] using hi
    have hj' : j < l.length := by simpa [Net.n, Net.new] using hj
    simp [Net.lineAt, Net.new, List.getD, hi', hj', pend]
theorem isRecv_work (n : Nat) (l : List Ev) (k : Nat) (p : Int) (a b : Nat) : isRecv a b (evWork n l k p) = false := by simp [isRecv, evWork]
theorem isSend_work (n : Nat) (l : List Ev) (k : Nat) (p : Int) (a b : Nat) : isSend a b (evWork n l k p) = false := by simp [isSend, evWork]
theorem isRecv_send (n : Nat) (l : List Ev) (i j : Nat) (p : Int) (a b : Nat) : isRecv a b (evSend n l i j p) = false := by simp [isRecv, evSend]
theorem isSend_send (n : Nat) (l : List Ev) (i j : Nat) (p : Int) (a b : Nat) : isSend a b (evSend n l i j p) = (decide (a = i) && decide (b = j)) := by
  simp only [isSend, evSend, beq_self_eq_true, Bool.true_and]
  by_cases h1 : a = i <;> by_cases h2 : b = j <;> simp [h1, h2] <;> omega
theorem isSend_recv (n : Nat) (l : List Ev) (i j : Nat) (x : Ev) (a b : Nat) : isSend a b (evRecv n l i j x) = false := by simp [isSend, evRecv]
theorem isRecv_recv (n : Nat) (l : List Ev) (i j : Nat) (x : Ev) (a b : Nat) : isRecv a b (evRecv n l i j x) = (decide (a = i) && decide (b = j)) := by
  simp only [isRecv, evRecv, beq_self_eq_true, Bool.true_and]
  by_cases h1 : a = i <;> by_cases h2 : b = j <;> simp [h1, h2] <;> omega
theorem NetGood.work {σ : Net} (h : NetGood σ) (hok : NetOk σ) (no p : Int) : NetGood (σ.work no p).2 := by
  rcases work_cases hok no p with ⟨_, h2⟩ | ⟨_, k, _, hk, hp1, hp2, _, e⟩
  · rw [h2]; exact h
  · have hE : (σ.work no p).2.evs = σ.evs ++ [evWork σ.n σ.evs k p] := by rw [e.evs, h.clk k hk]; rfl
    refine ⟨by rw [e.n, hE]; exact .work k p h.good hk, fun q hq => ?_, fun a b ha hb => ?_⟩
    · rw [e.n] at hq ⊢
      rw [e.S, hE, lastC_snoc]
      by_cases hqk : q = k
      · subst hqk; simp [evWork, h.clk q hq]
      · rw [if_neg hqk, if_neg (by simp [evWork]; omega)]; exact h.clk q hq
    · rw [e.n] at ha hb
      rw [e.L, hE, pend_snoc (h.good.le a b), isSend_work, isRecv_work]
      exact h.par a b ha hb
theorem NetGood.send {σ : Net} (h : NetGood σ) (hok : NetOk σ) (x y p : Int) : NetGood (σ.send x y p).2 := by
  rcases send_cases hok x y p with ⟨_, h2⟩ | ⟨_, i, j, _, _, hi, hj, hij, hp1, hp2, _, _, e⟩
  · rw [h2]; exact h
  · have hE : (σ.send x y p).2.evs = σ.evs ++ [evSend σ.n σ.evs i j p] := by rw [e.evs, h.clk i hi]; rfl
    refine ⟨by rw [e.n, hE]; exact .send i j p h.good hi hj hij, fun q hq => ?_, fun a b ha hb => ?_⟩
    · rw [e.n] at hq ⊢
      rw [e.S, hE, lastC_snoc]
      by_cases hqk : q = i
      · subst hqk; simp [evSend, h.clk q hq]
      · rw [if_neg hqk, if_neg (by simp [evSend]; omega)]; exact h.clk q hq
    · rw [e.n] at ha hb
      rw [e.L, hE, pend_snoc (h.good.le a b), isSend_send, isRecv_send]
      by_cases hab : a = i ∧ b = j
      · obtain ⟨rfl, rfl⟩ := hab
        have h1 := h.par a b ha hb
        rw [if_pos ⟨rfl, rfl⟩]
        simp only [decide_true, Bool.and_true, if_true, List.filter_append, List.map_append, h1]
        simp [evSend, h.clk a ha, show 0 < p by omega]
      · rw [if_neg hab]
        have hf : (decide (a = i) && decide (b = j)) = false := by rw [← Bool.decide_and]; exact decide_eq_false hab
        rw [hf]
        exact h.par a b ha hb
theorem par_skip {l : List Msg} (m : Msg) (hm : ¬ 0 < m.told) : (l ++ [m]).filter (fun m => decide (0 < m.told)) = l.filter (fun m => decide (0 < m.told)) := by simp [hm]
theorem NetGood.recv {σ : Net} (h : NetGood σ) (hok : NetOk σ) (x y : Int) : NetGood (σ.recv x y).2 := by
  rcases recv_cases hok x y with ⟨_, h2, _⟩ | ⟨_, i, j, _, _, hi, hj, hij, m, rest, hline, ⟨h0, h1, _, _, e⟩ | ⟨q, hm, _, e⟩⟩
  · rw [h2]; exact h
  · have hp := h.par i j hi hj
    rw [hline, List.filter_cons_of_pos (by simpa using h0)] at hp
    obtain ⟨x', rest', hpe⟩ : ∃ x' rest', pend σ.evs i j = x' :: rest' := by
      cases hc : pend σ.evs i j with
      | nil => rw [hc] at hp; simp at hp
      | cons a b => exact ⟨a, b, rfl⟩
    rw [hpe, List.map_cons] at hp
    injection hp with hp1 hp2
    have hE : (σ.recv x y).2.evs = σ.evs ++ [evRecv σ.n σ.evs i j x'] := by rw [e.evs, h.clk j hj, hp1]; rfl
    refine ⟨by rw [e.n, hE]; exact .recv i j x' rest' h.good hi hj hij hpe, fun q hq => ?_, fun a b ha hb => ?_⟩
    · rw [e.n] at hq ⊢
      rw [e.S, hE, lastC_snoc]
      by_cases hqk : q = j
      · subst hqk; simp [evRecv, h.clk q hq, hp1]
      · rw [if_neg hqk, if_neg (by simp [evRecv]; omega)]; exact h.clk q hq
    · rw [e.n] at ha hb
      rw [e.L, hE, pend_snoc (h.good.le a b), isSend_recv, isRecv_recv]
      by_cases hab : a = i ∧ b = j
      · obtain ⟨rfl, rfl⟩ := hab
        rw [if_pos ⟨rfl, rfl⟩]
        simp only [decide_true, Bool.and_true, if_true, if_false, Bool.false_eq_true, hpe, List.drop_succ_cons, List.drop_zero]
        exact hp2
      · rw [if_neg hab]
        have hf : (decide (a = i) && decide (b = j)) = false := by rw [← Bool.decide_and]; exact decide_eq_false hab
        rw [hf]
        exact h.par a b ha hb
  · have hS : ∀ k, Net.S (σ.recv x y).2 k = σ.S k := fun k => by unfold Net.S; rw [e.sta]
    refine ⟨by rw [e.n, e.evs]; exact h.good, fun k hk => ?_, fun a b ha hb => ?_⟩
    · rw [e.n] at hk ⊢
      rw [hS, e.evs]; exact h.clk k hk
    · rw [e.n] at ha hb
      rw [e.L, e.evs]
      split
      · rename_i hab
        obtain ⟨rfl, rfl⟩ := hab
        have := h.par a b ha hb
        rw [hline, List.filter_cons_of_neg (by simp; omega)] at this
        exact this
      · split
        · rw [par_skip _ (by simp only; omega)]; exact h.par a b ha hb
        · exact h.par a b ha hb
theorem NetGood.start {σ : Net} (h : NetGood σ) (hok : NetOk σ) (x : Int) : NetGood (σ.start x).2.2 := by
  rcases start_cases hok x with ⟨_, _, h2⟩ | ⟨_, _, q, _, _, _, e⟩
  · rw [h2]; exact h
  · have hS : ∀ k, Net.S (σ.start x).2.2 k = σ.S k := fun k => by unfold Net.S; rw [e.sta]
    refine ⟨by rw [e.n, e.evs]; exact h.good, fun k hk => ?_, fun a b ha hb => ?_⟩
    · rw [e.n] at hk ⊢
      rw [hS, e.evs]; exact h.clk k hk
    · rw [e.n] at ha hb
      rw [e.L, e.evs]
      split
      · rw [par_skip _ (by simp only; omega)]; exact h.par a b ha hb
      · exact h.par a b ha hb
theorem NetGood.act {σ : Net} (h : NetGood σ) (hok : NetOk σ) (x : ActD) : NetGood (σ.act x) := by
  unfold Net.act
  split
  · exact h.work hok _ _
  · split
    · exact h.send hok _ _ _
    · split
      · exact h.start hok _
      · exact h.recv hok _ _
theorem NetGood.acts : ∀ (l : List ActD) {σ : Net}, NetGood σ → NetOk σ → NetGood (σ.acts l)
  | [], _, h, hok => h
  | x :: l, _, h, hok => NetGood.acts l (h.act hok x) (hok.act x)
/-- Each call makes one event at most. -/
theorem act_one {σ : Net} (hok : NetOk σ) (x : ActD) : (σ.act x).evs.length ≤ σ.evs.length + 1 := by
  unfold Net.act
  split
  · rcases work_cases hok x.a x.n with ⟨_, h2⟩ | ⟨_, k, _, hk, hp1, hp2, _, e⟩
    · rw [h2]; omega
    · rw [e.evs]; simp
  · split
    · rcases send_cases hok x.a x.b x.n with ⟨_, h2⟩ | ⟨_, i, j, _, _, hi, hj, hij, hp1, hp2, _, _, e⟩
      · rw [h2]; omega
      · rw [e.evs]; simp
    · split
      · rcases start_cases hok x.a with ⟨_, _, h2⟩ | ⟨_, _, q, _, _, _, e⟩
        · rw [h2]; omega
        · rw [e.evs]; omega
      · rcases recv_cases hok x.a x.b with ⟨_, h2, _⟩ | ⟨_, i, j, _, _, hi, hj, hij, m, rest, hline, ⟨h0, h1, _, _, e⟩ | ⟨q, hm, _, e⟩⟩
        · rw [h2]; omega
        · rw [e.evs]; simp
        · rw [e.evs]; omega
theorem acts_few : ∀ (l : List ActD) {σ : Net}, NetOk σ → (σ.acts l).evs.length ≤ σ.evs.length + l.length
  | [], _, hok => by simp [Net.acts]
  | x :: l, σ, hok => by
    have h1 := acts_few l (hok.act x)
    have h2 := act_one hok x
    simp only [Net.acts, List.foldl_cons, List.length_cons] at h1 ⊢
    omega
end Go.Proofs.Ytnkgfgkgepadhaa

/-
  Plain: a net in which just the events within a snapshot's cut were done holds what the snapshot has recorded.
-/
import Derived.Test.YtnkgfgkgepadhaaKeeps3
import Derived.Test.YtnkgfgkgepadhaaClk3
namespace Go.Proofs.Ytnkgfgkgepadhaa
set_option linter.unusedVariables false
set_option linter.unusedSimpArgs false

/-! ### Doing events again -/
def doEv (x : Net) (v : Ev) : Int × Net := if v.what = 1 then x.work v.station v.pieces else if v.what = 2 then x.send v.station v.other v.pieces else x.recv v.other v.station
def rpN (x0 : Net) (l : List Ev) (W : Nat → Bool) : Nat → Option Net
  | 0 => some x0
  | t + 1 => match rpN x0 l W t with
    | none => none
    | some x => if W t = true then (if (doEv x (l.getD t dfEv)).1 = 0 then some (doEv x (l.getD t dfEv)).2 else none) else some x
theorem rpN_app {x0 : Net} {l : List Ev} {e : Ev} {W W' : Nat → Bool} (h : ∀ i, i < l.length → W' i = W i) : ∀ t, t ≤ l.length → rpN x0 (l ++ [e]) W' t = rpN x0 l W t
  | 0, _ => rfl
  | t + 1, ht => by
    unfold rpN
    rw [rpN_app h t (by omega), getD_app (by omega), h t (by omega)]
theorem rpN_congr {x0 : Net} {l : List Ev} {W W' : Nat → Bool} (h : ∀ i, i < l.length → W' i = W i) : ∀ t, t ≤ l.length → rpN x0 l W' t = rpN x0 l W t
  | 0, _ => rfl
  | t + 1, ht => by
    unfold rpN
    rw [rpN_congr h t (by omega), h t (by omega)]
/-- Is event i within what a snapshot has recorded (all of a station that has not recorded)? -/
def wi (x : Shot) (l : List Ev) (i : Nat) : Bool := !(x.R (l.getD i dfEv).station.toNat) || decide ((cntS l i (l.getD i dfEv).station.toNat : Int) < x.T (l.getD i dfEv).station.toNat)
theorem wi_app (x : Shot) {l : List Ev} (e : Ev) {i : Nat} (hi : i < l.length) : wi x (l ++ [e]) i = wi x l i := by
  unfold wi; rw [getD_app hi, cntS_app (by omega)]
theorem wi_congr {x x' : Shot} (hR : ∀ a, x'.R a = x.R a) (hT : ∀ a, x'.T a = x.T a) (l : List Ev) (i : Nat) : wi x' l i = wi x l i := by unfold wi; rw [hR, hT]
def Rp (x0 : Net) (l : List Ev) (x : Shot) (ρ : Net) : Prop := rpN x0 l (wi x l) l.length = some ρ
theorem Rp.congr {x0 ρ : Net} {l : List Ev} {x x' : Shot} (h : Rp x0 l x ρ) (hw : ∀ i, i < l.length → wi x' l i = wi x l i) : Rp x0 l x' ρ := by
  unfold Rp at *; rw [rpN_congr hw _ (Nat.le_refl _)]; exact h
theorem Rp.within {x0 ρ : Net} {l : List Ev} {x : Shot} {e : Ev} {q : Nat} (h : Rp x0 l x ρ) (he : e.station = q) (hR : x.R q = false) (h0 : (doEv ρ e).1 = 0) : Rp x0 (l ++ [e]) x (doEv ρ e).2 := by
  unfold Rp at *
  rw [List.length_append, List.length_singleton]
  unfold rpN
  rw [rpN_app (fun i hi => wi_app x e hi) _ (Nat.le_refl _), h, getD_end]
  have : wi x (l ++ [e]) l.length = true := by unfold wi; rw [getD_end, he, Int.toNat_natCast, hR]; rfl
  simp only [this, if_true, h0]
theorem Rp.beyond {x0 ρ : Net} {l : List Ev} {x : Shot} {e : Ev} {q : Nat} (h : Rp x0 l x ρ) (he : e.station = q) (hR : x.R q = true) (hT : x.T q ≤ cntS l l.length q) : Rp x0 (l ++ [e]) x ρ := by
  unfold Rp at *
  rw [List.length_append, List.length_singleton]
  unfold rpN
  rw [rpN_app (fun i hi => wi_app x e hi) _ (Nat.le_refl _), h]
  have : wi x (l ++ [e]) l.length = false := by
    unfold wi
    rw [getD_end, he, Int.toNat_natCast, hR, cntS_app (Nat.le_refl _), decide_eq_false (by omega)]
    rfl
  simp [this]
theorem cntS_E (l : List Ev) (s : Nat) : cntS l l.length s = cntE l s := by unfold cntS cntE; rw [List.take_length]

/-! ### The parcels ahead of a marker -/
def pre (k : Nat) (l : List Msg) : List Msg := (l.takeWhile fun m => !isMark k m).filter fun m => decide (0 < m.told)
theorem pre_none {k : Nat} {l : List Msg} (h : ∀ m ∈ l, isMark k m = false) : pre k l = l.filter fun m => decide (0 < m.told) := by
  unfold pre; rw [tw_all (l := l) (fun m hm => by simp [h m hm])]
theorem pre_par {k : Nat} {m : Msg} (l : List Msg) (h : 0 < m.told) : pre k (m :: l) = m :: pre k l := by
  unfold pre; rw [List.takeWhile_cons]; simp [told_mark h, h]
theorem pre_mark {k : Nat} {m : Msg} (l : List Msg) (h : isMark k m = true) : pre k (m :: l) = [] := by
  unfold pre; rw [List.takeWhile_cons]; simp [h]
theorem pre_other {k : Nat} {m : Msg} (l : List Msg) (h : m.told < 0) (h2 : isMark k m = false) : pre k (m :: l) = pre k l := by
  unfold pre; rw [List.takeWhile_cons]; simp [h2, show ¬ 0 < m.told by omega]
theorem pre_stop {k : Nat} {a b : List Msg} (h : ∃ m ∈ a, isMark k m = true) : pre k (a ++ b) = pre k a := by
  unfold pre
  rw [takeWhile_append_stop]
  obtain ⟨m, hm, hp⟩ := h
  exact ⟨m, hm, by simp [hp]⟩
theorem pre_snoc {k : Nat} (a : List Msg) {m : Msg} (hm : m.told < 0) : pre k (a ++ [m]) = pre k a := by
  by_cases h : ∃ m ∈ a, isMark k m = true
  · exact pre_stop h
  · have hn : ∀ m ∈ a, isMark k m = false := fun m hm => by
      cases hc : isMark k m with
      | false => rfl
      | true => exact absurd ⟨m, hm, hc⟩ h
    unfold pre
    rw [List.takeWhile_append_of_pos (fun x hx => by simp [hn x hx]), tw_all (l := a) (fun m hm => by simp [hn m hm]), List.filter_append]
    have : ([m].takeWhile fun m => !isMark k m).filter (fun m => decide (0 < m.told)) = [] := by
      rw [List.takeWhile_cons]
      split <;> simp [show ¬ 0 < m.told by omega]
    rw [this, List.append_nil]
theorem pre_push {k : Nat} {a : List Msg} {m : Msg} (hn : ∀ m ∈ a, isMark k m = false) (hm : 0 < m.told) : pre k (a ++ [m]) = pre k a ++ [m] := by
  rw [pre_none (l := a ++ [m]) (fun x hx => by
    rcases List.mem_append.1 hx with hx | hx
    · exact hn x hx
    · rw [List.mem_singleton.1 hx]; exact told_mark hm), pre_none hn, List.filter_append]
  simp [hm]

/-! ### What is known of a snapshot, and of the net beside it -/
structure XI (σ : Net) (k : Nat) (x : Shot) : Prop where
  t : ∀ i, i < σ.n → x.R i = true → x.T i ≤ (σ.S i).events
  c : ∀ i j, i < σ.n → j < σ.n → x.C i j = true → x.R i = true ∧ x.R j = true
  m : ∀ i j, i < σ.n → j < σ.n → x.R i = false → ∀ m ∈ σ.lineAt i j, isMark k m = false
  d : ∀ i j, i < σ.n → j < σ.n → i ≠ j → x.R i = true → x.C i j = true ∨ ∃ m ∈ σ.lineAt i j, isMark k m = true
theorem KS.xi {σ : Net} {p0 : Int} {k : Nat} {x : Shot} (h : KS σ p0 k x) : XI σ k x :=
  ⟨fun i hi hR => (h.t i hi hR).2, h.c, (fun i j hi hj hR m hm => by
    cases hc : isMark k m with
    | false => rfl
    | true =>
      have := h.m i j hi hj ⟨m, hm, hc⟩
      rw [hR] at this; cases this), h.d⟩
structure Sx (p0 : Int) (σ ρ : Net) (x : Shot) (k : Nat) : Prop where
  ki : KI ρ p0
  good : NetGood ρ
  n : ρ.n = σ.n
  few : ρ.evs.length ≤ σ.evs.length
  S : ∀ s, s < σ.n → x.R s = false → ρ.S s = σ.S s
  P : ∀ s, s < σ.n → x.R s = true → (ρ.S s).pieces = x.P s
  T : ∀ s, s < σ.n → x.R s = true → (ρ.S s).events = x.T s
  L : ∀ a b, a < σ.n → b < σ.n → x.R b = false → ρ.lineAt a b = pre k (σ.lineAt a b)
  M : ∀ a b, a < σ.n → b < σ.n → x.R b = true → (ρ.lineAt a b).map Msg.told = x.U a b ++ if x.C a b = true then [] else (pre k (σ.lineAt a b)).map Msg.told
  U : ∀ a b, a < σ.n → b < σ.n → x.R b = false → x.U a b = []
  sub : ∀ i, i < σ.evs.length → wi x σ.evs i = true → σ.evs.getD i dfEv ∈ ρ.evs
variable {p0 : Int} {σ σ' ρ : Net} {x x' : Shot} {k : Nat}
/-- An event beyond the cut. -/
theorem Sx.beyond {q : Nat} {ev : Ev} (s : Sx p0 σ ρ x k) (hq : q < σ.n) (hRq : x.R q = true) (hTq : x.T q ≤ cntS σ.evs σ.evs.length q) (hn : σ'.n = σ.n) (hE : σ'.evs = σ.evs ++ [ev]) (hst : ev.station = q)
    (hS : ∀ t, t ≠ q → σ'.S t = σ.S t) (hR : ∀ a, x'.R a = x.R a) (hT : ∀ a, x'.T a = x.T a) (hP : ∀ a, x'.P a = x.P a) (hC : ∀ a b, x'.C a b = x.C a b)
    (hL : ∀ a b, a < σ.n → b < σ.n → x.R b = false → pre k (σ'.lineAt a b) = pre k (σ.lineAt a b))
    (hM : ∀ a b, a < σ.n → b < σ.n → x.R b = true → x'.U a b ++ (if x.C a b = true then [] else (pre k (σ'.lineAt a b)).map Msg.told) = x.U a b ++ if x.C a b = true then [] else (pre k (σ.lineAt a b)).map Msg.told)
    (hU : ∀ a b, a < σ.n → b < σ.n → x.R b = false → x'.U a b = x.U a b) : Sx p0 σ' ρ x' k := by
  refine ⟨s.ki, s.good, s.n.trans hn.symm, by rw [hE]; have := s.few; simp; omega, fun t ht hRt => ?_, fun t ht hRt => ?_, fun t ht hRt => ?_, fun a b ha hb hRb => ?_, fun a b ha hb hRb => ?_, fun a b ha hb hRb => ?_, fun i hi hw => ?_⟩
  · rw [hn] at ht; rw [hR] at hRt
    rw [s.S t ht hRt, hS t (fun h => by rw [h, hRq] at hRt; cases hRt)]
  · rw [hn] at ht; rw [hR] at hRt; rw [hP]; exact s.P t ht hRt
  · rw [hn] at ht; rw [hR] at hRt; rw [hT]; exact s.T t ht hRt
  · rw [hn] at ha hb; rw [hR] at hRb; rw [hL a b ha hb hRb]; exact s.L a b ha hb hRb
  · rw [hn] at ha hb; rw [hR] at hRb; rw [hC, hM a b ha hb hRb]; exact s.M a b ha hb hRb
  · rw [hn] at ha hb; rw [hR] at hRb; rw [hU a b ha hb hRb]; exact s.U a b ha hb hRb
  · rw [hE] at hi hw ⊢
    rw [wi_congr hR hT] at hw
    by_cases h : i < σ.evs.length
    · rw [getD_app h]
      rw [wi_app x ev h] at hw
      exact s.sub i h hw
    · obtain rfl : i = σ.evs.length := by simp at hi; omega
      exfalso
      unfold wi at hw
      rw [getD_end, hst, Int.toNat_natCast, hRq, cntS_app (Nat.le_refl _), decide_eq_false (by omega)] at hw
      cases hw
/-- No event; the lines turn, but not what is ahead of the marker. -/
theorem Sx.lines (s : Sx p0 σ ρ x k) (hn : σ'.n = σ.n) (hE : σ'.evs = σ.evs) (hS : ∀ t, σ'.S t = σ.S t) (hR : ∀ a, x'.R a = x.R a) (hT : ∀ a, x'.T a = x.T a) (hP : ∀ a, x'.P a = x.P a) (hU : ∀ a b, x'.U a b = x.U a b)
    (hC : ∀ a b, a < σ.n → b < σ.n → x'.C a b = x.C a b ∨ (x.R b = true ∧ x'.C a b = true ∧ pre k (σ.lineAt a b) = []))
    (hL : ∀ a b, a < σ.n → b < σ.n → x.R b = false ∨ x'.C a b = false → pre k (σ'.lineAt a b) = pre k (σ.lineAt a b)) : Sx p0 σ' ρ x' k := by
  refine ⟨s.ki, s.good, s.n.trans hn.symm, by rw [hE]; exact s.few, fun t ht hRt => ?_, fun t ht hRt => ?_, fun t ht hRt => ?_, fun a b ha hb hRb => ?_, fun a b ha hb hRb => ?_, fun a b ha hb hRb => ?_, fun i hi hw => ?_⟩
  · rw [hn] at ht; rw [hR] at hRt; rw [hS]; exact s.S t ht hRt
  · rw [hn] at ht; rw [hR] at hRt; rw [hP]; exact s.P t ht hRt
  · rw [hn] at ht; rw [hR] at hRt; rw [hT]; exact s.T t ht hRt
  · rw [hn] at ha hb; rw [hR] at hRb; rw [hL a b ha hb (.inl hRb)]; exact s.L a b ha hb hRb
  · rw [hn] at ha hb; rw [hR] at hRb
    rw [hU, s.M a b ha hb hRb]
    rcases hC a b ha hb with h | ⟨_, h, h2⟩
    · rw [h]
      cases hc : x.C a b with
      | true => simp
      | false => rw [hL a b ha hb (.inr (h.trans hc))]
    · rw [h, h2]; simp
  · rw [hn] at ha hb; rw [hR] at hRb; rw [hU]; exact s.U a b ha hb hRb
  · rw [hE] at hi hw ⊢
    rw [wi_congr hR hT] at hw
    exact s.sub i hi hw
/-- A station records. -/
theorem wi_record {q : Nat} (hst : ∀ e ∈ σ.evs, ∃ k : Nat, e.station = k ∧ k < σ.n) (hev : (σ.S q).events = cntE σ.evs q) (h0 : x.R q = false) (hR : ∀ a, x'.R a = if a = q then true else x.R a) (hT : ∀ a, x'.T a = if a = q then (σ.S q).events else x.T a) :
    ∀ i, i < σ.evs.length → wi x' σ.evs i = wi x σ.evs i := fun i hi => by
  obtain ⟨t, ht, _⟩ := hst _ (getD_mem hi)
  unfold wi
  rw [ht, Int.toNat_natCast, hR, hT]
  by_cases h : t = q
  · subst h
    rw [if_pos rfl, if_pos rfl, h0, hev]
    have h1 := cntS_own hi ht
    have h2 := cntS_le (l := σ.evs) (show i + 1 ≤ σ.evs.length by omega) t
    rw [cntS_E] at h2
    rw [decide_eq_true (by omega)]; rfl
  · rw [if_neg h, if_neg h]
theorem Sx.record {q : Nat} (s : Sx p0 σ ρ x k) (X : XI σ k x) (hst : ∀ e ∈ σ.evs, ∃ k : Nat, e.station = k ∧ k < σ.n) (hev : (σ.S q).events = cntE σ.evs q) (hq : q < σ.n) (h0 : x.R q = false) (hR : ∀ a, x'.R a = if a = q then true else x.R a) (hT : ∀ a, x'.T a = if a = q then (σ.S q).events else x.T a)
    (hP : ∀ a, x'.P a = if a = q then (σ.S q).pieces else x.P a) (hC : ∀ a b, x'.C a b = x.C a b) (hU : ∀ a b, x'.U a b = x.U a b) : Sx p0 σ ρ x' k := by
  refine ⟨s.ki, s.good, s.n, s.few, fun t ht hRt => ?_, fun t ht hRt => ?_, fun t ht hRt => ?_, fun a b ha hb hRb => ?_, fun a b ha hb hRb => ?_, fun a b ha hb hRb => ?_, fun i hi hw => ?_⟩
  · rw [hR] at hRt
    split at hRt
    · cases hRt
    · exact s.S t ht hRt
  · rw [hP]
    split
    · rename_i h; subst h; rw [s.S t ht h0]
    · rename_i h; rw [hR, if_neg h] at hRt; exact s.P t ht hRt
  · rw [hT]
    split
    · rename_i h; subst h; rw [s.S t ht h0]
    · rename_i h; rw [hR, if_neg h] at hRt; exact s.T t ht hRt
  · rw [hR] at hRb
    split at hRb
    · cases hRb
    · exact s.L a b ha hb hRb
  · rw [hU, hC]
    by_cases h : b = q
    · subst h
      have hc : x.C a b = false := by
        cases hc : x.C a b with
        | false => rfl
        | true => have := (X.c a b ha hb hc).2; rw [h0] at this; cases this
      rw [s.U a b ha hb h0, hc, s.L a b ha hb h0]; simp
    · rw [hR, if_neg h] at hRb; exact s.M a b ha hb hRb
  · rw [hR] at hRb
    rw [hU]
    split at hRb
    · cases hRb
    · exact s.U a b ha hb hRb
  · rw [wi_record hst hev h0 hR hT i hi] at hw
    exact s.sub i hi hw
/-- The same with another number whose marker is nowhere. -/
theorem Sx.rek {k' : Nat} (s : Sx p0 σ ρ x k) (h1 : ∀ a b, a < σ.n → b < σ.n → ∀ m ∈ σ.lineAt a b, isMark k m = false) (h2 : ∀ a b, a < σ.n → b < σ.n → ∀ m ∈ σ.lineAt a b, isMark k' m = false) : Sx p0 σ ρ x k' := by
  have e : ∀ a b, a < σ.n → b < σ.n → pre k' (σ.lineAt a b) = pre k (σ.lineAt a b) := fun a b ha hb => by rw [pre_none (h1 a b ha hb), pre_none (h2 a b ha hb)]
  exact ⟨s.ki, s.good, s.n, s.few, s.S, s.P, s.T, fun a b ha hb hR => by rw [e a b ha hb]; exact s.L a b ha hb hR, fun a b ha hb hR => by rw [e a b ha hb]; exact s.M a b ha hb hR, s.U, s.sub⟩
/-! ### The calls on the net beside it -/
theorem work_done (h : NetOk ρ) {q : Nat} {p : Int} (hq : q < ρ.n) (h1 : 1 ≤ p) (h2 : p ≤ 1000000) (he : ρ.evs.length < 400) : (ρ.work q p).1 = 0 ∧ WorkEff ρ (ρ.work q p).2 q p := by
  have h0 : (ρ.work q p).1 = 0 := by
    have hq : q < ρ.sta.length := hq
    unfold Net.work
    rw [if_neg (fun h => h ⟨⟨by omega, by omega⟩, h1, h2⟩), if_neg (by omega)]
  rcases work_cases h q p with ⟨h3, _⟩ | ⟨_, k, hk, _, _, _, _, e⟩
  · exact absurd h0 h3
  · obtain rfl : q = k := by omega
    exact ⟨h0, e⟩
theorem send_done (h : NetOk ρ) {i j : Nat} {p : Int} (hi : i < ρ.n) (hj : j < ρ.n) (hij : i ≠ j) (h1 : 1 ≤ p) (h2 : p ≤ 1000000) (h3 : p ≤ (ρ.S i).pieces) (he : ρ.evs.length < 400) : (ρ.send i j p).1 = 0 ∧ SendEff ρ (ρ.send i j p).2 i j p := by
  have h0 : (ρ.send i j p).1 = 0 := by
    have hi' : i < ρ.sta.length := hi
    have hj' : j < ρ.sta.length := hj
    have hs := S_of (σ := ρ) hi
    have hheld : ρ.held i = (ρ.S i).pieces := by simp [Net.held, hs]
    unfold Net.send
    rw [if_neg (by rw [pairErr_ok (by omega) (by omega) (by omega) (by omega) (by simp; omega)]; decide), if_neg (by rw [parcB_yes ⟨h1, h2⟩]; decide), Int.toNat_natCast, if_neg (by rw [hheld]; omega), if_neg (by omega)]
  rcases send_cases h i j p with ⟨h4, _⟩ | ⟨_, i', j', hi2, hj2, _, _, _, _, _, _, _, e⟩
  · exact absurd h0 h4
  · obtain rfl : i = i' := by omega
    obtain rfl : j = j' := by omega
    exact ⟨h0, e⟩
theorem take_done (h : NetOk ρ) {i j : Nat} {m : Msg} {rest : List Msg} (hi : i < ρ.n) (hj : j < ρ.n) (hij : i ≠ j) (hl : ρ.lineAt i j = m :: rest) (hm : 0 < m.told) (he : ρ.evs.length < 400) : (ρ.recv i j).1 = 0 ∧ TakeEff ρ (ρ.recv i j).2 i j m rest := by
  rcases recv_cases h i j with ⟨_, _, h4⟩ | ⟨h0, i', j', hi2, hj2, _, _, _, m', rest', hl', ⟨_, _, _, _, e⟩ | ⟨k, hk, _, _⟩⟩
  · rw [h4 i j rfl rfl hi hj hij he] at hl; cases hl
  · obtain rfl : i = i' := by omega
    obtain rfl : j = j' := by omega
    rw [hl] at hl'
    injection hl' with e1 e2
    subst e1; subst e2
    exact ⟨h0, e⟩
  · obtain rfl : i = i' := by omega
    obtain rfl : j = j' := by omega
    rw [hl] at hl'
    injection hl' with e1 e2
    subst e1
    omega
def WX (p0 : Int) (x0 σ : Net) (x : Shot) (k : Nat) : Prop := ∃ ρ, Rp x0 σ.evs x ρ ∧ Sx p0 σ ρ x k
/-- The new event is done by the net beside too. -/
theorem sub_step {ρ' : Net} {ev : Ev} (s : Sx p0 σ ρ x k) (hE : σ'.evs = σ.evs ++ [ev]) (hE' : ρ'.evs = ρ.evs ++ [ev]) : ∀ i, i < σ'.evs.length → wi x σ'.evs i = true → σ'.evs.getD i dfEv ∈ ρ'.evs := fun i hi hw => by
  rw [hE] at hi hw ⊢
  rw [hE']
  by_cases h : i < σ.evs.length
  · rw [getD_app h]
    rw [wi_app x ev h] at hw
    exact List.mem_append_left _ (s.sub i h hw)
  · obtain rfl : i = σ.evs.length := by simp at hi; omega
    rw [getD_end]; simp
theorem T_cnt (K : KI σ p0) (X : XI σ k x) {q : Nat} (hq : q < σ.n) (hR : x.R q = true) : x.T q ≤ cntS σ.evs σ.evs.length q := by
  rw [cntS_E, ← K.ev q hq]; exact X.t q hq hR
variable {x0 : Net}
theorem WX.work {q : Nat} {p : Int} (h : WX p0 x0 σ x k) (K : KI σ p0) (X : XI σ k x) (hq : q < σ.n) (h1 : 1 ≤ p) (h2 : p ≤ 1000000) (he : σ.evs.length < 400) (e : WorkEff σ σ' q p) : WX p0 x0 σ' x k := by
  obtain ⟨ρ, r, s⟩ := h
  cases hR : x.R q with
  | true =>
    have hT := T_cnt K X hq hR
    exact ⟨ρ, by rw [e.evs]; exact r.beyond rfl hR hT, s.beyond hq hR hT e.n e.evs rfl (fun t ht => by rw [e.S, if_neg ht]) (fun _ => rfl) (fun _ => rfl) (fun _ => rfl) (fun _ _ => rfl) (fun a b _ _ _ => by rw [e.L]) (fun a b _ _ _ => by rw [e.L]) (fun _ _ _ _ _ => rfl)⟩
  | false =>
    have hq' : q < ρ.n := by rw [s.n]; exact hq
    have hf := s.few
    obtain ⟨h0, e'⟩ := work_done s.ki.ok hq' h1 h2 (by omega)
    have hSq := s.S q hq hR
    have hEv : (ρ.work q p).2.evs = ρ.evs ++ [⟨q, 1, q, p, tick (σ.S q).clock q⟩] := by rw [e'.evs, hSq]
    refine ⟨(ρ.work q p).2, by rw [e.evs]; exact r.within (e := ⟨q, 1, q, p, tick (σ.S q).clock q⟩) rfl hR h0, s.ki.work _ _, s.good.work s.ki.ok _ _, (e'.n.trans s.n).trans e.n.symm, by rw [hEv, e.evs]; simp; omega, fun t ht hRt => ?_, fun t ht hRt => ?_, fun t ht hRt => ?_, fun a b ha hb hRb => ?_, fun a b ha hb hRb => ?_, fun a b ha hb hRb => ?_, sub_step s e.evs hEv⟩
    · rw [e.n] at ht
      rw [e'.S, e.S, hSq]
      split
      · rfl
      · exact s.S t ht hRt
    · rw [e.n] at ht
      rw [e'.S, if_neg (fun h => by rw [h, hR] at hRt; cases hRt)]; exact s.P t ht hRt
    · rw [e.n] at ht
      rw [e'.S, if_neg (fun h => by rw [h, hR] at hRt; cases hRt)]; exact s.T t ht hRt
    · rw [e.n] at ha hb; rw [e'.L, e.L]; exact s.L a b ha hb hRb
    · rw [e.n] at ha hb; rw [e'.L, e.L]; exact s.M a b ha hb hRb
    · rw [e.n] at ha hb; exact s.U a b ha hb hRb
theorem WX.send {i j : Nat} {p : Int} (h : WX p0 x0 σ x k) (K : KI σ p0) (X : XI σ k x) (hi : i < σ.n) (hj : j < σ.n) (hij : i ≠ j) (h1 : 1 ≤ p) (h2 : p ≤ 1000000) (h3 : p ≤ (σ.S i).pieces) (he : σ.evs.length < 400) (e : SendEff σ σ' i j p) : WX p0 x0 σ' x k := by
  obtain ⟨ρ, r, s⟩ := h
  cases hR : x.R i with
  | true =>
    have hT := T_cnt K X hi hR
    have hd := X.d i j hi hj hij hR
    refine ⟨ρ, by rw [e.evs]; exact r.beyond rfl hR hT, s.beyond hi hR hT e.n e.evs rfl (fun t ht => by rw [e.S, if_neg ht]) (fun _ => rfl) (fun _ => rfl) (fun _ => rfl) (fun _ _ => rfl) (fun a b ha hb hRb => ?_) (fun a b ha hb hRb => ?_) (fun _ _ _ _ _ => rfl)⟩
    · rw [e.L]
      split
      · rename_i hc
        obtain ⟨rfl, rfl⟩ := hc
        rcases hd with hd | hd
        · have := (X.c a b ha hb hd).2; rw [hRb] at this; cases this
        · exact pre_stop hd
      · rfl
    · rw [e.L]
      split
      · rfl
      · rename_i hcc
        congr 1
        congr 1
        split
        · rename_i hc
          obtain ⟨rfl, rfl⟩ := hc
          rcases hd with hd | hd
          · exact absurd hd hcc
          · exact pre_stop hd
        · rfl
  | false =>
    have hi' : i < ρ.n := by rw [s.n]; exact hi
    have hj' : j < ρ.n := by rw [s.n]; exact hj
    have hf := s.few
    have hSq := s.S i hi hR
    obtain ⟨h0, e'⟩ := send_done s.ki.ok hi' hj' hij h1 h2 (by rw [hSq]; exact h3) (by omega)
    have hEv : (ρ.send i j p).2.evs = ρ.evs ++ [⟨i, 2, j, p, tick (σ.S i).clock i⟩] := by rw [e'.evs, hSq]
    have hno := X.m i j hi hj hR
    have hci : x.C i j = false := by
      cases hc : x.C i j with
      | false => rfl
      | true => have := (X.c i j hi hj hc).1; rw [hR] at this; cases this
    have hpu : pre k (σ.lineAt i j ++ [⟨p, tick (σ.S i).clock i⟩]) = pre k (σ.lineAt i j) ++ [⟨p, tick (σ.S i).clock i⟩] := pre_push hno (by simp only; omega)
    refine ⟨(ρ.send i j p).2, by rw [e.evs]; exact r.within (e := ⟨i, 2, j, p, tick (σ.S i).clock i⟩) rfl hR h0, s.ki.send _ _ _, s.good.send s.ki.ok _ _ _, (e'.n.trans s.n).trans e.n.symm, by rw [hEv, e.evs]; simp; omega, fun t ht hRt => ?_, fun t ht hRt => ?_, fun t ht hRt => ?_, fun a b ha hb hRb => ?_, fun a b ha hb hRb => ?_, fun a b ha hb hRb => ?_, sub_step s e.evs hEv⟩
    · rw [e.n] at ht
      rw [e'.S, e.S, hSq]
      split
      · rfl
      · exact s.S t ht hRt
    · rw [e.n] at ht
      rw [e'.S, if_neg (fun h => by rw [h, hR] at hRt; cases hRt)]; exact s.P t ht hRt
    · rw [e.n] at ht
      rw [e'.S, if_neg (fun h => by rw [h, hR] at hRt; cases hRt)]; exact s.T t ht hRt
    · rw [e.n] at ha hb
      rw [e'.L, e.L, hSq]
      split
      · rename_i hc
        obtain ⟨rfl, rfl⟩ := hc
        rw [hpu, s.L a b hi hj hRb]
      · exact s.L a b ha hb hRb
    · rw [e.n] at ha hb
      by_cases hc : a = i ∧ b = j
      · have e1 : (ρ.send i j p).2.lineAt a b = ρ.lineAt i j ++ [⟨p, tick (σ.S i).clock i⟩] := by rw [e'.L, if_pos hc, hSq]
        have e2 : σ'.lineAt a b = σ.lineAt i j ++ [⟨p, tick (σ.S i).clock i⟩] := by rw [e.L, if_pos hc]
        obtain ⟨rfl, rfl⟩ := hc
        rw [e1, e2, hpu, List.map_append, s.M a b ha hb hRb, hci]
        simp
      · rw [e'.L, e.L, if_neg hc, if_neg hc]; exact s.M a b ha hb hRb
    · rw [e.n] at ha hb; exact s.U a b ha hb hRb
theorem WX.take {i j : Nat} {m : Msg} {rest : List Msg} (h : WX p0 x0 σ x k) (K : KI σ p0) (X : XI σ k x) (hi : i < σ.n) (hj : j < σ.n) (hij : i ≠ j) (hl : σ.lineAt i j = m :: rest) (hm : 0 < m.told) (he : σ.evs.length < 400) (e : TakeEff σ σ' i j m rest)
    (hR : ∀ a, x'.R a = x.R a) (hT : ∀ a, x'.T a = x.T a) (hP : ∀ a, x'.P a = x.P a) (hC : ∀ a b, x'.C a b = x.C a b) (hU : ∀ a b, x'.U a b = if (a = i ∧ b = j) ∧ x.R j = true ∧ x.C i j = false then x.U i j ++ [m.told] else x.U a b) : WX p0 x0 σ' x' k := by
  obtain ⟨ρ, r, s⟩ := h
  have r' : Rp x0 σ.evs x' ρ := r.congr fun i _ => wi_congr hR hT _ i
  cases hRj : x.R j with
  | true =>
    have hTq := T_cnt K X hj hRj
    refine ⟨ρ, by rw [e.evs]; exact r'.beyond rfl (by rw [hR]; exact hRj) (by rw [hT]; exact hTq), s.beyond hj hRj hTq e.n e.evs rfl (fun t ht => by rw [e.S, if_neg ht]) hR hT hP hC (fun a b ha hb hRb => ?_) (fun a b ha hb hRb => ?_) (fun a b _ _ hRb => ?_)⟩
    · rw [e.L, if_neg (fun h => by rw [h.2, hRj] at hRb; cases hRb)]
    · by_cases hc : a = i ∧ b = j
      · have e2 : σ'.lineAt a b = rest := by rw [e.L, if_pos hc]
        rw [hU, e2]
        obtain ⟨rfl, rfl⟩ := hc
        rw [hl, pre_par _ hm]
        cases hcc : x.C a b <;> simp [hRj]
      · rw [hU, e.L, if_neg (fun h => hc h.1), if_neg hc]
    · rw [hU, if_neg (fun h => by rw [h.1.2, hRj] at hRb; cases hRb)]
  | false =>
    have hi' : i < ρ.n := by rw [s.n]; exact hi
    have hj' : j < ρ.n := by rw [s.n]; exact hj
    have hf := s.few
    have hSq := s.S j hj hRj
    have hl' : ρ.lineAt i j = m :: pre k rest := by rw [s.L i j hi hj hRj, hl, pre_par _ hm]
    obtain ⟨h0, e'⟩ := take_done s.ki.ok hi' hj' hij hl' hm (by omega)
    have hEv : (ρ.recv i j).2.evs = ρ.evs ++ [⟨j, 3, i, m.told, joined (σ.S j).clock m.clock j⟩] := by rw [e'.evs, hSq]
    have hU' : ∀ a b, x'.U a b = x.U a b := fun a b => by rw [hU, if_neg (fun h => by rw [hRj] at h; cases h.2.1)]
    refine ⟨(ρ.recv i j).2, by rw [e.evs]; exact r'.within (e := ⟨j, 3, i, m.told, joined (σ.S j).clock m.clock j⟩) rfl (by rw [hR]; exact hRj) h0, s.ki.recv _ _, s.good.recv s.ki.ok _ _, (e'.n.trans s.n).trans e.n.symm, by rw [hEv, e.evs]; simp; omega, fun t ht hRt => ?_, fun t ht hRt => ?_, fun t ht hRt => ?_, fun a b ha hb hRb => ?_, fun a b ha hb hRb => ?_, fun a b ha hb hRb => ?_, fun q hq hw => sub_step s e.evs hEv q hq (by rw [← wi_congr hR hT]; exact hw)⟩
    · rw [e.n] at ht
      rw [hR] at hRt
      rw [e'.S, e.S, hSq]
      split
      · rfl
      · exact s.S t ht hRt
    · rw [e.n] at ht
      rw [hR] at hRt
      rw [e'.S, if_neg (fun h => by rw [h, hRj] at hRt; cases hRt), hP]; exact s.P t ht hRt
    · rw [e.n] at ht
      rw [hR] at hRt
      rw [e'.S, if_neg (fun h => by rw [h, hRj] at hRt; cases hRt), hT]; exact s.T t ht hRt
    · rw [e.n] at ha hb
      rw [hR] at hRb
      rw [e'.L, e.L]
      split
      · rfl
      · exact s.L a b ha hb hRb
    · rw [e.n] at ha hb
      rw [hR] at hRb
      have hc : ¬ (a = i ∧ b = j) := fun h => by rw [h.2, hRj] at hRb; cases hRb
      have e1 : (ρ.recv i j).2.lineAt a b = ρ.lineAt a b := by rw [e'.L, if_neg hc]
      have e2 : σ'.lineAt a b = σ.lineAt a b := by rw [e.L, if_neg hc]
      rw [e1, e2, hU', hC]
      exact s.M a b ha hb hRb
    · rw [e.n] at ha hb
      rw [hR] at hRb
      rw [hU']; exact s.U a b ha hb hRb
end Go.Proofs.Ytnkgfgkgepadhaa

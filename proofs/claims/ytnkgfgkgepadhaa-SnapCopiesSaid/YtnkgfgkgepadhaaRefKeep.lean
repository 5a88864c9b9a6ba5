/-
  The reference's calls beside other memory that is kept: what they leave reads the reference's own memory alone. CkOk is kept by all calls.
-/
import Derived.Test.YtnkgfgkgepadhaaRefNew
import Derived.Test.YtnkgfgkgepadhaaRefSnap
import Derived.Test.YtnkgfgkgepadhaaKeeps4
namespace Go.Proofs.Ytnkgfgkgepadhaa
open Go.RowKit
set_option linter.unusedVariables false
set_option linter.unusedSimpArgs false
variable {Q : MS}

/-! ### Reading by what is known of cells alone -/
def Knows (F F' : MS) : Prop := ∀ b i u, F.at b i u → F'.at b i u
theorem Knows.refl (F : MS) : Knows F F := fun _ _ _ h => h
theorem Knows.hide (X F G : MS) : Knows (X + (F + G.hide)) (X + F) := fun b i u h => by
  obtain ⟨cs, e, fz, h1, h2⟩ := h
  refine ⟨cs, e, fz, ?_, h2⟩
  rcases h1 with h1 | h1 | h1
  · exact .inl h1
  · exact .inr h1
  · exact h1.elim
theorem Knows.part (X F : MS) : Knows F (X + F) := fun _ _ _ h => h.more X
def RT.Mono {α : Type} (T : RT α) : Prop := ∀ F F' a cs, Knows F F' → T.rel F a cs → T.rel F' a cs
theorem RdC.of {F F' : MS} {A : Option Addr} {xs : List Value} (h : RdC F A xs) (k : Knows F F') : RdC F' A xs := fun hne => by
  obtain ⟨b, o, h1, h2⟩ := h hne
  exact ⟨b, o, h1, fun j u hu => k _ _ _ (h2 j u hu)⟩
theorem RdS.of {α : Type} {T : RT α} (hT : T.Mono) {F F' : MS} {l : List α} {v : Value} (h : RdS F T l v) (k : Knows F F') : RdS F' T l v := by
  obtain ⟨A, c, xs, h1, h2, h3, h4, h5⟩ := h
  exact ⟨A, c, xs, h1, h2, h3, h4.of k, h5.mono fun a cs h => hT _ _ _ _ k h⟩
theorem RT.int_mono : RT.int.Mono := fun _ _ _ _ _ h => h
theorem RT.bool_mono : RT.bool.Mono := fun _ _ _ _ _ h => h
theorem RT.Mono.sl {α : Type} {T : RT α} (hT : T.Mono) : (RT.sl T).Mono := fun _ _ _ _ k ⟨v, h, h'⟩ => ⟨v, h, h'.of hT k⟩
theorem RT.rmsg_mono : RT.rmsg.Mono := fun _ _ _ _ k ⟨v, h, h'⟩ => ⟨v, h, h'.of RT.int_mono k⟩
theorem RT.ev_mono : RT.ev.Mono := fun _ _ _ _ k ⟨v, h, h'⟩ => ⟨v, h, h'.of RT.int_mono k⟩
theorem RT.rshot_mono : RT.rshot.Mono := fun _ _ _ _ k ⟨v0, v1, v2, v3, v4, h, a, b, c, d, e⟩ =>
  ⟨v0, v1, v2, v3, v4, h, a.of RT.bool_mono k, b.of RT.int_mono k, c.of RT.int_mono k, d.of RT.bool_mono.sl k, e.of RT.int_mono.sl.sl k⟩
theorem RdRef.of {F F' : MS} {σ : Net} {b : Nat} (h : RdRef F σ b) (k : Knows F F') : RdRef F' σ b := by
  obtain ⟨v0, v1, v2, v3, v4, h⟩ := h
  exact ⟨v0, v1, v2, v3, v4, k _ _ _ h.a0, k _ _ _ h.a1, k _ _ _ h.a2, k _ _ _ h.a3, k _ _ _ h.a4, h.h.of RT.int_mono k, h.c.of RT.int_mono.sl k, h.l.of RT.rmsg_mono.sl.sl k, h.e.of RT.ev_mono k, h.s.of RT.rshot_mono k⟩

/-! ### CkOk is kept -/
theorem ckOk_iff {σ : Net} : CkOk σ ↔ ∀ k, k < σ.n → (σ.S k).events = (σ.S k).clock.getD k 0 :=
  ⟨fun h k hk => h k _ (S_of hk), fun h k s hs => by
    have hk := (List.getElem?_eq_some_iff.1 hs).1
    have := h k hk
    rw [show σ.S k = s from getD_some hs _] at this
    exact this⟩
theorem tick_self (c : List Int) (k : Nat) (h : k < c.length) : (tick c k).getD k 0 = c.getD k 0 + 1 := by
  unfold tick
  rw [getD_set, if_pos ⟨rfl, h⟩]
theorem mergeTo_self (c m : List Int) (j : Nat) : ∀ t, (mergeTo c m j t).getD j 0 = c.getD j 0
  | 0 => rfl
  | t + 1 => by
    unfold mergeTo
    split
    · exact mergeTo_self c m j t
    · rename_i h
      rw [getD_set, if_neg (fun h' => h h'.1)]
      exact mergeTo_self c m j t
theorem CkOk.work {σ : Net} (h : CkOk σ) (hok : NetOk σ) (no p : Int) : CkOk (σ.work no p).2 := by
  rcases work_cases hok no p with ⟨_, e⟩ | ⟨_, k, rfl, hk, _, _, _, e⟩
  · rw [e]; exact h
  · rw [ckOk_iff] at h ⊢
    intro q hq
    rw [e.n] at hq
    rw [e.S]
    by_cases hqk : q = k
    · subst hqk
      rw [if_pos rfl]
      show _ = (tick _ _).getD _ _
      rw [tick_self _ _ (by rw [S_clock hok hq]; exact hq), ← h q hq]
    · rw [if_neg hqk]; exact h q hq
theorem CkOk.send {σ : Net} (h : CkOk σ) (hok : NetOk σ) (x y p : Int) : CkOk (σ.send x y p).2 := by
  rcases send_cases hok x y p with ⟨_, e⟩ | ⟨_, k, j, rfl, rfl, hk, hj, _, _, _, _, _, e⟩
  · rw [e]; exact h
  · rw [ckOk_iff] at h ⊢
    intro q hq
    rw [e.n] at hq
    rw [e.S]
    by_cases hqk : q = k
    · subst hqk
      rw [if_pos rfl]
      show _ = (tick _ _).getD _ _
      rw [tick_self _ _ (by rw [S_clock hok hq]; exact hq), ← h q hq]
    · rw [if_neg hqk]; exact h q hq
theorem CkOk.recv {σ : Net} (h : CkOk σ) (hok : NetOk σ) (x y : Int) : CkOk (σ.recv x y).2 := by
  rcases recv_cases hok x y with ⟨_, e, _⟩ | ⟨_, i, j, rfl, rfl, hi, hj, hij, m, rest, hl, ⟨_, _, _, _, e⟩ | ⟨k, _, _, e⟩⟩
  · rw [e]; exact h
  · rw [ckOk_iff] at h ⊢
    intro q hq
    rw [e.n] at hq
    rw [e.S]
    by_cases hqk : q = j
    · subst hqk
      rw [if_pos rfl]
      show _ = (joined _ _ _).getD _ _
      unfold joined
      rw [tick_self _ _ (by rw [mergeTo_length, S_clock hok hq]; exact hq), mergeTo_self, ← h q hq]
    · rw [if_neg hqk]; exact h q hq
  · intro q s hs
    rw [e.sta] at hs
    exact h q s hs
theorem CkOk.start {σ : Net} (h : CkOk σ) (hok : NetOk σ) (x : Int) : CkOk (σ.start x).2.2 := by
  rcases start_cases hok x with ⟨_, _, e⟩ | ⟨_, _, k, rfl, _, _, e⟩
  · rw [e]; exact h
  · intro q s hs
    rw [e.sta] at hs
    exact h q s hs
theorem CkOk.act {σ : Net} (h : CkOk σ) (hok : NetOk σ) (x : ActD) : CkOk (σ.act x) := by
  unfold Net.act
  split
  · exact h.work hok _ _
  · split
    · exact h.send hok _ _ _
    · split
      · exact h.start hok _
      · exact h.recv hok _ _
theorem CkOk.new (l : List Int) : CkOk (Net.new l) := fun k s hs => by
  simp only [Net.new, List.getElem?_map, Option.map_eq_some_iff] at hs
  obtain ⟨a, ha, rfl⟩ := hs
  show (0 : Int) = (List.replicate l.length (0 : Int)).getD k 0
  have h := (List.getElem?_eq_some_iff.1 ha).1
  simp [List.getD, List.getElem?_replicate, h]
/-- In order, as both sides need it. -/
structure Both (σ : Net) : Prop where
  ok : NetOk σ
  ck : CkOk σ
  ev : EvsOk σ
theorem Both.act {σ : Net} (h : Both σ) (x : ActD) : Both (σ.act x) := ⟨h.ok.act x, h.ck.act h.ok x, h.ev.act h.ok x⟩
theorem Both.new {l : List Int} (h : newOk l) : Both (Net.new l) := ⟨NetOk.new h, CkOk.new l, EvsOk.new l⟩
theorem Both.acts : ∀ (l : List ActD) {σ : Net}, Both σ → Both (σ.acts l)
  | [], _, h => h
  | a :: l, σ, h => Both.acts l (h.act a)

/-! ### Calls of the reference beside a net -/
/-- What a call of the reference leaves beside a net. -/
def RNPost (Q F G : MS) (σ : Net) (b : Nat) (w : World) (vs : Nat → Value) (τ' : Net) (e : Ending) (w' : World) : Prop :=
  ∃ b' X, e = .returned (vs b') ∧ RdRef (X + F) τ' b' ∧ NetAt Q (X + (F + G)) σ b w' ∧ Ext w w'
theorem rn_frame {F G : MS} {σ τ τ' : Net} {b b2 : Nat} {w : World} {f : FuncId} {args : Array Value} {vs : Nat → Value} (hN : NetAt Q (F + G) σ b w) (hr : RdRef F τ b2)
    (h : ∀ F', RdRef F' τ b2 → Has w F' → Calls Try.prog f args w fun e w' => ∃ b' X, e = .returned (vs b') ∧ RdRef (X + F') τ' b' ∧ Has w' (X + F') ∧ Ext w w') :
    Calls Try.prog f args w (RNPost Q F G σ b w vs τ') := by
  obtain ⟨hok, Pl, ps, m, h1, h2⟩ := hN
  refine (h (F + (m + ((Pl + Q) + G)).hide) (hr.less _) (h2.eq (b := F + (m + ((Pl + Q) + G))) (by ac_rfl)).hide).mono ?_
  rintro e w' ⟨b', X, rfl, k1, k2, k3⟩
  refine ⟨b', X, rfl, k1.of (Knows.hide X F _), ⟨hok, Pl, ps, m, h1, ?_⟩, k3⟩
  exact (Has.unhide (a := X + F) (k2.eq (MS.add_assoc _ _ _).symm)).eq (by ac_rfl)
theorem rwork_net {F G : MS} {σ τ : Net} {b b2 : Nat} {w : World} (hN : NetAt Q (F + G) σ b w) (hr : RdRef F τ b2) (hok : NetOk τ) (no p : Int) :
    Calls Try.prog 67 #[.pointer (some ⟨b2, 0, none⟩), .int .i64 no, .int .i64 p] w (RNPost Q F G σ b w (fun b' => .tuple #[.pointer (some ⟨b', 0, none⟩), .int .i64 (τ.work no p).1]) (τ.work no p).2) :=
  rn_frame hN hr fun F' h1 h2 => rwork_any hok h1 h2 no p
theorem rsend_net {F G : MS} {σ τ : Net} {b b2 : Nat} {w : World} (hN : NetAt Q (F + G) σ b w) (hr : RdRef F τ b2) (hok : NetOk τ) (x y p : Int) :
    Calls Try.prog 68 #[.pointer (some ⟨b2, 0, none⟩), .int .i64 x, .int .i64 y, .int .i64 p] w (RNPost Q F G σ b w (fun b' => .tuple #[.pointer (some ⟨b', 0, none⟩), .int .i64 (τ.send x y p).1]) (τ.send x y p).2) :=
  rn_frame hN hr fun F' h1 h2 => rsend_any hok h1 h2 x y p
theorem rrecv_net {F G : MS} {σ τ : Net} {b b2 : Nat} {w : World} (hN : NetAt Q (F + G) σ b w) (hr : RdRef F τ b2) (hok : NetOk τ) (hck : CkOk τ) (x y : Int) :
    Calls Try.prog 70 #[.pointer (some ⟨b2, 0, none⟩), .int .i64 x, .int .i64 y] w (RNPost Q F G σ b w (fun b' => .tuple #[.pointer (some ⟨b', 0, none⟩), .int .i64 (τ.recv x y).1]) (τ.recv x y).2) :=
  rn_frame hN hr fun F' h1 h2 => rrecv_any hok hck h1 h2 x y
theorem rstart_any {F : MS} {σ : Net} {b : Nat} {w : World} (hok : NetOk σ) (hck : CkOk σ) (hr : RdRef F σ b) (hH : Has w F) (x : Int) :
    Calls Try.prog 69 #[.pointer (some ⟨b, 0, none⟩), .int .i64 x] w (RPost3 F w (σ.start x).1 (σ.start x).2.1 (σ.start x).2.2) := by
  by_cases h : 0 ≤ x ∧ x < σ.sta.length
  · by_cases h8 : 8 ≤ σ.shots.length
    · have e : σ.start x = (0, 8, σ) := by unfold Net.start; rw [if_neg (fun h' => h' h), if_pos h8]
      rw [e]; exact rstart_full hr hH x h h8
    · obtain ⟨k, rfl⟩ := Int.eq_ofNat_of_zero_le h.1
      have e : σ.start k = ((σ.shots.length : Int) + 1, 0, σ.addShot.record k σ.shots.length) := by unfold Net.start; rw [if_neg (fun h' => h' h), if_neg h8]; rfl
      rw [e]; exact rstart_yes hok hck hr hH k (by omega) (by omega)
  · have e : σ.start x = (0, 2, σ) := by unfold Net.start; rw [if_pos h]
    rw [e]; exact rstart_no hr hH x h
theorem rstart_net {F G : MS} {σ τ : Net} {b b2 : Nat} {w : World} (hN : NetAt Q (F + G) σ b w) (hr : RdRef F τ b2) (hok : NetOk τ) (hck : CkOk τ) (x : Int) :
    Calls Try.prog 69 #[.pointer (some ⟨b2, 0, none⟩), .int .i64 x] w (RNPost Q F G σ b w (fun b' => .tuple #[.pointer (some ⟨b', 0, none⟩), .int .i64 (τ.start x).1, .int .i64 (τ.start x).2.1]) (τ.start x).2.2) :=
  rn_frame hN hr fun F' h1 h2 => rstart_any hok hck h1 h2 x
end Go.Proofs.Ytnkgfgkgepadhaa

/-
  The reference's net in memory: owned, and as it is read; it stands for the same plain net.
-/
import Derived.Test.YtnkgfgkgepadhaaKeeps4
namespace Go.Proofs.Ytnkgfgkgepadhaa
open Go.RowKit
set_option linter.unusedVariables false
set_option linter.unusedSimpArgs false

/-! ### Reading -/
def RT.rmsg : RT Msg := ⟨2, fun F x cs => ∃ vc, cs = [.int .i64 x.told, vc] ∧ RdS F RT.int x.clock vc, fun _ _ _ ⟨_, h, _⟩ => by rw [h]; rfl, fun F x cs X ⟨vc, h, h'⟩ => ⟨vc, h, h'.more X⟩⟩
def RT.rshot : RT Shot := ⟨5, fun F x cs => ∃ v0 v1 v2 v3 v4, cs = [v0, v1, v2, v3, v4] ∧ RdS F RT.bool x.recorded v0 ∧ RdS F RT.int x.pieces v1 ∧ RdS F RT.int x.cut v2 ∧ RdS F (RT.sl RT.bool) x.closed v3 ∧ RdS F (RT.sl (RT.sl RT.int)) x.under v4,
  fun _ _ _ ⟨_, _, _, _, _, h, _⟩ => by rw [h]; rfl, fun F x cs X ⟨v0, v1, v2, v3, v4, h, a, b, c, d, e⟩ => ⟨v0, v1, v2, v3, v4, h, a.more X, b.more X, c.more X, d.more X, e.more X⟩⟩
theorem RT.rmsg_sz : RT.rmsg.sz = 2 := rfl
theorem RT.rshot_sz : RT.rshot.sz = 5 := rfl
def Net.helds (σ : Net) : List Int := σ.sta.map Sta.pieces
def Net.clocks (σ : Net) : List (List Int) := σ.sta.map Sta.clock
structure RdRefV (F : MS) (σ : Net) (b : Nat) (v0 v1 v2 v3 v4 : Value) : Prop where
  a0 : F.at b 0 v0
  a1 : F.at b 1 v1
  a2 : F.at b 2 v2
  a3 : F.at b 3 v3
  a4 : F.at b 4 v4
  h : RdS F RT.int σ.helds v0
  c : RdS F (RT.sl RT.int) σ.clocks v1
  l : RdS F (RT.sl (RT.sl RT.rmsg)) σ.chan v2
  e : RdS F RT.ev σ.evs v3
  s : RdS F RT.rshot σ.shots v4
def RdRef (F : MS) (σ : Net) (b : Nat) : Prop := ∃ v0 v1 v2 v3 v4, RdRefV F σ b v0 v1 v2 v3 v4
theorem RdRef.more {F : MS} {σ : Net} {b : Nat} (h : RdRef F σ b) (X : MS) : RdRef (X + F) σ b := by
  obtain ⟨v0, v1, v2, v3, v4, h⟩ := h
  exact ⟨v0, v1, v2, v3, v4, h.a0.more X, h.a1.more X, h.a2.more X, h.a3.more X, h.a4.more X, h.h.more X, h.c.more X, h.l.more X, h.e.more X, h.s.more X⟩
theorem RdRef.less {F : MS} {σ : Net} {b : Nat} (h : RdRef F σ b) (X : MS) : RdRef (F + X) σ b := by rw [MS.add_comm]; exact h.more X
theorem RdS.getRmsg {F : MS} {l : List Msg} {A : Option Addr} {n c : Nat} (h : RdS F RT.rmsg l (.slice A n c)) {i : Nat} {x : Msg} (hs : l[i]? = some x) :
    ∃ b o A' c', A = some ⟨b, o, none⟩ ∧ F.at b (o + i * 2) (.int .i64 x.told) ∧ F.at b (o + i * 2 + 1) (.slice A' x.clock.length c') ∧ RdS F RT.int x.clock (.slice A' x.clock.length c') := by
  obtain ⟨b, o, cs, h1, ⟨vc, rfl, h2⟩, h3⟩ := h.get hs (show 0 < 2 by omega)
  obtain ⟨A', c', rfl, _⟩ := h2.form
  exact ⟨b, o, A', c', h1, h3 0 _ rfl, h3 1 _ rfl, h2⟩
theorem RdS.getRshot {F : MS} {l : List Shot} {A : Option Addr} {n c : Nat} (h : RdS F RT.rshot l (.slice A n c)) {i : Nat} {x : Shot} (hs : l[i]? = some x) :
    ∃ b o A0 c0 A1 c1 A2 c2 A3 c3 A4 c4, A = some ⟨b, o, none⟩ ∧ (F.at b (o + i * 5) (.slice A0 x.recorded.length c0) ∧ F.at b (o + i * 5 + 1) (.slice A1 x.pieces.length c1) ∧ F.at b (o + i * 5 + 2) (.slice A2 x.cut.length c2) ∧ F.at b (o + i * 5 + 3) (.slice A3 x.closed.length c3) ∧ F.at b (o + i * 5 + 4) (.slice A4 x.under.length c4)) ∧
      RdS F RT.bool x.recorded (.slice A0 x.recorded.length c0) ∧ RdS F RT.int x.pieces (.slice A1 x.pieces.length c1) ∧ RdS F RT.int x.cut (.slice A2 x.cut.length c2) ∧ RdS F (RT.sl RT.bool) x.closed (.slice A3 x.closed.length c3) ∧ RdS F (RT.sl (RT.sl RT.int)) x.under (.slice A4 x.under.length c4) := by
  obtain ⟨b, o, cs, h1, ⟨v0, v1, v2, v3, v4, rfl, k0, k1, k2, k3, k4⟩, h3⟩ := h.get hs (show 0 < 5 by omega)
  obtain ⟨A0, c0, rfl, _⟩ := k0.form
  obtain ⟨A1, c1, rfl, _⟩ := k1.form
  obtain ⟨A2, c2, rfl, _⟩ := k2.form
  obtain ⟨A3, c3, rfl, _⟩ := k3.form
  obtain ⟨A4, c4, rfl, _⟩ := k4.form
  exact ⟨b, o, A0, c0, A1, c1, A2, c2, A3, c3, A4, c4, h1, ⟨h3 0 _ rfl, h3 1 _ rfl, h3 2 _ rfl, h3 3 _ rfl, h3 4 _ rfl⟩, k0, k1, k2, k3, k4⟩

/-! ### Owned -/
/-- Read in the pool: owns nothing. -/
def Pooled {α : Type} (T : RT α) (Pl : MS) (x : α) (cs : List Value) (m : MS) : Prop := T.rel Pl x cs ∧ m = 0 ∧ ∀ u ∈ cs, u.oneCell' = true
theorem Pooled.len {α : Type} {T : RT α} {Pl : MS} : ∀ a cs m, Pooled T Pl a cs m → cs.length = T.sz := fun a cs m h => T.len _ _ _ h.1
theorem Pooled.one {α : Type} {T : RT α} {Pl : MS} : ∀ a cs m, Pooled T Pl a cs m → ∀ u ∈ cs, u.oneCell' = true := fun a cs m h => h.2.2
theorem Pooled.more {α : Type} {T : RT α} {Pl : MS} (X : MS) : ∀ a cs m, Pooled T Pl a cs m → Pooled T (X + Pl) a cs m := fun a cs m h => ⟨T.more _ _ _ X h.1, h.2⟩
theorem Pooled.rd {α : Type} {T : RT α} {Pl : MS} : ∀ a cs m, Pooled T Pl a cs m → T.rel (m + Pl) a cs := fun a cs m h => T.more _ _ _ m h.1
theorem rmsg_one {F : MS} {x : Msg} {cs : List Value} (h : RT.rmsg.rel F x cs) : ∀ u ∈ cs, u.oneCell' = true := by
  obtain ⟨vc, rfl, h⟩ := h
  obtain ⟨A, c, rfl, _⟩ := h.form
  intro u hu
  simp at hu
  rcases hu with rfl | rfl <;> rfl
theorem ev_one {F : MS} {x : Ev} {cs : List Value} (h : RT.ev.rel F x cs) : ∀ u ∈ cs, u.oneCell' = true := by
  obtain ⟨vc, rfl, h⟩ := h
  obtain ⟨A, c, rfl, _⟩ := h.form
  intro u hu
  simp at hu
  rcases hu with rfl | rfl | rfl | rfl | rfl <;> rfl
theorem pooled_msg {Pl : MS} {x : Msg} {cs : List Value} (h : RT.rmsg.rel Pl x cs) : Pooled RT.rmsg Pl x cs 0 := ⟨h, rfl, rmsg_one h⟩
theorem pooled_ev {Pl : MS} {x : Ev} {cs : List Value} (h : RT.ev.rel Pl x cs) : Pooled RT.ev Pl x cs 0 := ⟨h, rfl, ev_one h⟩
def RLine (Pl : MS) : List Msg → Value → MS → Prop := SlR 127 2 (Pooled RT.rmsg Pl)
def RLines (Pl : MS) : List (List Msg) → Value → MS → Prop := SlR 125 1 (El (RLine Pl))
def RChans (Pl : MS) : List (List (List Msg)) → Value → MS → Prop := SlR 119 1 (El (RLines Pl))
def REvs (Pl : MS) : List Ev → Value → MS → Prop := SlR 68 5 (Pooled RT.ev Pl)
def RShot (x : Shot) (cs : List Value) (m : MS) : Prop := ∃ v0 v1 v2 v3 v4 m0 m1 m2 m3 m4, cs = [v0, v1, v2, v3, v4] ∧ m = m0 + (m1 + (m2 + (m3 + m4))) ∧ Bools x.recorded v0 m0 ∧ Ints x.pieces v1 m1 ∧ Ints x.cut v2 m2 ∧ Bools2 x.closed v3 m3 ∧ Ints3 x.under v4 m4
theorem RShot.len : ∀ a cs m, RShot a cs m → cs.length = 5 := fun a cs m ⟨_, _, _, _, _, _, _, _, _, _, h, _⟩ => by rw [h]; rfl
theorem RShot.one : ∀ a cs m, RShot a cs m → ∀ u ∈ cs, u.oneCell' = true := fun a cs m ⟨v0, v1, v2, v3, v4, _, _, _, _, _, h, _, h0, h1, h2, h3, h4⟩ u hu => by
  subst h
  simp at hu
  rcases hu with rfl | rfl | rfl | rfl | rfl
  · exact SlR.one h0
  · exact SlR.one h1
  · exact SlR.one h2
  · exact SlR.one h3
  · exact SlR.one h4
theorem RLine.pool {Pl : MS} (X : MS) : ∀ l v m, RLine Pl l v m → RLine (X + Pl) l v m := fun _ _ _ h => SlR.mono (Pooled.more X) h
theorem RLines.pool {Pl : MS} (X : MS) : ∀ l v m, RLines Pl l v m → RLines (X + Pl) l v m := fun _ _ _ h => SlR.mono (El.mono (RLine.pool X)) h
theorem RChans.pool {Pl : MS} (X : MS) : ∀ l v m, RChans Pl l v m → RChans (X + Pl) l v m := fun _ _ _ h => SlR.mono (El.mono (RLines.pool X)) h
theorem REvs.pool {Pl : MS} (X : MS) : ∀ l v m, REvs Pl l v m → REvs (X + Pl) l v m := fun _ _ _ h => SlR.mono (Pooled.more X) h
theorem RLine.rd {Pl : MS} {l : List Msg} {v : Value} {m : MS} (h : RLine Pl l v m) : RdS (m + Pl) RT.rmsg l v := SlR.rdPool Pooled.rd h
theorem RLines.rd {Pl : MS} {l : List (List Msg)} {v : Value} {m : MS} (h : RLines Pl l v m) : RdS (m + Pl) (RT.sl RT.rmsg) l v :=
  SlR.rdPool (T := RT.sl RT.rmsg) (fun a cs m ⟨v, h1, h2, _⟩ => ⟨v, h1, RLine.rd h2⟩) h
theorem RChans.rd {Pl : MS} {l : List (List (List Msg))} {v : Value} {m : MS} (h : RChans Pl l v m) : RdS (m + Pl) (RT.sl (RT.sl RT.rmsg)) l v :=
  SlR.rdPool (T := RT.sl (RT.sl RT.rmsg)) (fun a cs m ⟨v, h1, h2, _⟩ => ⟨v, h1, RLines.rd h2⟩) h
theorem REvs.rd {Pl : MS} {l : List Ev} {v : Value} {m : MS} (h : REvs Pl l v m) : RdS (m + Pl) RT.ev l v := SlR.rdPool Pooled.rd h
theorem RShot.rd (x : Shot) (cs : List Value) (m : MS) (h : RShot x cs m) : RT.rshot.rel m x cs := by
  obtain ⟨v0, v1, v2, v3, v4, m0, m1, m2, m3, m4, rfl, rfl, h0, h1, h2, h3, h4⟩ := h
  refine ⟨v0, v1, v2, v3, v4, rfl, ?_, ?_, ?_, ?_, ?_⟩
  · rw [MS.add_comm]; exact h0.rdS.more _
  · rw [show m0 + (m1 + (m2 + (m3 + m4))) = (m0 + (m2 + (m3 + m4))) + m1 by ac_rfl]; exact h1.rdS.more _
  · rw [show m0 + (m1 + (m2 + (m3 + m4))) = (m0 + (m1 + (m3 + m4))) + m2 by ac_rfl]; exact h2.rdS.more _
  · rw [show m0 + (m1 + (m2 + (m3 + m4))) = (m0 + (m1 + (m2 + m4))) + m3 by ac_rfl]; exact h3.rdS.more _
  · rw [show m0 + (m1 + (m2 + (m3 + m4))) = (m0 + (m1 + (m2 + m3))) + m4 by ac_rfl]; exact h4.rdS.more _

/-- The reference's net at block b. -/
def IsRef (Pl : MS) (σ : Net) (b : Nat) (m : MS) : Prop := ∃ v0 v1 v2 v3 v4 m0 m1 m2 m3 m4, m = blk b #[v0, v1, v2, v3, v4] 118 + (m0 + (m1 + (m2 + (m3 + m4)))) ∧
  Ints σ.helds v0 m0 ∧ Ints2 σ.clocks v1 m1 ∧ RChans Pl σ.chan v2 m2 ∧ REvs Pl σ.evs v3 m3 ∧ SlR 150 5 RShot σ.shots v4 m4
theorem IsRef.pool {Pl : MS} {σ : Net} {b : Nat} {m : MS} (X : MS) (h : IsRef Pl σ b m) : IsRef (X + Pl) σ b m := by
  obtain ⟨v0, v1, v2, v3, v4, m0, m1, m2, m3, m4, hm, h0, h1, h2, h3, h4⟩ := h
  exact ⟨v0, v1, v2, v3, v4, m0, m1, m2, m3, m4, hm, h0, h1, RChans.pool X _ _ _ h2, REvs.pool X _ _ _ h3, h4⟩
theorem IsRef.rd {Pl : MS} {σ : Net} {b : Nat} {m : MS} (h : IsRef Pl σ b m) : RdRef (m + Pl) σ b := by
  obtain ⟨v0, v1, v2, v3, v4, m0, m1, m2, m3, m4, rfl, h0, h1, h2, h3, h4⟩ := h
  refine ⟨v0, v1, v2, v3, v4, ?_, ?_, ?_, ?_, ?_, ?_, ?_, ?_, ?_, ?_⟩
  · rw [MS.add_assoc]; exact blk_at' rfl _
  · rw [MS.add_assoc]; exact blk_at' rfl _
  · rw [MS.add_assoc]; exact blk_at' rfl _
  · rw [MS.add_assoc]; exact blk_at' rfl _
  · rw [MS.add_assoc]; exact blk_at' rfl _
  · rw [show blk b #[v0, v1, v2, v3, v4] 118 + (m0 + (m1 + (m2 + (m3 + m4)))) + Pl = (blk b #[v0, v1, v2, v3, v4] 118 + (m1 + (m2 + (m3 + m4))) + Pl) + m0 by ac_rfl]; exact h0.rdS.more _
  · rw [show blk b #[v0, v1, v2, v3, v4] 118 + (m0 + (m1 + (m2 + (m3 + m4)))) + Pl = (blk b #[v0, v1, v2, v3, v4] 118 + (m0 + (m2 + (m3 + m4))) + Pl) + m1 by ac_rfl]; exact h1.rdS.more _
  · rw [show blk b #[v0, v1, v2, v3, v4] 118 + (m0 + (m1 + (m2 + (m3 + m4)))) + Pl = (blk b #[v0, v1, v2, v3, v4] 118 + (m0 + (m1 + (m3 + m4)))) + (m2 + Pl) by ac_rfl]; exact (RChans.rd h2).more _
  · rw [show blk b #[v0, v1, v2, v3, v4] 118 + (m0 + (m1 + (m2 + (m3 + m4)))) + Pl = (blk b #[v0, v1, v2, v3, v4] 118 + (m0 + (m1 + (m2 + m4)))) + (m3 + Pl) by ac_rfl]; exact (REvs.rd h3).more _
  · rw [show blk b #[v0, v1, v2, v3, v4] 118 + (m0 + (m1 + (m2 + (m3 + m4)))) + Pl = (blk b #[v0, v1, v2, v3, v4] 118 + (m0 + (m1 + (m2 + m3))) + Pl) + m4 by ac_rfl]; exact (SlR.rd (T := RT.rshot) RShot.rd h4).more _

/-! ### The table's rows -/
theorem info119 : (Try.prog.info? 119).map (fun i => (i.zero, i.size, i.bytes)) = some (some (.slice none 0 0), 1, 24) := by kernel_rfl
theorem info125 : (Try.prog.info? 125).map (fun i => (i.zero, i.size, i.bytes)) = some (some (.slice none 0 0), 1, 24) := by kernel_rfl
theorem info127 : (Try.prog.info? 127).map (fun i => (i.zero, i.size, i.bytes)) = some (some (.agg #[.int .i64 0, .slice none 0 0]), 2, 32) := by kernel_rfl
theorem info150 : (Try.prog.info? 150).map (fun i => (i.zero, i.size, i.bytes)) = some (some (.agg #[.slice none 0 0, .slice none 0 0, .slice none 0 0, .slice none 0 0, .slice none 0 0]), 5, 120) := by kernel_rfl
theorem row115 : RowTy Try.prog 115 119 (.slice none 0 0) 1 24 := ⟨Try.underlying115, info119, rfl⟩
theorem row119 : RowTy Try.prog 119 125 (.slice none 0 0) 1 24 := ⟨Try.underlying119, info125, rfl⟩
theorem row125 : RowTy Try.prog 125 127 (.agg #[.int .i64 0, .slice none 0 0]) 2 32 := ⟨Try.underlying125, info127, rfl⟩
theorem row116 : RowTy Try.prog 116 150 (.agg #[.slice none 0 0, .slice none 0 0, .slice none 0 0, .slice none 0 0, .slice none 0 0]) 5 120 := ⟨Try.underlying116, info150, rfl⟩
theorem row64 : RowTy Try.prog 64 69 (.slice none 0 0) 1 24 := ⟨Try.underlying64, info69, rfl⟩
theorem row69 : RowTy Try.prog 69 4 (.bool false) 1 1 := ⟨Try.underlying69, info4, rfl⟩
theorem size150 : (Try.prog.info? 150).map (·.size) = some 5 := by kernel_rfl
theorem size115 : (Try.prog.info? 115).map (·.size) = some 1 := by kernel_rfl
theorem size116 : (Try.prog.info? 116).map (·.size) = some 1 := by kernel_rfl
theorem size125 : (Try.prog.info? 125).map (·.size) = some 1 := by kernel_rfl
theorem size44 : (Try.prog.info? 44).map (·.size) = some 1 := by kernel_rfl

/-! ### ints, bools, station, ends -/
theorem rints_any {A : Option Addr} {n c : Nat} {l : List Int} {w : World} {F : MS} (hr : RdS F RT.int l (.slice A n c)) (hH : Has w F) (hl : l.length ≤ 1000000) :
    Calls Try.prog 90 #[.slice A n c] w fun e w' => ∃ A' c' m, e = .returned (.slice A' l.length c') ∧ Ints l (.slice A' l.length c') m ∧ Has w' (m + F) ∧ Ext w w' := by
  obtain ⟨rfl, _, _, xs, h4, h5, h6⟩ := hr.cells
  obtain rfl := rowsQ_ints_eq h5
  have hnews := h4.news (X := 0) (w := w) (by rw [MS.zero_add]; exact hH)
  have Hr := hid hnews
  have hnone : A = none → l.length = 0 := fun hA => by
    cases l with
    | nil => rfl
    | cons x l => obtain ⟨b, o, h7, _⟩ := h4 (by simp); rw [hA] at h7; cases h7
  have Hn := hid hnone
  clear hr h4 h5 h6 hnews hnone
  go_enter Try.func90, Try.ntmps90
  go_wp2_with (at_builtin; refine wpList_append_sl rfl (.tmp 4) (.tmp 5) 22 rfl 3 _ 1 8 Try.underlying22 info3 rfl _ rfl A l.length c rfl 0 [] 0 F (Sl.nil 3 1) (by rw [MS.zero_add]; exact hH) (l.map (Value.int .i64)) (by simp) Hn.out Hr.out (ints_one l) (by simp only [maxLen]; omega) (by omega) ?_; intro v' w' m' h1 h2 h3)
  go_ret
  obtain ⟨A', c', rfl, _⟩ := h1.form
  simp only [Nat.zero_add] at h1 ⊢
  exact ⟨_, _, m', rfl, Ints.of (by simpa using h1), h2, h3⟩
theorem bools_one (l : List Bool) : ∀ u ∈ l.map Value.bool, u.oneCell' = true := fun u hu => by
  obtain ⟨q, _, rfl⟩ := List.mem_map.1 hu; rfl
theorem rbools_any {A : Option Addr} {n c : Nat} {l : List Bool} {w : World} {F : MS} (hr : RdS F RT.bool l (.slice A n c)) (hH : Has w F) (hl : l.length ≤ 1000000) :
    Calls Try.prog 95 #[.slice A n c] w fun e w' => ∃ A' c' m, e = .returned (.slice A' l.length c') ∧ Bools l (.slice A' l.length c') m ∧ Has w' (m + F) ∧ Ext w w' := by
  obtain ⟨rfl, _, _, xs, h4, h5, h6⟩ := hr.cells
  obtain rfl := rowsQ_bools_eq h5
  have hnews := h4.news (X := 0) (w := w) (by rw [MS.zero_add]; exact hH)
  have Hr := hid hnews
  have hnone : A = none → l.length = 0 := fun hA => by
    cases l with
    | nil => rfl
    | cons x l => obtain ⟨b, o, h7, _⟩ := h4 (by simp); rw [hA] at h7; cases h7
  have Hn := hid hnone
  clear hr h4 h5 h6 hnews hnone
  go_enter Try.func95, Try.ntmps95
  go_wp2_with (at_builtin; refine wpList_append_sl rfl (.tmp 4) (.tmp 5) 69 rfl 4 _ 1 1 Try.underlying69 info4 rfl _ rfl A l.length c rfl 0 [] 0 F (Sl.nil 4 1) (by rw [MS.zero_add]; exact hH) (l.map Value.bool) (by simp) Hn.out Hr.out (bools_one l) (by simp only [maxLen]; omega) (by omega) ?_; intro v' w' m' h1 h2 h3)
  go_ret
  obtain ⟨A', c', rfl, _⟩ := h1.form
  simp only [Nat.zero_add] at h1 ⊢
  exact ⟨_, _, m', rfl, Bools.of (by simpa using h1), h2, h3⟩
def staB (n : Nat) (x : Int) : Bool := decide (0 ≤ x ∧ x < n)
theorem station_any {b : Nat} {A : Option Addr} {n c : Nat} {w : World} (h : w.cell? ⟨b, 0, none⟩ = some (.slice A n c)) (x : Int) :
    Calls Try.prog 87 #[.pointer (some ⟨b, 0, none⟩), .int .i64 x] w fun e w' => e = .returned (.bool (staB n x)) ∧ w = w' := by
  by_cases h1 : 0 ≤ x
  · have e : staB n x = decide (x < n) := by simp [staB, h1]
    rw [e]
    go_enter Try.func87, Try.ntmps87
    go_wp2
    go_ret
    exact ⟨rfl, rfl⟩
  · have e : staB n x = false := by simp [staB]; omega
    rw [e]
    go_enter Try.func87, Try.ntmps87
    go_wp2
    go_ret
    exact ⟨rfl, rfl⟩
theorem ends_ref {b : Nat} {A : Option Addr} {n c : Nat} {w : World} (h : w.cell? ⟨b, 0, none⟩ = some (.slice A n c)) (x y : Int) :
    Calls Try.prog 73 #[.pointer (some ⟨b, 0, none⟩), .int .i64 x, .int .i64 y] w fun e w' => e = .returned (.int .i64 (pairErr n x y)) ∧ w = w' := by
  cases h1 : staB n x with
  | false =>
    have e : pairErr n x y = 2 := by unfold staB at h1; unfold pairErr; rw [if_neg]; intro h'; rw [decide_eq_true h'.1] at h1; cases h1
    rw [e]
    go_enter Try.func73, Try.ntmps73
    go_wp2_with (go_at_call 87; refine (station_any h _).mono ?_; rintro e w' ⟨rfl, rfl⟩; rw [h1])
    go_ret
    exact ⟨rfl, rfl⟩
  | true =>
    cases h2 : staB n y with
    | false =>
      have e : pairErr n x y = 2 := by unfold staB at h2; unfold pairErr; rw [if_neg]; intro h'; rw [decide_eq_true h'.2.1] at h2; cases h2
      rw [e]
      go_enter Try.func73, Try.ntmps73
      go_wp2_with (go_at_call 87; refine (station_any h _).mono ?_; rintro e w' ⟨rfl, rfl⟩; first | rw [h1] | rw [h2])
      go_ret
      exact ⟨rfl, rfl⟩
    | true =>
      have g1 : 0 ≤ x ∧ x < n := by simpa [staB] using h1
      have g2 : 0 ≤ y ∧ y < n := by simpa [staB] using h2
      by_cases h3 : x = y
      · have e : pairErr n x y = 2 := by unfold pairErr; rw [if_neg]; intro h'; exact h'.2.2 h3
        have h3' : (x == y) = true := by simp [h3]
        rw [e]
        clear g1 g2 h3
        go_enter Try.func73, Try.ntmps73
        go_wp2_with (go_at_call 87; refine (station_any h _).mono ?_; rintro e w' ⟨rfl, rfl⟩; first | rw [h1] | rw [h2])
        go_ret
        exact ⟨rfl, rfl⟩
      · have e : pairErr n x y = 0 := by unfold pairErr; rw [if_pos ⟨g1, g2, h3⟩]
        have h3' : (x == y) = false := by simp [h3]
        rw [e]
        clear g1 g2 h3
        go_enter Try.func73, Try.ntmps73
        go_wp2_with (go_at_call 87; refine (station_any h _).mono ?_; rintro e w' ⟨rfl, rfl⟩; first | rw [h1] | rw [h2])
        go_ret
        exact ⟨rfl, rfl⟩
end Go.Proofs.Ytnkgfgkgepadhaa

/-
  A net as it is read.
-/
import Derived.Test.YtnkgfgkgepadhaaPush
namespace Go.Proofs.Ytnkgfgkgepadhaa
open Go.RowKit
set_option linter.unusedVariables false

def RT.sta : RT Sta := ⟨3, fun F s cs => ∃ vc, cs = [.int .i64 s.pieces, .int .i64 s.events, vc] ∧ RdS F RT.int s.clock vc, fun _ _ _ ⟨_, h, _⟩ => by rw [h]; rfl, fun F s cs X ⟨vc, h, h'⟩ => ⟨vc, h, h'.more X⟩⟩
def RT.ev : RT Ev := ⟨5, fun F x cs => ∃ vc, cs = [.int .i64 x.station, .int .i64 x.what, .int .i64 x.other, .int .i64 x.pieces, vc] ∧ RdS F RT.int x.clock vc, fun _ _ _ ⟨_, h, _⟩ => by rw [h]; rfl, fun F s cs X ⟨vc, h, h'⟩ => ⟨vc, h, h'.more X⟩⟩
def RT.msg : RT Msg := ⟨1, fun F x cs => (0 < x.told ∧ ∃ vc, cs = [.iface 96 (.agg #[.int .i64 x.told, vc])] ∧ RdS F RT.int x.clock vc) ∨ (x.told < 0 ∧ cs = [.iface 99 (.int .i64 (-x.told))] ∧ x.clock = []),
  fun _ _ _ h => by rcases h with ⟨_, _, h, _⟩ | ⟨_, h, _⟩ <;> rw [h] <;> rfl, fun F s cs X h => by
    rcases h with ⟨h0, vc, h, h'⟩ | h
    · exact .inl ⟨h0, vc, h, h'.more X⟩
    · exact .inr h⟩
/-- A snapshot behind its address. -/
def RdShot (F : MS) (x : Shot) (p : Nat) : Prop := ∃ v0 v1 v2 v3 v4, F.at p 0 v0 ∧ F.at p 1 v1 ∧ F.at p 2 v2 ∧ F.at p 3 v3 ∧ F.at p 4 v4 ∧ RdS F RT.bool x.recorded v0 ∧ RdS F (RT.sl RT.bool) x.closed v1 ∧ RdS F RT.int x.cut v2 ∧ RdS F RT.int x.pieces v3 ∧ RdS F (RT.sl (RT.sl RT.int)) x.under v4
theorem RdShot.more {F : MS} {x : Shot} {p : Nat} (h : RdShot F x p) (X : MS) : RdShot (X + F) x p := by
  obtain ⟨v0, v1, v2, v3, v4, a0, a1, a2, a3, a4, b0, b1, b2, b3, b4⟩ := h
  exact ⟨v0, v1, v2, v3, v4, a0.more X, a1.more X, a2.more X, a3.more X, a4.more X, b0.more X, b1.more X, b2.more X, b3.more X, b4.more X⟩
def RT.shot : RT Shot := ⟨1, fun F x cs => ∃ p, cs = [.pointer (some ⟨p, 0, none⟩)] ∧ RdShot F x p, fun _ _ _ ⟨_, h, _⟩ => by rw [h]; rfl, fun F x cs X ⟨p, h, h'⟩ => ⟨p, h, h'.more X⟩⟩

theorem RdS.getSta {F : MS} {l : List Sta} {A : Option Addr} {n c : Nat} (h : RdS F RT.sta l (.slice A n c)) {i : Nat} {s : Sta} (hs : l[i]? = some s) :
    ∃ b o A' c', A = some ⟨b, o, none⟩ ∧ F.at b (o + i * 3) (.int .i64 s.pieces) ∧ F.at b (o + i * 3 + 1) (.int .i64 s.events) ∧ F.at b (o + i * 3 + 2) (.slice A' s.clock.length c') ∧ RdS F RT.int s.clock (.slice A' s.clock.length c') := by
  obtain ⟨b, o, cs, h1, ⟨vc, rfl, h2⟩, h3⟩ := h.get hs (show 0 < 3 by omega)
  obtain ⟨A', c', rfl, _⟩ := h2.form
  exact ⟨b, o, A', c', h1, h3 0 _ rfl, h3 1 _ rfl, h3 2 _ rfl, h2⟩
theorem RdS.getEv {F : MS} {l : List Ev} {A : Option Addr} {n c : Nat} (h : RdS F RT.ev l (.slice A n c)) {i : Nat} {x : Ev} (hs : l[i]? = some x) :
    ∃ b o A' c', A = some ⟨b, o, none⟩ ∧ F.at b (o + i * 5) (.int .i64 x.station) ∧ F.at b (o + i * 5 + 1) (.int .i64 x.what) ∧ F.at b (o + i * 5 + 2) (.int .i64 x.other) ∧ F.at b (o + i * 5 + 3) (.int .i64 x.pieces) ∧ F.at b (o + i * 5 + 4) (.slice A' x.clock.length c') ∧ RdS F RT.int x.clock (.slice A' x.clock.length c') := by
  obtain ⟨b, o, cs, h1, ⟨vc, rfl, h2⟩, h3⟩ := h.get hs (show 0 < 5 by omega)
  obtain ⟨A', c', rfl, _⟩ := h2.form
  exact ⟨b, o, A', c', h1, h3 0 _ rfl, h3 1 _ rfl, h3 2 _ rfl, h3 3 _ rfl, h3 4 _ rfl, h2⟩
theorem RdS.getMsg {F : MS} {l : List Msg} {A : Option Addr} {n c : Nat} (h : RdS F RT.msg l (.slice A n c)) {i : Nat} {x : Msg} (hs : l[i]? = some x) :
    ∃ b o v, A = some ⟨b, o, none⟩ ∧ F.at b (o + i) v ∧ RT.msg.rel F x [v] := by
  obtain ⟨b, o, cs, h1, h2, h3⟩ := h.get hs (show 0 < 1 by omega)
  have := RT.msg.len _ _ _ h2
  obtain ⟨v, rfl⟩ : ∃ v, cs = [v] := by
    cases cs with
    | nil => cases this
    | cons v t =>
      cases t with
      | nil => exact ⟨v, rfl⟩
      | cons _ _ => simp [RT.msg] at this
  exact ⟨b, o, v, h1, by simpa [RT.msg] using h3 0 _ rfl, h2⟩
theorem RdS.getShot {F : MS} {l : List Shot} {A : Option Addr} {n c : Nat} (h : RdS F RT.shot l (.slice A n c)) {i : Nat} {x : Shot} (hs : l[i]? = some x) :
    ∃ b o p, A = some ⟨b, o, none⟩ ∧ F.at b (o + i) (.pointer (some ⟨p, 0, none⟩)) ∧ RdShot F x p := by
  obtain ⟨b, o, cs, h1, ⟨p, rfl, h2⟩, h3⟩ := h.get hs (show 0 < 1 by omega)
  exact ⟨b, o, p, h1, by simpa [RT.shot] using h3 0 _ rfl, h2⟩

/-- The net at block b. -/
def RdNet (F : MS) (σ : Net) (b : Nat) : Prop := ∃ v0 v1 v2 v3, F.at b 0 v0 ∧ F.at b 1 v1 ∧ F.at b 2 v2 ∧ F.at b 3 v3 ∧ RdS F RT.sta σ.sta v0 ∧ RdS F (RT.sl (RT.sl RT.msg)) σ.chan v1 ∧ RdS F RT.shot σ.shots v2 ∧ RdS F RT.ev σ.evs v3
theorem RdNet.more {F : MS} {σ : Net} {b : Nat} (h : RdNet F σ b) (X : MS) : RdNet (X + F) σ b := by
  obtain ⟨v0, v1, v2, v3, a0, a1, a2, a3, b0, b1, b2, b3⟩ := h
  exact ⟨v0, v1, v2, v3, a0.more X, a1.more X, a2.more X, a3.more X, b0.more X, b1.more X, b2.more X, b3.more X⟩
theorem RdNet.less {F : MS} {σ : Net} {b : Nat} (h : RdNet F σ b) (X : MS) : RdNet (F + X) σ b := by rw [MS.add_comm]; exact h.more X

theorem StaR.rd (a : Sta) (cs : List Value) (m : MS) (h : StaR a cs m) : RT.sta.rel m a cs := by
  obtain ⟨vc, h1, h2, _⟩ := h
  exact ⟨vc, h1, h2.rdS⟩
theorem EvR.rd (a : Ev) (cs : List Value) (m : MS) (h : EvR a cs m) : RT.ev.rel m a cs := by
  obtain ⟨vc, h1, h2, _⟩ := h
  exact ⟨vc, h1, h2.rdS⟩
/-- A row of messages: its cells; the clocks in the pool. -/
theorem RowsR.qPool {α : Type} {R : α → List Value → MS → Prop} {T : RT α} {Pl : MS} (hR : ∀ a cs m, R a cs m → T.rel (m + Pl) a cs) : ∀ {l : List α} {cs : List Value} {m : MS}, RowsR R l cs m → RowsQ (T.rel (m + Pl)) l cs
  | [], _, _, h => h.1
  | a :: l, _, _, ⟨c1, m1, c2, m2, h1, h2, h3, h4⟩ => by
    subst h4
    refine ⟨c1, c2, ?_, ?_, h3⟩
    · rw [show m1 + m2 + Pl = m2 + (m1 + Pl) by ac_rfl]; exact T.more _ _ _ _ (hR _ _ _ h1)
    · rw [show m1 + m2 + Pl = m1 + (m2 + Pl) by ac_rfl]; exact (RowsR.qPool hR h2).mono fun a cs h => T.more _ a cs m1 h
theorem SlR.rdPool {α : Type} {e sz : Nat} {R : α → List Value → MS → Prop} {T : RT α} {Pl : MS} (hR : ∀ a cs m, R a cs m → T.rel (m + Pl) a cs) {l : List α} {v : Value} {m : MS} (h : SlR e sz R l v m) : RdS (m + Pl) T l v := by
  obtain ⟨A, c, rfl, _, hc, hm⟩ := h.form
  obtain ⟨xs, ms, mr, h1, h2, rfl⟩ := h
  refine ⟨A, c, xs, rfl, hc, hm, ?_, ?_⟩
  · rw [show ms + mr + Pl = (mr + Pl) + ms by ac_rfl]; exact h1.rdc.more _
  · rw [show ms + mr + Pl = ms + (mr + Pl) by ac_rfl]; exact (h2.qPool hR).mono fun a cs h => T.more _ a cs ms h
theorem MsgV.rd {Pl : MS} {x : Msg} {v : Value} {m : MS} (h : MsgV Pl x v m) : RT.msg.rel (m + Pl) x [v] := by
  obtain ⟨rfl, ⟨h0, vc, mc, Pr, rfl, h1, rfl⟩ | ⟨h0, rfl, h1⟩⟩ := h
  · exact .inl ⟨h0, vc, rfl, (h1.rdS.less Pr).more 0⟩
  · exact .inr ⟨h0, rfl, h1⟩
theorem Line.rd {Pl : MS} {l : List Msg} {v : Value} {m : MS} (h : Line Pl l v m) : RdS (m + Pl) RT.msg l v :=
  SlR.rdPool (T := RT.msg) (fun a cs m ⟨v, h1, h2, _⟩ => by subst h1; exact h2.rd) h
theorem Lines.rd {Pl : MS} {l : List (List Msg)} {v : Value} {m : MS} (h : Lines Pl l v m) : RdS (m + Pl) (RT.sl RT.msg) l v :=
  SlR.rdPool (T := RT.sl RT.msg) (fun a cs m ⟨v, h1, h2, _⟩ => ⟨v, h1, Line.rd h2⟩) h
theorem Chans.rd {Pl : MS} {l : List (List (List Msg))} {v : Value} {m : MS} (h : Chans Pl l v m) : RdS (m + Pl) (RT.sl (RT.sl RT.msg)) l v :=
  SlR.rdPool (T := RT.sl (RT.sl RT.msg)) (fun a cs m ⟨v, h1, h2, _⟩ => ⟨v, h1, Lines.rd h2⟩) h
theorem blk_at' {b i : Nat} {cs : Array Value} {e : TypeId} {u : Value} (h : cs[i]? = some u) (X : MS) : (blk b cs e + X).at b i u := (blk_at h).less X
theorem ShotV.rd {x : Shot} {p : Nat} {v : Value} {m : MS} (h : ShotV (x, p) v m) : v = .pointer (some ⟨p, 0, none⟩) ∧ RdShot m x p := by
  obtain ⟨v0, v1, v2, v3, v4, m0, m1, m2, m3, m4, rfl, rfl, k0, k1, k2, k3, k4⟩ := h
  refine ⟨rfl, v0, v1, v2, v3, v4, blk_at' rfl _, blk_at' rfl _, blk_at' rfl _, blk_at' rfl _, blk_at' rfl _, ?_, ?_, ?_, ?_, ?_⟩
  · rw [show blk p #[v0, v1, v2, v3, v4] 109 + (m0 + (m1 + (m2 + (m3 + m4)))) = (blk p #[v0, v1, v2, v3, v4] 109 + (m1 + (m2 + (m3 + m4)))) + m0 by ac_rfl]; exact k0.rdS.more _
  · rw [show blk p #[v0, v1, v2, v3, v4] 109 + (m0 + (m1 + (m2 + (m3 + m4)))) = (blk p #[v0, v1, v2, v3, v4] 109 + (m0 + (m2 + (m3 + m4)))) + m1 by ac_rfl]; exact k1.rdS.more _
  · rw [show blk p #[v0, v1, v2, v3, v4] 109 + (m0 + (m1 + (m2 + (m3 + m4)))) = (blk p #[v0, v1, v2, v3, v4] 109 + (m0 + (m1 + (m3 + m4)))) + m2 by ac_rfl]; exact k2.rdS.more _
  · rw [show blk p #[v0, v1, v2, v3, v4] 109 + (m0 + (m1 + (m2 + (m3 + m4)))) = (blk p #[v0, v1, v2, v3, v4] 109 + (m0 + (m1 + (m2 + m4)))) + m3 by ac_rfl]; exact k3.rdS.more _
  · rw [show blk p #[v0, v1, v2, v3, v4] 109 + (m0 + (m1 + (m2 + (m3 + m4)))) = (blk p #[v0, v1, v2, v3, v4] 109 + (m0 + (m1 + (m2 + m3)))) + m4 by ac_rfl]; exact k4.rdS.more _
theorem rowsQ_zip {F : MS} : ∀ {l : List Shot} {ps : List Nat} {cs : List Value} {m : MS}, ps.length = l.length → RowsR (El ShotV) (l.zip ps) cs m → RowsQ (RT.shot.rel m) l cs
  | [], _, _, _, _, h => by simp only [List.zip_nil_left] at h; exact h.1
  | a :: l, [], _, _, hl, _ => by simp at hl
  | a :: l, p :: ps, _, _, hl, h => by
    simp only [List.zip_cons_cons] at h
    obtain ⟨c1, m1, c2, m2, ⟨v, rfl, h1, _⟩, h2, h3, rfl⟩ := h
    obtain ⟨rfl, h4⟩ := h1.rd
    refine ⟨_, c2, ⟨p, rfl, ?_⟩, (rowsQ_zip (F := F) (by simpa using hl) h2).mono fun a cs h => RT.shot.more _ a cs m1 h, h3⟩
    rw [MS.add_comm]; exact h4.more _
/-- What is owned can be read. -/
theorem IsNet.rd {Pl : MS} {σ : Net} {ps : List Nat} {b : Nat} {m : MS} (h : IsNet Pl σ ps b m) : RdNet (m + Pl) σ b := by
  obtain ⟨hps, v0, v1, v2, v3, m0, m1, m2, m3, rfl, h0, h1, h2, h3⟩ := h
  refine ⟨v0, v1, v2, v3, ?_, ?_, ?_, ?_, ?_, ?_, ?_, ?_⟩
  · rw [MS.add_assoc]; exact blk_at' rfl _
  · rw [MS.add_assoc]; exact blk_at' rfl _
  · rw [MS.add_assoc]; exact blk_at' rfl _
  · rw [MS.add_assoc]; exact blk_at' rfl _
  · rw [show blk b #[v0, v1, v2, v3] 84 + (m0 + (m1 + (m2 + m3))) + Pl = (blk b #[v0, v1, v2, v3] 84 + (m1 + (m2 + m3)) + Pl) + m0 by ac_rfl]; exact (SlR.rd (T := RT.sta) StaR.rd h0).more _
  · rw [show blk b #[v0, v1, v2, v3] 84 + (m0 + (m1 + (m2 + m3))) + Pl = (blk b #[v0, v1, v2, v3] 84 + (m0 + (m2 + m3))) + (m1 + Pl) by ac_rfl]; exact (Chans.rd h1).more _
  · rw [show blk b #[v0, v1, v2, v3] 84 + (m0 + (m1 + (m2 + m3))) + Pl = (blk b #[v0, v1, v2, v3] 84 + (m0 + (m1 + m3)) + Pl) + m2 by ac_rfl]
    have hzl : (σ.shots.zip ps).length = σ.shots.length := by rw [List.length_zip]; omega
    obtain ⟨A, c, rfl, _, hc, hm⟩ := h2.form
    obtain ⟨xs, ms, mr, k1, k2, rfl⟩ := h2
    rw [hzl] at hc ⊢
    exact RdS.more ⟨A, c, xs, rfl, hc, hm, by rw [MS.add_comm]; exact k1.rdc.more mr, (rowsQ_zip (F := 0) hps k2).mono fun a cs h => RT.shot.more _ a cs ms h⟩ _
  · rw [show blk b #[v0, v1, v2, v3] 84 + (m0 + (m1 + (m2 + m3))) + Pl = (blk b #[v0, v1, v2, v3] 84 + (m0 + (m1 + m2)) + Pl) + m3 by ac_rfl]; exact (SlR.rd (T := RT.ev) EvR.rd h3).more _
end Go.Proofs.Ytnkgfgkgepadhaa

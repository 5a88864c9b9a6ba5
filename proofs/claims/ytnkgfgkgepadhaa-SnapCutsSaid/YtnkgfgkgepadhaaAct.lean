/-
  A net at a block, whatever its pool; the calls over it; act, after.
-/
import Derived.Test.YtnkgfgkgepadhaaKeep
namespace Go.Proofs.Ytnkgfgkgepadhaa
open Go.RowKit
set_option linter.unusedVariables false
set_option linter.unusedSimpArgs false
variable {Q : MS}

/-- A net of its own, in order, at block b; F: all other memory that is spoken of; Q: a part of the pool that is kept in sight. -/
def NetAt (Q F : MS) (σ : Net) (b : Nat) (w : World) : Prop := NetOk σ ∧ ∃ Pl ps m, IsNet (Pl + Q) σ ps b m ∧ Has w (m + ((Pl + Q) + F))
theorem NetAt.ok {F : MS} {σ : Net} {b : Nat} {w : World} (h : NetAt Q F σ b w) : NetOk σ := h.1
theorem NetAt.has {F : MS} {σ : Net} {b : Nat} {w : World} (h : NetAt Q F σ b w) : Has w F := by
  obtain ⟨_, Pl, ps, m, _, h⟩ := h
  exact h.right.right
theorem NetAt.rd {F : MS} {σ : Net} {b : Nat} {w : World} (h : NetAt Q F σ b w) : ∃ G, RdNet G σ b ∧ Has w (G + F) := by
  obtain ⟨_, Pl, ps, m, h1, h2⟩ := h
  exact ⟨m + (Pl + Q), h1.rd, h2.eq (by ac_rfl)⟩
/-- Something more beside it. -/
theorem NetAt.beside {F X : MS} {σ : Net} {b : Nat} {w : World} (h : NetAt Q (X + F) σ b w) : NetAt Q F σ b w := by
  obtain ⟨h0, Pl, ps, m, h1, h2⟩ := h
  exact ⟨h0, Pl, ps, m, h1, (h2.eq (b := X + (m + ((Pl + Q) + F))) (by ac_rfl)).right⟩
theorem work_net {F : MS} {σ : Net} {b : Nat} {w : World} (h : NetAt Q F σ b w) (no p : Int) :
    Calls Try.prog 26 #[.pointer (some ⟨b, 0, none⟩), .int .i64 no, .int .i64 p] w fun e w' => e = .returned (.int .i64 (σ.work no p).1) ∧ NetAt Q F (σ.work no p).2 b w' ∧ Ext w w' := by
  obtain ⟨h0, Pl, ps, m, h1, h2⟩ := h
  refine (work_any (Pl + Q) F σ ps b m w h0 h1 h2 no p).mono ?_
  rintro e w' ⟨rfl, m', k1, k2, k3⟩
  exact ⟨rfl, ⟨h0.work no p, Pl, ps, m', k3, k1⟩, k2⟩
theorem send_net {F : MS} {σ : Net} {b : Nat} {w : World} (h : NetAt Q F σ b w) (x y p : Int) :
    Calls Try.prog 25 #[.pointer (some ⟨b, 0, none⟩), .int .i64 x, .int .i64 y, .int .i64 p] w fun e w' => e = .returned (.int .i64 (σ.send x y p).1) ∧ NetAt Q F (σ.send x y p).2 b w' ∧ Ext w w' := by
  obtain ⟨h0, Pl, ps, m, h1, h2⟩ := h
  refine (send_any (Pl + Q) F σ ps b m w h0 h1 h2 x y p).mono ?_
  rintro e w' ⟨rfl, m', X, k1, k2, k3⟩
  exact ⟨rfl, ⟨h0.send x y p, X + Pl, ps, m', (MS.add_assoc X Pl Q).symm ▸ k3, k1.eq (by ac_rfl)⟩, k2⟩
theorem recv_net {F : MS} {σ : Net} {b : Nat} {w : World} (h : NetAt Q F σ b w) (x y : Int) :
    Calls Try.prog 16 #[.pointer (some ⟨b, 0, none⟩), .int .i64 x, .int .i64 y] w fun e w' => e = .returned (.int .i64 (σ.recv x y).1) ∧ NetAt Q F (σ.recv x y).2 b w' ∧ Ext w w' := by
  obtain ⟨h0, Pl, ps, m, h1, h2⟩ := h
  refine (recv_any (Pl + Q) F σ ps b m w h0 h1 h2 x y).mono ?_
  rintro e w' ⟨rfl, m', k1, k2, k3⟩
  exact ⟨rfl, ⟨h0.recv x y, Pl, ps, m', k3, k1⟩, k2⟩
theorem start_net {F : MS} {σ : Net} {b : Nat} {w : World} (h : NetAt Q F σ b w) (x : Int) :
    Calls Try.prog 27 #[.pointer (some ⟨b, 0, none⟩), .int .i64 x] w fun e w' => e = .returned (.tuple #[.int .i64 (σ.start x).1, .int .i64 (σ.start x).2.1]) ∧ NetAt Q F (σ.start x).2.2 b w' ∧ Ext w w' := by
  obtain ⟨h0, Pl, ps, m, h1, h2⟩ := h
  refine (start_any (Pl + Q) F σ ps b m w h0 h1 h2 x).mono ?_
  rintro e w' ⟨rfl, ps', m', k1, k2, k3⟩
  exact ⟨rfl, ⟨h0.start x, Pl, ps', m', k3, k1⟩, k2⟩
theorem RdS.ints {F : MS} {l : List Int} {A : Option Addr} {n c : Nat} {w : World} (h : RdS F RT.int l (.slice A n c)) (hH : Has w F) : n = l.length ∧ RdInts w A l := by
  obtain ⟨rfl, _, _, xs, h4, h5, h6⟩ := h.cells
  obtain rfl := rowsQ_ints_eq h5
  refine ⟨rfl, fun hA => ?_, h4.news (X := 0) (by rw [MS.zero_add]; exact hH)⟩
  cases l with
  | nil => rfl
  | cons x l =>
    obtain ⟨b, o, h7, _⟩ := h4 (by simp)
    rw [hA] at h7; cases h7
theorem new_net {F : MS} {l : List Int} {A : Option Addr} {n c : Nat} {w : World} (h : RdS F RT.int l (.slice A n c)) (hH : Has w F) (hn : newOk l) :
    Calls Try.prog 24 #[.slice A n c] w fun e w' => ∃ b, e = .returned (.tuple #[.pointer (some ⟨b, 0, none⟩), .int .i64 0]) ∧ NetAt 0 F (Net.new l) b w' ∧ Ext w w' := by
  obtain ⟨rfl, _⟩ := h.ints hH
  refine (new_any F A c l w hH (fun w' X hX _ => ((h.more X).ints hX).2) hn).mono ?_
  rintro e w' ⟨b, m, rfl, k1, k2, k3⟩
  exact ⟨b, rfl, ⟨NetOk.new hn, 0, [], m, by rw [MS.add_zero]; exact k3, by rw [MS.add_zero, MS.zero_add]; exact k1⟩, k2⟩
theorem new_none {F : MS} {l : List Int} {A : Option Addr} {n c : Nat} {w : World} (h : RdS F RT.int l (.slice A n c)) (hH : Has w F) (hn : ¬ newOk l) :
    Calls Try.prog 24 #[.slice A n c] w fun e w' => e = .returned (.tuple #[.pointer none, .int .i64 2]) ∧ w = w' := by
  obtain ⟨rfl, hr⟩ := h.ints hH
  exact new_no A c l w hr hn

/-- A call. -/
structure ActD where
  kind : Int
  a : Int
  b : Int
  n : Int
def ActD.v (x : ActD) : Value := .agg #[.int .u8 x.kind, .int .i64 x.a, .int .i64 x.b, .int .i64 x.n]
def RT.act : RT ActD := ⟨4, fun _ x cs => cs = [.int .u8 x.kind, .int .i64 x.a, .int .i64 x.b, .int .i64 x.n] ∧ 0 ≤ x.kind ∧ x.kind < 256, fun _ _ _ h => by rw [h.1]; rfl, fun _ _ _ _ h => h⟩
def Net.act (σ : Net) (x : ActD) : Net :=
  if x.kind % 8 = 0 then (σ.work x.a x.n).2 else if x.kind % 8 = 1 ∨ x.kind % 8 = 2 then (σ.send x.a x.b x.n).2 else if x.kind % 8 = 7 then (σ.start x.a).2.2 else (σ.recv x.a x.b).2
def Net.acts (σ : Net) (l : List ActD) : Net := l.foldl Net.act σ

set_option maxHeartbeats 1000000 in
theorem act_net {F : MS} {σ : Net} {b : Nat} {w : World} (h : NetAt Q F σ b w) (k x y n : Int) (h1 : 0 ≤ k) (h2 : k < 256) :
    Calls Try.prog 49 #[.pointer (some ⟨b, 0, none⟩), .agg #[.int .u8 k, .int .i64 x, .int .i64 y, .int .i64 n]] w fun e w' => e = .returned (.tuple #[]) ∧ NetAt Q F (σ.act ⟨k, x, y, n⟩) b w' ∧ Ext w w' := by
  have hb : ∀ o, NetAt Q (pts w.heap.size o + F) σ b (w.alloc o) := fun o => by
    obtain ⟨h0, Pl, ps, m, h1, h2⟩ := h
    exact ⟨h0, Pl, ps, m, h1, (h2.alloc o).eq (by ac_rfl)⟩
  have Hb := hid hb
  clear hb h
  by_cases c0 : k % 8 = 0
  · have hσ := hid (show σ.act ⟨k, x, y, n⟩ = (σ.work x n).2 by simp [Net.act, c0])
    have t0 : (k % 8 == 0) = true := by simp [c0]
    clear c0
    rw [hσ.out]
    go_enter Try.func49, Try.ntmps49
    go_wp2_with (go_at_call 26; refine (work_net (Hb.out _) _ _).mono ?_; rintro e w1 ⟨rfl, k1, k2⟩)
    go_end0
    exact ⟨rfl, k1.beside, (Ext.alloc _ _).trans k2⟩
  · have t0 : (k % 8 == 0) = false := by simp [c0]
    by_cases c1 : k % 8 = 1
    · have hσ := hid (show σ.act ⟨k, x, y, n⟩ = (σ.send x y n).2 by simp [Net.act, c1])
      have t1 : (k % 8 == 1) = true := by simp [c1]
      clear c0 c1
      rw [hσ.out]
      go_enter Try.func49, Try.ntmps49
      go_wp2_with (go_at_call 25; refine (send_net (Hb.out _) _ _ _).mono ?_; rintro e w1 ⟨rfl, k1, k2⟩)
      go_end0
      exact ⟨rfl, k1.beside, (Ext.alloc _ _).trans k2⟩
    · have t1 : (k % 8 == 1) = false := by simp [c1]
      by_cases c2 : k % 8 = 2
      · have hσ := hid (show σ.act ⟨k, x, y, n⟩ = (σ.send x y n).2 by simp [Net.act, c2])
        have t2 : (k % 8 == 2) = true := by simp [c2]
        clear c0 c1 c2
        rw [hσ.out]
        go_enter Try.func49, Try.ntmps49
        go_wp2_with (go_at_call 25; refine (send_net (Hb.out _) _ _ _).mono ?_; rintro e w1 ⟨rfl, k1, k2⟩)
        go_end0
        exact ⟨rfl, k1.beside, (Ext.alloc _ _).trans k2⟩
      · have t2 : (k % 8 == 2) = false := by simp [c2]
        by_cases c7 : k % 8 = 7
        · have hσ := hid (show σ.act ⟨k, x, y, n⟩ = (σ.start x).2.2 by simp [Net.act, c7])
          have t7 : (k % 8 == 7) = true := by simp [c7]
          clear c0 c1 c2 c7
          rw [hσ.out]
          go_enter Try.func49, Try.ntmps49
          go_wp2_with (go_at_call 27; refine (start_net (Hb.out _) _).mono ?_; rintro e w1 ⟨rfl, k1, k2⟩)
          go_end0
          exact ⟨rfl, k1.beside, (Ext.alloc _ _).trans k2⟩
        · have hσ := hid (show σ.act ⟨k, x, y, n⟩ = (σ.recv x y).2 by simp [Net.act, c0, c1, c2, c7])
          have t7 : (k % 8 == 7) = false := by simp [c7]
          clear c0 c1 c2 c7
          rw [hσ.out]
          go_enter Try.func49, Try.ntmps49
          go_wp2_with (go_at_call 16; refine (recv_net (Hb.out _) _ _).mono ?_; rintro e w1 ⟨rfl, k1, k2⟩)
          go_end0
          exact ⟨rfl, k1.beside, (Ext.alloc _ _).trans k2⟩

/-- What 'after' does: none where there is no net. -/
theorem RdS.getAct {F : MS} {l : List ActD} {A : Option Addr} {n c : Nat} (h : RdS F RT.act l (.slice A n c)) {i : Nat} {x : ActD} (hs : l[i]? = some x) :
    ∃ b o, A = some ⟨b, o, none⟩ ∧ F.at b (o + i * 4) (.int .u8 x.kind) ∧ F.at b (o + i * 4 + 1) (.int .i64 x.a) ∧ F.at b (o + i * 4 + 2) (.int .i64 x.b) ∧ F.at b (o + i * 4 + 3) (.int .i64 x.n) ∧ 0 ≤ x.kind ∧ x.kind < 256 := by
  obtain ⟨b, o, cs, h1, ⟨rfl, h2⟩, h3⟩ := h.get hs (show 0 < 4 by omega)
  exact ⟨b, o, h1, h3 0 _ rfl, h3 1 _ rfl, h3 2 _ rfl, h3 3 _ rfl, h2⟩
theorem after_none {F : MS} {l : List Int} {A : Option Addr} {n c : Nat} {w : World} {v : Value} (h : RdS F RT.int l (.slice A n c)) (hH : Has w F) (hn : ¬ newOk l) :
    Calls Try.prog 15 #[.slice A n c, v] w fun e w' => e = .returned (.pointer none) ∧ w = w' := by
  have H := hid (new_none h hH hn)
  clear h hH hn
  go_enter Try.func15, Try.ntmps15
  go_wp2_with (go_at_call 24; refine H.out.mono ?_; rintro e w' ⟨rfl, rfl⟩)
  go_ret
  exact ⟨rfl, rfl⟩
set_option maxHeartbeats 1000000 in
theorem after_net {F : MS} {l : List Int} {A : Option Addr} {n c : Nat} {w : World} {L : List ActD} {A2 : Option Addr} {c2 : Nat} (h : RdS F RT.int l (.slice A n c)) (hH : Has w F) (hn : newOk l) (hL : RdS F RT.act L (.slice A2 L.length c2)) (hb : L.length ≤ 1000) :
    Calls Try.prog 15 #[.slice A n c, .slice A2 L.length c2] w fun e w' => ∃ b, e = .returned (.pointer (some ⟨b, 0, none⟩)) ∧ NetAt 0 F ((Net.new l).acts L) b w' ∧ Ext w w' := by
  have H := hid (new_net h hH hn)
  have HL := hid hL
  have q3 : (L.length : Int) ≤ 1000 := by omega
  clear h hH hn hL
  go_enter Try.func15, Try.ntmps15
  go_wp2_with (go_at_call 24; refine H.out.mono ?_; rintro e w' ⟨b, rfl, k1, k2⟩; have K1 := hid k1; have K2 := hid k2; clear k1 k2)
  go_loopw [7] (fun v wr => ∃ t : Nat, t ≤ L.length ∧ v = .int .i64 t ∧ NetAt 0 F ((Net.new l).acts (L.take t)) b wr ∧ Ext w wr) (fun v _ => L.length - (intOf v).toNat)
  case atStart => exact ⟨0, Nat.zero_le _, rfl, K1.out, K2.out⟩
  case round =>
    obtain ⟨t, ht, rfl, hN, hE⟩ := hrel
    by_cases hlt : t < L.length
    · obtain ⟨x, hx⟩ : ∃ x, L[t]? = some x := ⟨_, List.getElem?_eq_getElem hlt⟩
      obtain ⟨b1, o1, rfl, e0, e1, e2, e3, e4, e5⟩ := HL.out.getAct hx
      have hF := hN.has
      have f0 := e0.cell (X := 0) (by rw [MS.zero_add]; exact hF)
      have f1 := e1.cell (X := 0) (by rw [MS.zero_add]; exact hF)
      have f2 := e2.cell (X := 0) (by rw [MS.zero_add]; exact hF)
      have f3 := e3.cell (X := 0) (by rw [MS.zero_add]; exact hF)
      have Hmore := hid (show (Net.new l).acts (L.take (t + 1)) = ((Net.new l).acts (L.take t)).act x by rw [take_more hx, Net.acts, List.foldl_append]; rfl)
      have HN := hid hN
      have HE := hid hE
      have Hlt := hid hlt
      clear hN hE hx e0 e1 e2 e3 hF
      go_wp2_with (go_at_call 49; refine (act_net HN.out x.kind x.a x.b x.n e4 e5).mono ?_; rintro e w1 ⟨rfl, k1, k2⟩; have K3 := hid k1; have K4 := hid k2; clear k1 k2)
      go_roundw
      case rel => exact ⟨t + 1, Hlt.out, by go_num, by rw [Hmore.out]; exact K3.out, HE.out.trans K4.out⟩
      case measure => have := Hlt.out; simp [intOf]; omega
    · obtain rfl : t = L.length := by omega
      rw [List.take_length] at hN
      have HN := hid hN
      have HE := hid hE
      clear hN hE
      go_wp2
      go_ret
      exact ⟨b, rfl, HN.out, HE.out⟩
end Go.Proofs.Ytnkgfgkgepadhaa

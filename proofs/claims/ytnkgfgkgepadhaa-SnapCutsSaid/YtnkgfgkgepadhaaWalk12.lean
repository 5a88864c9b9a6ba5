/-
  Walks: Waiting, Pieces, Total.
-/
import Derived.Test.YtnkgfgkgepadhaaNetRd
namespace Go.Proofs.Ytnkgfgkgepadhaa
open Go.RowKit
set_option linter.unusedVariables false
set_option linter.unusedSimpArgs false

theorem pairErr_cases (n : Nat) (x y : Int) : pairErr n x y = 2 ∨ (pairErr n x y = 0 ∧ ∃ i j : Nat, x = i ∧ y = j ∧ i < n ∧ j < n ∧ i ≠ j) := by
  unfold pairErr
  by_cases h : (0 ≤ x ∧ x < n) ∧ (0 ≤ y ∧ y < n) ∧ x ≠ y
  · rw [if_pos h]; exact .inr ⟨rfl, x.toNat, y.toNat, by omega, by omega, by omega, by omega, by omega⟩
  · rw [if_neg h]; exact .inl rfl
/-- The four headers, as they are read. -/
theorem RdNet.heads {F : MS} {σ : Net} {b : Nat} (h : RdNet F σ b) : ∃ A0 c0 A1 c1 A2 c2 A3 c3, F.at b 0 (.slice A0 σ.sta.length c0) ∧ F.at b 1 (.slice A1 σ.chan.length c1) ∧ F.at b 2 (.slice A2 σ.shots.length c2) ∧ F.at b 3 (.slice A3 σ.evs.length c3) ∧
    RdS F RT.sta σ.sta (.slice A0 σ.sta.length c0) ∧ RdS F (RT.sl (RT.sl RT.msg)) σ.chan (.slice A1 σ.chan.length c1) ∧ RdS F RT.shot σ.shots (.slice A2 σ.shots.length c2) ∧ RdS F RT.ev σ.evs (.slice A3 σ.evs.length c3) := by
  obtain ⟨v0, v1, v2, v3, a0, a1, a2, a3, b0, b1, b2, b3⟩ := h
  obtain ⟨A0, c0, rfl, _⟩ := b0.form
  obtain ⟨A1, c1, rfl, _⟩ := b1.form
  obtain ⟨A2, c2, rfl, _⟩ := b2.form
  obtain ⟨A3, c3, rfl, _⟩ := b3.form
  exact ⟨A0, c0, A1, c1, A2, c2, A3, c3, a0, a1, a2, a3, b0, b1, b2, b3⟩

@[go_sem] theorem meth96 (a b : Value) (w : World) : (method 272 96 (.agg #[a, b]) "encaustic/snap.told").run Try.prog w = .ok (111, .agg #[a, b]) w := by kernel_rfl
@[go_sem] theorem meth99 (k : IntKind) (n : Int) (w : World) : (method 272 99 (.int k n) "encaustic/snap.told").run Try.prog w = .ok (112, .int k n) w := by kernel_rfl
theorem told_parcel (n : Int) (v : Value) (w : World) : Calls Try.prog 111 #[.agg #[.int .i64 n, v]] w fun e w' => e = .returned (.int .i64 n) ∧ (∀ M, Has w M → Has w' M) ∧ Ext w w' := by
  go_enter Try.func111, Try.ntmps111
  go_wp2
  go_ret
  exact ⟨rfl, fun M h => (h.alloc _).right, Ext.alloc _ _⟩
theorem told_marker (n : Int) (w : World) (h : -1000000 ≤ n ∧ n ≤ 1000000) : Calls Try.prog 112 #[.int .i64 n] w fun e w' => e = .returned (.int .i64 (-n)) ∧ w = w' := by
  obtain ⟨h1, h2⟩ := h
  go_enter Try.func112, Try.ntmps112
  go_wp2
  go_ret
  exact ⟨ret_int (by first | rfl | omega), rfl⟩

theorem waiting_no (F : MS) (σ : Net) (b : Nat) (w : World) (h0 : 0 < σ.sta.length) (hnet : RdNet F σ b) (hH : Has w F) (x y : Int) (h : pairErr σ.sta.length x y = 2) :
    Calls Try.prog 28 #[.pointer (some ⟨b, 0, none⟩), .int .i64 x, .int .i64 y] w fun e w' => e = .returned (.tuple #[.slice none 0 0, .int .i64 2]) ∧ w = w' := by
  obtain ⟨A0, c0, _, _, _, _, _, _, a0, _, _, _, b0, _⟩ := hnet.heads
  obtain ⟨bs, o, _, _, rfl, _⟩ := b0.getSta (List.getElem?_eq_getElem h0)
  have f0 := a0.cell (X := 0) (by rw [MS.zero_add]; exact hH)
  have H := hid (pair_any b ⟨bs, o, none⟩ σ.sta.length c0 w f0 x y)
  rw [h] at H
  clear h hnet hH b0 a0
  go_enter Try.func28, Try.ntmps28
  go_wp2_with (go_at_call 50; refine H.out.mono ?_; rintro e w' ⟨rfl, rfl⟩)
  go_ret2
  exact ⟨rfl, rfl⟩

set_option maxHeartbeats 2000000 in
set_option maxRecDepth 100000 in
theorem waiting_yes (F : MS) (σ : Net) (b : Nat) (w : World) (hnet : RdNet F σ b) (hH : Has w F) (i j : Nat) (hi : i < σ.sta.length) (hj : j < σ.sta.length) (hij : i ≠ j) (r : List (List Msg)) (l : List Msg) (hr : σ.chan[i]? = some r) (hl : r[j]? = some l) (hb : l.length ≤ 1000)
    (hb1 : ∀ x ∈ l, -1000000 ≤ x.told ∧ x.told ≤ 1000000) :
    Calls Try.prog 28 #[.pointer (some ⟨b, 0, none⟩), .int .i64 i, .int .i64 j] w fun e w' => ∃ A c m, e = .returned (.tuple #[.slice A l.length c, .int .i64 0]) ∧ Ints (l.map Msg.told) (.slice A l.length c) m ∧ Has w' (m + F) ∧ Ext w w' := by
  obtain ⟨A0, c0, A1, c1, _, _, _, _, a0, a1, _, _, b0, k1, _⟩ := hnet.heads
  obtain ⟨bs, o, _, _, rfl, _⟩ := b0.getSta (List.getElem?_eq_getElem hi)
  have f0 := a0.cell (X := 0) (by rw [MS.zero_add]; exact hH)
  have f1 := a1.cell (X := 0) (by rw [MS.zero_add]; exact hH)
  obtain ⟨b1, o1, Ar, cr, rfl, e1, k2, _⟩ := k1.getSl hr
  obtain ⟨b2, o2, Al, cl, rfl, e2, k3, _⟩ := k2.getSl hl
  have f2 := e1.cell (X := 0) (by rw [MS.zero_add]; exact hH)
  have f3 := e2.cell (X := 0) (by rw [MS.zero_add]; exact hH)
  have H := hid (pair_any b ⟨bs, o, none⟩ σ.sta.length c0 w f0 i j)
  have hp : pairErr σ.sta.length i j = 0 := by unfold pairErr; rw [if_pos]; exact ⟨by omega, by omega, by omega⟩
  rw [hp] at H
  have q1 : (i : Int) < σ.chan.length := by have := (List.getElem?_eq_some_iff.1 hr).1; omega
  have q2 : (j : Int) < r.length := by have := (List.getElem?_eq_some_iff.1 hl).1; omega
  have q3 : (l.length : Int) ≤ 1000 := by omega
  have K3 := hid k3
  have HH := hid hH
  have Hb1 := hid hb1
  clear hnet hH b0 a0 a1 e1 e2 k1 k2 k3 hij hp hr hl hb1
  go_enter Try.func28, Try.ntmps28
  go_wp2_with (go_at_call 50; refine H.out.mono ?_; rintro e w' ⟨rfl, rfl⟩)
  go_loopw [9, 30] (fun vo v wr => BuildInv 3 1 (El IntV) F w (l.map Msg.told) vo v wr) (fun _ v _ => l.length - (intOf v).toNat)
  case atStart => exact BuildInv.start HH.out (Ext.refl w)
  case round =>
    obtain ⟨t, ht, rfl, mo, ho, hHt, hEt⟩ := hrel
    rw [List.length_map] at ht
    obtain ⟨Ao, co, rfl, _, _⟩ := ho.form
    have hlen : ((l.map Msg.told).take t).length = t := by simp; omega
    rw [hlen] at ho ⊢
    have Hlen := hid hlen
    by_cases hlt : t < l.length
    · obtain ⟨x, hx⟩ : ∃ x, l[t]? = some x := ⟨_, List.getElem?_eq_getElem hlt⟩
      obtain ⟨b3, o3, v, rfl, e3, hv⟩ := K3.out.getMsg hx
      have f4 := e3.cell hHt
      have hbx := Hb1.out x (List.mem_of_getElem? hx)
      have Hlt := hid hlt
      have Htk := hid (take_more (l := l.map Msg.told) (t := t) (a := x.told) (by simp [hx]))
      have Ho := hid ho
      have HHt := hid hHt
      have HEt := hid hEt
      clear ho hHt hEt hx e3 hlt hlen
      rcases hv with ⟨h0, vc, hv, hvc⟩ | ⟨h0, hv, hvc⟩
      · obtain rfl : v = .iface 96 (.agg #[.int .i64 x.told, vc]) := by simpa using hv
        clear hv hvc
        generalize x.told = u at *
        go_wp2_with (first
          | (go_at_call 111; refine (told_parcel _ _ _).mono ?_; rintro e w1 ⟨rfl, j1, j2⟩; have J1 := hid (j1 _ HHt.out); have J2 := hid j2; clear j1 j2)
          | (at_builtin; refine wpList_push rfl (.tmp 34) (.tmp 37) row22 rfl _ rfl _ rfl rfl (El IntV) El.one El.len _ u mo 0 F Ho.out ⟨_, rfl, ⟨rfl, rfl⟩, rfl⟩ (J1.out.eq (by rw [MS.zero_add])) t Hlen.out (by omega) (by omega) ?_; intro A2 c2 w2 m2 k1 k2 k3; have K1 := hid k1; have K2 := hid k2; have K3 := hid k3; clear k1 k2 k3))
        go_roundw
        case rel => exact ⟨t + 1, by have := Hlt.out; simp; omega, by go_num, m2, by rw [Htk.out]; exact K1.out, K2.out, (HEt.out.trans J2.out).trans K3.out⟩
        case measure => have := Hlt.out; simp [intOf]; omega
      · obtain rfl : v = .iface 99 (.int .i64 (-x.told)) := by simpa using hv
        clear hv hvc
        obtain ⟨u, hu⟩ : ∃ u : Int, x.told = -u := ⟨-x.told, by omega⟩
        rw [hu] at f4 Htk hbx
        have hbu : -1000000 ≤ u ∧ u ≤ 1000000 := by omega
        simp only [Int.neg_neg] at f4
        clear hu h0 hbx
        go_wp2_with (first
          | (go_at_call 112; refine (told_marker _ _ hbu).mono ?_; rintro e w1 ⟨rfl, rfl⟩)
          | (at_builtin; refine wpList_push rfl (.tmp 34) (.tmp 37) row22 rfl _ rfl _ rfl rfl (El IntV) El.one El.len _ (-u) mo 0 F Ho.out ⟨_, rfl, ⟨rfl, rfl⟩, rfl⟩ (HHt.out.eq (by rw [MS.zero_add])) t Hlen.out (by omega) (by omega) ?_; intro A2 c2 w2 m2 k1 k2 k3; have K1 := hid k1; have K2 := hid k2; have K3 := hid k3; clear k1 k2 k3))
        go_roundw
        case rel => exact ⟨t + 1, by have := Hlt.out; simp; omega, by go_num, m2, by rw [Htk.out]; exact K1.out, K2.out, HEt.out.trans K3.out⟩
        case measure => have := Hlt.out; simp [intOf]; omega
    · obtain rfl : t = l.length := by omega
      have Ho := hid (show Ints (l.map Msg.told) (.slice Ao l.length co) mo by rw [List.take_of_length_le (by simp)] at ho; exact ho)
      have HHt := hid hHt
      have HEt := hid hEt
      clear ho hHt hEt hlen
      go_wp2
      go_ret2
      exact ⟨_, _, mo, rfl, Ho.out, HHt.out, HEt.out⟩

theorem ok_yes (b : Nat) (ad : Addr) (n c : Nat) (w : World) (h : w.cell? ⟨b, 0, none⟩ = some (.slice (some ad) n c)) : Calls Try.prog 56 #[.pointer (some ⟨b, 0, none⟩)] w fun e w' => e = .returned (.bool true) ∧ w = w' := by
  go_enter Try.func56, Try.ntmps56
  go_wp2
  go_ret
  exact ⟨rfl, rfl⟩
theorem ok_nil (w : World) : Calls Try.prog 56 #[.pointer none] w fun e w' => e = .returned (.bool false) ∧ w = w' := by
  go_enter Try.func56, Try.ntmps56
  go_wp2
  go_ret
  exact ⟨rfl, rfl⟩
theorem ok_zero (b : Nat) (w : World) (h : w.cell? ⟨b, 0, none⟩ = some (.slice none 0 0)) : Calls Try.prog 56 #[.pointer (some ⟨b, 0, none⟩)] w fun e w' => e = .returned (.bool false) ∧ w = w' := by
  go_enter Try.func56, Try.ntmps56
  go_wp2
  go_ret
  exact ⟨rfl, rfl⟩
/-- 'ok' of a net. -/
theorem ok_net (F : MS) (σ : Net) (b : Nat) (w : World) (h0 : 0 < σ.sta.length) (hnet : RdNet F σ b) (hH : Has w F) : ∃ ad c, w.cell? ⟨b, 0, none⟩ = some (.slice (some ad) σ.sta.length c) ∧ RdS F RT.sta σ.sta (.slice (some ad) σ.sta.length c) := by
  obtain ⟨A0, c0, _, _, _, _, _, _, a0, _, _, _, b0, _⟩ := hnet.heads
  obtain ⟨bs, o, _, _, rfl, _⟩ := b0.getSta (List.getElem?_eq_getElem h0)
  exact ⟨_, _, a0.cell (X := 0) (by rw [MS.zero_add]; exact hH), b0⟩

set_option maxHeartbeats 2000000 in
set_option maxRecDepth 100000 in
theorem pieces_any (F : MS) (σ : Net) (b : Nat) (w : World) (h0 : 0 < σ.sta.length) (hnet : RdNet F σ b) (hH : Has w F) (hb : σ.sta.length ≤ 1000) :
    Calls Try.prog 47 #[.pointer (some ⟨b, 0, none⟩)] w fun e w' => ∃ A c m, e = .returned (.slice A σ.sta.length c) ∧ Ints (σ.sta.map Sta.pieces) (.slice A σ.sta.length c) m ∧ Has w' (m + F) ∧ Ext w w' := by
  obtain ⟨ad, c0, f0, b0⟩ := ok_net F σ b w h0 hnet hH
  have HH := hid hH
  have B0 := hid b0
  have q3 : (σ.sta.length : Int) ≤ 1000 := by omega
  clear hnet hH b0
  generalize σ.sta = l at *
  go_enter Try.func47, Try.ntmps47
  go_wp2_with (go_at_call 56; refine (ok_yes b ad _ c0 _ f0).mono ?_; rintro e w' ⟨rfl, rfl⟩)
  go_loopw [3, 14] (fun vo v wr => BuildInv 3 1 (El IntV) F w (l.map Sta.pieces) vo v wr) (fun _ v _ => l.length - (intOf v).toNat)
  case atStart => exact BuildInv.start HH.out (Ext.refl w)
  case round =>
    obtain ⟨t, ht, rfl, mo, ho, hHt, hEt⟩ := hrel
    rw [List.length_map] at ht
    obtain ⟨Ao, co, rfl, _, _⟩ := ho.form
    have hlen : ((l.map Sta.pieces).take t).length = t := by simp; omega
    rw [hlen] at ho ⊢
    have Hlen := hid hlen
    by_cases hlt : t < l.length
    · obtain ⟨x, hx⟩ : ∃ x, l[t]? = some x := ⟨_, List.getElem?_eq_getElem hlt⟩
      obtain ⟨b3, o3, A5, c5, he, e3, e4, e5, _⟩ := B0.out.getSta hx
      injection he with he
      subst he
      have f3 := e3.cell hHt
      have f4 := e4.cell hHt
      have f5 := e5.cell hHt
      have Hlt := hid hlt
      have Htk := hid (take_more (l := l.map Sta.pieces) (t := t) (a := x.pieces) (by simp [hx]))
      have Ho := hid ho
      have HHt := hid hHt
      have HEt := hid hEt
      clear ho hHt hEt hx e3 e4 e5 hlt hlen
      go_wp2_with (at_builtin; refine wpList_push rfl (.tmp 18) (.tmp 21) row22 rfl _ rfl _ rfl (by simp) (El IntV) El.one El.len _ x.pieces mo 0 F Ho.out ⟨_, rfl, ⟨rfl, rfl⟩, rfl⟩ ((HHt.out.alloc _).right.eq (by rw [MS.zero_add])) t Hlen.out (by omega) (by omega) ?_; intro A2 c2 w2 m2 k1 k2 k3; have K1 := hid k1; have K2 := hid k2; have K3 := hid ((Ext.alloc wr _).trans k3); clear k1 k2 k3)
      go_roundw
      case rel => exact ⟨t + 1, by have := Hlt.out; simp; omega, by go_num, m2, by rw [Htk.out]; exact K1.out, K2.out, HEt.out.trans K3.out⟩
      case measure => have := Hlt.out; simp [intOf]; omega
    · obtain rfl : t = l.length := by omega
      have Ho := hid (show Ints (l.map Sta.pieces) (.slice Ao l.length co) mo by rw [List.take_of_length_le (by simp)] at ho; exact ho)
      have HHt := hid hHt
      have HEt := hid hEt
      clear ho hHt hEt hlen
      go_wp2
      go_ret
      exact ⟨_, _, mo, rfl, Ho.out, HHt.out, HEt.out⟩
end Go.Proofs.Ytnkgfgkgepadhaa

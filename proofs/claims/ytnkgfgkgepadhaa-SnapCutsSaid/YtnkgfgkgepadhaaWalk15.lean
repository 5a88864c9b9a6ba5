/-
  The walk of Events.
-/
import Derived.Test.YtnkgfgkgepadhaaWalk14
namespace Go.Proofs.Ytnkgfgkgepadhaa
open Go.RowKit
set_option linter.unusedVariables false
set_option linter.unusedSimpArgs false

/-- Clone of events: their cells. -/
theorem clone_evs (A : Option Addr) (n c : Nat) (xs : List Value) (w : World) (F : MS) (hr : RdC F A xs) (hl : xs.length = n * 5) (h1 : ∀ u ∈ xs, u.oneCell' = true) (hH : Has w F) (hn : n ≤ 1000000) :
    Calls Try.prog 57 #[.slice A n c] w fun e w' => ∃ A' c' m, e = .returned (.slice A' n c') ∧ Sl 68 5 (.slice A' n c') n xs m ∧ Has w' (m + F) ∧ Ext w w' := by
  cases A with
  | none =>
    have hx : xs = [] := by
      cases xs with
      | nil => rfl
      | cons x l => obtain ⟨b, o, h7, _⟩ := hr (by simp); cases h7
    subst hx
    obtain rfl : n = 0 := by simp at hl; omega
    go_enter Try.func57, Try.ntmps57
    go_wp2
    go_ret
    exact ⟨_, _, 0, rfl, Sl.nil 68 5, (MS.zero_add F).symm ▸ hH, Ext.refl w⟩
  | some ad =>
    have hnews := (hr.more (pts w.heap.size (.cells #[] 68))).news (X := 0) (w := w.alloc (.cells #[] 68)) (by rw [MS.zero_add]; exact hH.alloc _)
    have Hr := hid hnews
    have H1 := hid h1
    clear hr hnews h1
    go_enter Try.func57, Try.ntmps57
    go_wp2_with (at_builtin; refine wpList_append_sl rfl (.tmp 5) (.tmp 6) 32 rfl 68 _ 5 56 Try.underlying32 info68 rfl _ rfl (some ad) n c rfl 0 [] (blk w.heap.size #[] 68) F (Sl.empty _ _ _) (hH.alloc _) xs hl (by simp) Hr.out H1.out (by simp only [maxLen]; omega) (by omega) ?_; intro v' w' m' h1 h2 h3)
    go_ret
    obtain ⟨A', c', rfl, _⟩ := h1.form
    simp only [Nat.zero_add] at h1 ⊢
    exact ⟨_, _, m', rfl, by simpa using h1, h2, (Ext.alloc _ _).trans h3⟩

/-- An event: with its own clock, or with one that is read. -/
def EvM (F : MS) (p : Ev × Bool) (cs : List Value) (m : MS) : Prop := (p.2 = true ∧ EvR p.1 cs m) ∨ (p.2 = false ∧ RT.ev.rel F p.1 cs ∧ m = 0)
theorem EvM.len {F : MS} : ∀ a cs m, EvM F a cs m → cs.length = 5 := fun a cs m h => by
  rcases h with ⟨_, h⟩ | ⟨_, h, _⟩
  · exact EvR.len _ _ _ h
  · exact RT.ev.len _ _ _ h
def evMix (l : List Ev) (t : Nat) : List (Ev × Bool) := (l.take t).map (·, true) ++ (l.drop t).map (·, false)
theorem evMix_get {l : List Ev} {t : Nat} {x : Ev} (h : l[t]? = some x) : (evMix l t)[t]? = some (x, false) ∧ (evMix l t).set t (x, true) = evMix l (t + 1) := by
  obtain ⟨ht, rfl⟩ := List.getElem?_eq_some_iff.1 h
  have e : evMix l t = (l.take t).map (·, true) ++ (l[t], false) :: (l.drop (t + 1)).map (·, false) := by unfold evMix; rw [List.drop_eq_getElem_cons ht]; rfl
  have hlen : ((l.take t).map (fun x => (x, true))).length = t := by simp; omega
  rw [e]
  refine ⟨by rw [List.getElem?_append_right (by omega), hlen]; simp, ?_⟩
  rw [List.set_append_right _ _ (by omega), hlen]
  simp only [Nat.sub_self, List.set_cons_zero]
  unfold evMix
  rw [List.take_succ_eq_append_getElem ht, List.map_append, List.append_assoc]
  rfl
theorem evMix_len (l : List Ev) (t : Nat) (h : t ≤ l.length) : (evMix l t).length = l.length := by unfold evMix; simp; omega
theorem rows_false {F : MS} : ∀ {l : List Ev} {xs : List Value}, RowsQ (RT.ev.rel F) l xs → RowsR (EvM F) (l.map (·, false)) xs 0
  | [], _, h => ⟨h, rfl⟩
  | x :: l, _, ⟨c1, c2, h1, h2, h3⟩ => ⟨c1, 0, c2, 0, .inr ⟨rfl, h1, rfl⟩, rows_false h2, h3, (MS.zero_add 0).symm⟩
theorem rows_true {F : MS} : ∀ {l : List Ev} {xs : List Value} {m : MS}, RowsR (EvM F) (l.map (·, true)) xs m → RowsR EvR l xs m
  | [], _, _, h => h
  | x :: l, _, _, h => by
    obtain ⟨c1, m1, c2, m2, h1, h2, h3, h4⟩ := h
    refine ⟨c1, m1, c2, m2, ?_, rows_true h2, h3, h4⟩
    rcases h1 with ⟨_, h⟩ | ⟨h, _⟩
    · exact h
    · cases h
theorem RdC_one {F : MS} {l : List Ev} {xs : List Value} (h : RowsQ (RT.ev.rel F) l xs) : ∀ u ∈ xs, u.oneCell' = true := by
  induction l generalizing xs with
  | nil => intro u hu; rw [h] at hu; cases hu
  | cons x l ih =>
    obtain ⟨c1, c2, ⟨vc, h1, h1'⟩, h2, h3⟩ := h
    obtain ⟨A, c, rfl, _⟩ := h1'.form
    intro u hu
    rw [h3, h1] at hu
    rcases List.mem_append.1 hu with hu | hu
    · simp at hu
      rcases hu with rfl | rfl | rfl | rfl | rfl <;> rfl
    · exact ih h2 u hu

set_option maxHeartbeats 2000000 in
set_option maxRecDepth 100000 in
theorem events_any (F : MS) (σ : Net) (b : Nat) (w : World) (h0 : 0 < σ.sta.length) (hnet : RdNet F σ b) (hH : Has w F) (hb : σ.evs.length ≤ 1000) (hb2 : ∀ x ∈ σ.evs, x.clock.length ≤ 1000) :
    Calls Try.prog 18 #[.pointer (some ⟨b, 0, none⟩)] w fun e w' => ∃ A c m, e = .returned (.slice A σ.evs.length c) ∧ SlR 68 5 EvR σ.evs (.slice A σ.evs.length c) m ∧ Has w' (m + F) ∧ Ext w w' := by
  obtain ⟨ad, c0, f0, _⟩ := ok_net F σ b w h0 hnet hH
  obtain ⟨_, _, _, _, _, _, A3, c3, _, _, _, a3, _, _, _, k3⟩ := hnet.heads
  have f3 := a3.cell (X := 0) (by rw [MS.zero_add]; exact hH)
  obtain ⟨_, _, _, xs, q1, q2, q3⟩ := k3.cells
  have Hc := hid (clone_evs A3 σ.evs.length c3 xs w F q1 q3 (RdC_one q2) hH (by omega))
  have Hq := hid q2
  have Hb2 := hid hb2
  have q4 : (σ.evs.length : Int) ≤ 1000 := by omega
  clear hnet hH q1 q2 q3 a3 k3 hb2
  generalize σ.evs = l at *
  go_enter Try.func18, Try.ntmps18
  go_wp2_with (first
    | (go_at_call 56; refine (ok_yes b ad _ c0 _ f0).mono ?_; rintro e w' ⟨rfl, rfl⟩)
    | (go_at_call 57; refine Hc.out.mono ?_; rintro e w1 ⟨Ao, co, mo, rfl, k1, k2, k3⟩; have K1 := hid k1; have K2 := hid k2; have K3 := hid k3; clear k1 k2 k3))
  go_loopw [16] (fun v wr => ∃ t : Nat, t ≤ l.length ∧ v = .int .i64 t ∧ ∃ m, SlR 68 5 (EvM F) (evMix l t) (.slice Ao l.length co) m ∧ Has wr (m + F) ∧ Ext w wr) (fun v _ => l.length - (intOf v).toNat)
  case atStart =>
    refine ⟨0, Nat.zero_le _, rfl, mo + 0, ?_, by rw [MS.add_zero]; exact K2.out, K3.out⟩
    have e : evMix l 0 = l.map (·, false) := by unfold evMix; simp
    rw [e]
    exact SlR.of (by rw [List.length_map]; exact K1.out) (rows_false Hq.out)
  case round =>
    obtain ⟨t, ht, rfl, m, ho, hHt, hEt⟩ := hrel
    by_cases hlt : t < l.length
    · obtain ⟨x, hx⟩ : ∃ x, l[t]? = some x := ⟨_, List.getElem?_eq_getElem hlt⟩
      obtain ⟨e1, e2⟩ := evMix_get hx
      have hlen := evMix_len l t ht
      obtain ⟨bo, oo, c', cur, ci, m1, m2, he, rfl, hrow, hcell, hput⟩ := SlR.take EvM.len ho (i := t) (by rw [hlen]; exact hlt)
      rw [hlen] at he
      have hg : (evMix l t)[t]'(by rw [hlen]; exact hlt) = (x, false) := (List.getElem?_eq_some_iff.1 e1).2
      rw [hg] at hrow
      injection he with he he' he''
      subst he; subst he''
      rcases hrow with ⟨h, _⟩ | ⟨_, ⟨vc, hci, hvc⟩, hm1⟩
      · cases h
      subst hm1
      replace hvc : RdS F RT.int x.clock vc := hvc
      obtain ⟨Aq, cq, rfl, _⟩ := hvc.form
      subst hci
      have H1 : Has wr (blk bo cur 68 + (0 + m2 + F)) := hHt.eq (by ac_rfl)
      have g0 := hcell 0 (by omega)
      have g1 := hcell 1 (by omega)
      have g2 := hcell 2 (by omega)
      have g3 := hcell 3 (by omega)
      have g4 := hcell 4 (by omega)
      simp only [Nat.add_zero, List.getElem?_cons_succ, List.getElem?_cons_zero] at g0 g1 g2 g3 g4
      have i0 := H1.at_ g0
      have i1 := H1.at_ g1
      have i2 := H1.at_ g2
      have i3 := H1.at_ g3
      have i4 := H1.at_ g4
      have hbl := World.block_lt_of_cell? _ _ i0
      simp only at hbl
      have Hcl := hid (fun o => clone_rd (w := wr.alloc o) (((hvc.more m2).more (blk bo cur 68)).more (pts wr.heap.size o)) ((H1.eq (b := blk bo cur 68 + (m2 + F)) (by rw [MS.zero_add])).alloc o) (by have := Hb2.out x (List.mem_of_getElem? hx); omega))
      have l4 := arr_lt g4
      have Hput := hid hput
      have Hg := hid (And.intro g0 (And.intro g1 (And.intro g2 g3)))
      have He2 := hid e2
      have HEt := hid hEt
      have Hlt := hid hlt
      clear ho hHt hEt hx e1 e2 hg hput hcell g0 g1 g2 g3 g4 H1 hvc hlen
      go_wp2_with (first
        | (go_at_call 58; refine (Hcl.out _).mono ?_; rintro e w2 ⟨A5, c5, m5, rfl, j1, j2, j3⟩; have J1 := hid j1; have J2 := hid (j2.eq (b := blk bo cur 68 + (m5 + (pts wr.heap.size (.cells #[.int .i64 x.station, .int .i64 x.what, .int .i64 x.other, .int .i64 x.pieces, .slice Aq x.clock.length cq] 68) + (m2 + F)))) (by ac_rfl)); have J3 := hid ((Ext.alloc wr _).trans j3); clear j1 j2 j3)
        | (refine wpList_store_blk rfl (.tmp 27) (.tmp 25) 22 rfl size22 bo _ (.slice A5 x.clock.length c5) rfl rfl rfl cur 68 _ J2.out l4 ?_; intro w3 j4 j5; have J4 := hid j4; have J5 := hid j5; clear j4 j5))
      go_roundw
      case rel =>
        refine ⟨t + 1, Hlt.out, by go_num, blk bo (cur.setIfInBounds (oo + t * 5 + 4) (.slice A5 x.clock.length c5)) 68 + (m5 + m2), ?_, ?_, (HEt.out.trans J3.out).trans J5.out⟩
        · rw [← He2.out]
          refine Hput.out (x, true) [.int .i64 x.station, .int .i64 x.what, .int .i64 x.other, .int .i64 x.pieces, .slice A5 x.clock.length c5] m5 (cur.setIfInBounds (oo + t * 5 + 4) (.slice A5 x.clock.length c5)) (.inl ⟨rfl, _, rfl, J1.out, rfl⟩) (by simp) (fun k hk => by rw [Array.getElem?_setIfInBounds_ne (by omega)]) (fun j hj => ?_)
          obtain ⟨g0, g1, g2, g3⟩ := Hg.out
          match j, hj with
          | 0, _ => exact arr_ne g0 (by omega)
          | 1, _ => exact arr_ne g1 (by omega)
          | 2, _ => exact arr_ne g2 (by omega)
          | 3, _ => exact arr_ne g3 (by omega)
          | 4, _ => exact arr_eq l4
        · exact ((J4.out.eq (b := pts wr.heap.size (.cells #[.int .i64 x.station, .int .i64 x.what, .int .i64 x.other, .int .i64 x.pieces, .slice Aq x.clock.length cq] 68) + (blk bo (cur.setIfInBounds (oo + t * 5 + 4) (.slice A5 x.clock.length c5)) 68 + (m5 + m2) + F)) (by ac_rfl)).right)
      case measure => have := Hlt.out; simp [intOf]; omega
    · obtain rfl : t = l.length := by omega
      have Ho := hid (show SlR 68 5 EvR l (.slice Ao l.length co) m by
        have e : evMix l l.length = l.map (·, true) := by unfold evMix; simp
        rw [e] at ho
        obtain ⟨ys, ms, mr, h1, h2, rfl⟩ := ho
        rw [List.length_map] at h1
        exact SlR.of h1 (rows_true h2))
      have HHt := hid hHt
      have HEt := hid hEt
      clear ho hHt hEt
      go_wp2
      go_ret
      exact ⟨_, _, m, rfl, Ho.out, HHt.out, HEt.out⟩
end Go.Proofs.Ytnkgfgkgepadhaa

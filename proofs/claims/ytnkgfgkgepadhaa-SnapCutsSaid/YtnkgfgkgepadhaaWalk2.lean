/-
  Walks: parcelled, room, pair; Clone of a row of ints. The walk of 'event': an event of a station is noted.
-/
import Derived.Test.YtnkgfgkgepadhaaOpen
import Derived.Test.YtnkgfgkgepadhaaDraw
import Derived.Deep.AppendLies
namespace Go.Proofs.Ytnkgfgkgepadhaa
open Go.RowKit
set_option linter.unusedVariables false

theorem ret_int {k : IntKind} {a b : Int} (h : a = b) : Ending.returned (.int k a) = .returned (.int k b) := by rw [h]
theorem ret_bool {a b : Bool} (h : a = b) : Ending.returned (.bool a) = .returned (.bool b) := by rw [h]

def parcB (n : Int) : Bool := decide (1 ≤ n ∧ n ≤ 1000000)
theorem parcB_eq (n : Int) : decide (1 ≤ n ∧ n ≤ 1000000) = parcB n := rfl
theorem parcB_yes {n : Int} (h : 1 ≤ n ∧ n ≤ 1000000) : parcB n = true := by simp [parcB, h]
theorem parcB_no {n : Int} (h : ¬ (1 ≤ n ∧ n ≤ 1000000)) : parcB n = false := decide_eq_false h
theorem parcB_range {n : Int} (h : parcB n = true) : 1 ≤ n ∧ n ≤ 1000000 := by simpa [parcB] using h
theorem parcelled_any (n : Int) (w : World) :
    Calls Try.prog 63 #[.int .i64 n] w fun e w' => e = .returned (.bool (parcB n)) ∧ w = w' := by
  rw [← parcB_eq]
  by_cases h1 : 1 ≤ n
  · go_enter Try.func63, Try.ntmps63
    go_wp2
    go_ret
    exact ⟨ret_bool (by simp; omega), rfl⟩
  · have h2 : n < 1 := by omega
    go_enter Try.func63, Try.ntmps63
    go_wp2
    go_ret
    exact ⟨ret_bool (by simp; omega), rfl⟩

def roomErr (n : Nat) : Int := if n < 400 then 0 else 8
/-- The number of events, as 'room' reads it. -/
theorem room_any (b : Nat) (A : Option Addr) (n c : Nat) (w : World) (h : w.cell? ⟨b, 3, none⟩ = some (.slice A n c)) :
    Calls Try.prog 51 #[.pointer (some ⟨b, 0, none⟩)] w fun e w' => e = .returned (.int .i64 (roomErr n)) ∧ w = w' := by
  by_cases h1 : n < 400
  · have h2 : ¬ (400 : Int) ≤ n := by omega
    go_enter Try.func51, Try.ntmps51
    go_wp2
    go_ret
    exact ⟨ret_int (by unfold roomErr; rw [if_pos (by omega)]), rfl⟩
  · have h2 : (400 : Int) ≤ n := by omega
    go_enter Try.func51, Try.ntmps51
    go_wp2
    go_ret
    exact ⟨ret_int (by unfold roomErr; rw [if_neg (by omega)]), rfl⟩

/-- The errors of a channel's ends. -/
def pairErr (n : Nat) (x y : Int) : Int := if (0 ≤ x ∧ x < n) ∧ (0 ≤ y ∧ y < n) ∧ x ≠ y then 0 else 2
theorem pairErr_eq {n : Nat} {x y : Int} (h : (x == y) = true) : pairErr n x y = 2 := by
  unfold pairErr; rw [if_neg]; intro h'; exact h'.2.2 (by simpa using h)
theorem pairErr_ok {n : Nat} {x y : Int} (h1 : 0 ≤ x) (h2 : x < n) (h3 : 0 ≤ y) (h4 : y < n) (h : (x == y) = false) : pairErr n x y = 0 := by
  unfold pairErr; rw [if_pos]; exact ⟨⟨h1, h2⟩, ⟨h3, h4⟩, by simpa using h⟩
theorem pairErr_no {n : Nat} {x y : Int} (h : ¬ ((0 ≤ x ∧ x < n) ∧ (0 ≤ y ∧ y < n))) : pairErr n x y = 2 := by
  unfold pairErr; rw [if_neg]; intro h'; exact h ⟨h'.1, h'.2.1⟩
theorem pair_any (b : Nat) (ad : Addr) (n c : Nat) (w : World) (h : w.cell? ⟨b, 0, none⟩ = some (.slice (some ad) n c)) (x y : Int) :
    Calls Try.prog 50 #[.pointer (some ⟨b, 0, none⟩), .int .i64 x, .int .i64 y] w fun e w' => e = .returned (.int .i64 (pairErr n x y)) ∧ w = w' := by
  go_enter Try.func50, Try.ntmps50
  go_wp2
  all_goals
    go_ret
    refine ⟨ret_int ?_, rfl⟩
    first
    | (symm; exact pairErr_eq (by assumption))
    | (symm; exact pairErr_ok (by assumption) (by assumption) (by assumption) (by assumption) (by assumption))
    | (symm; exact pairErr_no (by omega))
/-- A nil net. -/
theorem pair_nil (x y : Int) (w : World) : Calls Try.prog 50 #[.pointer none, .int .i64 x, .int .i64 y] w fun e w' => e = .returned (.int .i64 1) ∧ w = w' := by
  go_enter Try.func50, Try.ntmps50
  go_wp2
  go_ret
  exact ⟨rfl, rfl⟩
/-- A zero net. -/
theorem pair_zero (b : Nat) (w : World) (h : w.cell? ⟨b, 0, none⟩ = some (.slice none 0 0)) (x y : Int) :
    Calls Try.prog 50 #[.pointer (some ⟨b, 0, none⟩), .int .i64 x, .int .i64 y] w fun e w' => e = .returned (.int .i64 1) ∧ w = w' := by
  go_enter Try.func50, Try.ntmps50
  go_wp2
  go_ret
  exact ⟨rfl, rfl⟩

/-! ### Clone of ints -/
theorem clone_ints (A : Option Addr) (n c : Nat) (l : List Int) (hn : l.length = n) (w : World) (F : MS) (hr : RdInts w A l) (hH : Has w F) (hl : l.length ≤ 1000000) :
    Calls Try.prog 58 #[.slice A n c] w fun e w' => ∃ A' c' m, e = .returned (.slice A' n c') ∧ Ints l (.slice A' n c') m ∧ Has w' (m + F) ∧ Ext w w' := by
  subst hn
  cases A with
  | none =>
    obtain rfl : l = [] := hr.1 rfl
    go_enter Try.func58, Try.ntmps58
    go_wp2
    go_ret
    exact ⟨_, _, 0, rfl, Ints.of (Sl.nil 3 1), (MS.zero_add F).symm ▸ hH, Ext.refl w⟩
  | some ad =>
    go_enter Try.func58, Try.ntmps58
    go_wp2_with (at_builtin; refine wpList_append_sl rfl (.tmp 5) (.tmp 6) 22 rfl 3 _ 1 8 Try.underlying22 info3 rfl _ rfl (some ad) l.length c rfl 0 [] (blk w.heap.size #[] 3) F (Sl.empty _ _ _) (hH.alloc _) (l.map (Value.int .i64)) (by simp) (by simp) (hr.alloc _).2 (ints_one l) (by simp only [maxLen]; omega) (by omega) ?_; intro v' w' m' h1 h2 h3)
    go_ret
    obtain ⟨A', c', rfl, _⟩ := h1.form
    simp only [Nat.zero_add] at h1 ⊢
    exact ⟨_, _, m', rfl, Ints.of (by simpa using h1), h2, (Ext.alloc _ _).trans h3⟩
end Go.Proofs.Ytnkgfgkgepadhaa

namespace Go.Proofs.Ytnkgfgkgepadhaa
open Go.RowKit
set_option linter.unusedVariables false
set_option linter.unusedSimpArgs false

set_option maxHeartbeats 1000000 in
set_option maxRecDepth 100000 in
theorem event_any (Pl F : MS) (σ : Net) (ps : List Nat) (b : Nat) (m : MS) (w : World) (hnet : IsNet Pl σ ps b m) (hH : Has w (m + (Pl + F))) (k : Nat) (hk : k < σ.sta.length) (s : Sta) (hs : σ.sta[k] = s)
    (hkc : k < s.clock.length) (t : Int) (ht : s.clock[k] = t) (what other pieces : Int) (he0 : 0 ≤ s.events) (he1 : s.events < 1000000) (ht0 : 0 ≤ t) (ht1 : t < 1000000) (hcl : s.clock.length ≤ 1000) (hevl : σ.evs.length ≤ 1000) :
    Calls Try.prog 64 #[.pointer (some ⟨b, 0, none⟩), .int .i64 k, .int .i64 what, .int .i64 other, .int .i64 pieces] w fun e w' => e = .returned (.tuple #[]) ∧ ∃ m', Has w' (m' + (Pl + F)) ∧ Ext w w' ∧
      IsNet Pl { σ with sta := σ.sta.set k { s with events := s.events + 1, clock := s.clock.set k (t + 1) }, evs := σ.evs ++ [⟨k, what, other, pieces, s.clock.set k (t + 1)⟩] } ps b m' := by
  obtain ⟨hps, v0, v1, v2, v3, m0, m1, m2, m3, rfl, hst, hch, hsn, hev⟩ := hnet
  obtain ⟨bs, offs, cs, curs, ci, n1, n2, rfl, rfl, ⟨vc, rfl, hclk, hvc1⟩, hcell, hput⟩ := hst.take StaR.len hk
  rw [hs] at *
  obtain ⟨bc, offc, cc, curc, rfl, rfl, hnc, hcc, hputc⟩ := hclk.cells.at_ (by omega)
  obtain ⟨A3, c3, rfl, hA3, hc3, hm3⟩ := hev.form
  obtain ⟨xse, mse, mre, hsl, hrows, rfl⟩ := hev
  generalize hhd : (#[.slice (some ⟨bs, offs, none⟩) σ.sta.length cs, v1, v2, .slice A3 σ.evs.length c3] : Array Value) = hd4 at hH
  have Hhd := hid hhd
  have g0 : hd4[0]? = some (.slice (some ⟨bs, offs, none⟩) σ.sta.length cs) := by rw [← hhd]; rfl
  have g3 : hd4[3]? = some (.slice A3 σ.evs.length c3) := by rw [← hhd]; rfl
  clear hhd
  have H1 : Has w (blk bs curs 107 + (blk b hd4 84 + (blk bc curc 3 + n2) + (m1 + (m2 + (mse + mre))) + (Pl + F))) := hH.eq (by ac_rfl)
  have c0 : w.cell? ⟨b, 0, none⟩ = _ := (hH.eq (b := blk b hd4 84 + (blk bs curs 107 + (blk bc curc 3 + n2) + (m1 + (m2 + (mse + mre))) + (Pl + F))) (by ac_rfl)).at_ g0
  have e1 := hcell 1 (by omega)
  have e2 := hcell 2 (by omega)
  simp only [List.getElem?_cons_succ, List.getElem?_cons_zero] at e1 e2
  have c1 := H1.at_ e1
  have l1 := arr_lt e1
  have ek : curc[offc + k]? = some (.int .i64 t) := by rw [hcc k (by omega)]; simp [hkc, ht]
  go_enter Try.func64, Try.ntmps64
  have lk := arr_lt ek
  go_wp2_with (first
    | (refine wpList_store_blk rfl _ _ 3 rfl size3 bs _ (.int .i64 (s.events + 1)) rfl rfl rfl curs 107 _ H1 l1 ?_
       intro w1 H2 E1
       have H3 : Has w1 (blk bc curc 3 + (blk bs (curs.setIfInBounds (offs + k * 3 + 1) (.int .i64 (s.events + 1))) 107 + (blk b hd4 84 + n2 + (m1 + (m2 + (mse + mre))) + (Pl + F)))) := H2.eq (by ac_rfl)
       have d2 := H2.at_ (arr_ne (x := .int .i64 (s.events + 1)) e2 (by omega))
       have d3 := H3.at_ ek)
    | (refine wpList_store_blk rfl _ _ 3 rfl size3 bc _ (.int .i64 (t + 1)) rfl rfl rfl curc 3 _ H3 lk ?_
       intro w2 H4 E2))
  -- the clock as it is now
  have hclk2 : Ints (s.clock.set k (t + 1)) (.slice (some ⟨bc, offc, none⟩) s.clock.length cc) (blk bc (curc.setIfInBounds (offc + k) (.int .i64 (t + 1))) 3) := by
    refine Ints.of ?_
    have := Sl.set_ (sz := 1) hputc hcc (by simp) (i := k) (by omega) (.int .i64 (t + 1))
    rw [List.map_set, List.length_set]
    exact this
  have f2 : (curs.setIfInBounds (offs + k * 3 + 1) (.int .i64 (s.events + 1)))[offs + k * 3 + 2]? = some (.slice (some ⟨bc, offc, none⟩) s.clock.length cc) := arr_ne e2 (by omega)
  have f1 : (curs.setIfInBounds (offs + k * 3 + 1) (.int .i64 (s.events + 1)))[offs + k * 3 + 1]? = some (.int .i64 (s.events + 1)) := arr_eq l1
  have f0 : (curs.setIfInBounds (offs + k * 3 + 1) (.int .i64 (s.events + 1)))[offs + k * 3 + 0]? = some (.int .i64 s.pieces) := arr_ne (hcell 0 (by omega)) (by omega)
  have hsta2 := hput { s with events := s.events + 1, clock := s.clock.set k (t + 1) } _ _ (curs.setIfInBounds (offs + k * 3 + 1) (.int .i64 (s.events + 1))) ⟨_, rfl, hclk2, rfl⟩ (by simp)
    (fun j hj => by rw [Array.getElem?_setIfInBounds_ne (by omega)]) (fun j hj => by
      match j, hj with
      | 0, _ => exact f0
      | 1, _ => exact f1
      | 2, _ => exact f2)
  generalize curs.setIfInBounds (offs + k * 3 + 1) (.int .i64 (s.events + 1)) = curs2 at *
  generalize curc.setIfInBounds (offc + k) (.int .i64 (t + 1)) = curc2 at *
  -- what the last statement reads
  have keep : ∀ (W : World) (X : MS), Has W (X + (blk b hd4 84 + (blk bs curs2 107 + (blk bc curc2 3 + n2)) + (m1 + (m2 + (mse + mre))) + (Pl + F))) → W.cell? ⟨b, 3, none⟩ = some (.slice A3 σ.evs.length c3) ∧ W.cell? ⟨bs, offs + k * 3 + 2, none⟩ = some (.slice (some ⟨bc, offc, none⟩) s.clock.length cc) := fun W X h =>
    ⟨(h.eq (b := blk b hd4 84 + (X + ((blk bs curs2 107 + (blk bc curc2 3 + n2)) + (m1 + (m2 + (mse + mre))) + (Pl + F)))) (by ac_rfl)).at_ g3, (h.eq (b := blk bs curs2 107 + (X + (blk b hd4 84 + ((blk bc curc2 3 + n2)) + (m1 + (m2 + (mse + mre))) + (Pl + F)))) (by ac_rfl)).at_ f2⟩
  have H5 : Has w2.drew (0 + (blk b hd4 84 + (blk bs curs2 107 + (blk bc curc2 3 + n2)) + (m1 + (m2 + (mse + mre))) + (Pl + F))) := by rw [MS.zero_add]; exact H4.drew.eq (by ac_rfl)
  have hS := keep _ _ H5
  refine wp_region_txt (fun W => W.cell? ⟨b, 3, none⟩ = some (.slice A3 σ.evs.length c3) ∧ W.cell? ⟨bs, offs + k * 3 + 2, none⟩ = some (.slice (some ⟨bc, offc, none⟩) s.clock.length cc)) (some 19)
    [(0, true), (1, true), (2, true), (3, true), (4, true), (5, true), (6, true), (7, true), (8, true), (9, true), (10, true), (11, true), (12, true), (13, false), (14, true), (15, false), (16, false), (17, true), (18, true), (19, false)]
    (by kernel_rfl) rfl (by kernel_rfl) (by kernel_rfl) (by repeat (first | exact PanicOk.body _ _ _ | refine PanicOk.thn ?_ | refine PanicOk.blk ?_)) ?_
  have Hkeep := hid keep
  have Hsta2 := hid hsta2
  have Hhput := hid hput
  clear keep hsta2 hput hputc
  repeat
    (refine txt_quiet ?_ hS rfl rfl (fun W hW => ?_) ?_
     rotate_left 1
     · obtain ⟨hW1, hW2⟩ := hW
       go_simp
       exact rfl
     simp only [Act.put, List.setIfInBounds_toArray, List.set_cons_zero, List.set_cons_succ])
  refine txt_op rfl rfl ?_
  have hrd : RdInts w2.drew (some ⟨bc, offc, none⟩) (s.clock.set k (t + 1)) := by
    obtain ⟨A, c, h1, h2, _⟩ := hclk2.rd (w := w2.drew) (F := blk b hd4 84 + (blk bs curs2 107 + n2) + (m1 + (m2 + (mse + mre))) + (Pl + F)) (H5.eq (by rw [MS.zero_add]; ac_rfl))
    injection h1 with h1
    rw [h1]
    exact h2
  refine op_call 58 _ _ (by go_simp) _ (clone_ints (some ⟨bc, offc, none⟩) s.clock.length cc (s.clock.set k (t + 1)) (by simp) w2.drew _ hrd H5 (by simp; omega)) ?_
  rintro e w3 ⟨Aq, cq, mq, rfl, hq, H6, E3⟩
  refine ⟨_, rfl, ?_⟩
  rw [MS.zero_add] at H6
  have hS3 := Hkeep.out _ _ H6
  refine ⟨fun _ => hS3, ?_⟩
  try simp only [Act.put, List.setIfInBounds_toArray, List.set_cons_zero, List.set_cons_succ]
  clear hS
  repeat
    (refine txt_quiet ?_ hS3 rfl rfl (fun W hW => ?_) ?_
     rotate_left 1
     · obtain ⟨hW1, hW2⟩ := hW
       go_simp
       exact rfl
     simp only [Act.put, List.setIfInBounds_toArray, List.set_cons_zero, List.set_cons_succ])
  -- the row for append
  refine txt_op rfl rfl ?_
  refine op_run (.slice (some ⟨w3.heap.size, 0, none⟩) 1 1) (w3.alloc (.cells #[.int .i64 k, .int .i64 what, .int .i64 other, .int .i64 pieces, .slice Aq s.clock.length cq] 68)) (by go_simp) ?_
  have H7 := H6.alloc (.cells #[.int .i64 k, .int .i64 what, .int .i64 other, .int .i64 pieces, .slice Aq s.clock.length cq] 68)
  have hS4 := Hkeep.out _ (pts w3.heap.size (.cells #[.int .i64 k, .int .i64 what, .int .i64 other, .int .i64 pieces, .slice Aq s.clock.length cq] 68) + mq) (H7.eq (by ac_rfl))
  refine ⟨fun _ => hS4, ?_⟩
  try simp only [Act.put, List.setIfInBounds_toArray, List.set_cons_zero, List.set_cons_succ]
  clear hS3
  -- the append
  refine txt_op rfl rfl ?_
  refine op_append_sl (.tmp 37) (.tmp 48) 32 rfl 68 _ 5 56 Try.underlying32 info68 rfl (.slice A3 σ.evs.length c3) rfl (some ⟨w3.heap.size, 0, none⟩) 1 1 rfl σ.evs.length xse mse _ hsl (H7.right.eq (b := mse + (mq + (blk b hd4 84 + (blk bs curs2 107 + (blk bc curc2 3 + n2)) + (m1 + (m2 + mre)) + (Pl + F)))) (by ac_rfl))
    [.int .i64 k, .int .i64 what, .int .i64 other, .int .i64 pieces, .slice Aq s.clock.length cq] rfl (by simp) (fun a ha => by injection ha with ha; subst ha; exact World.news_of_block (heap_alloc_new _ _)) (by simp [Value.oneCell']) (by simp only [maxLen]; omega) (by omega) ?_
  intro v4 w4 m4 h41 H8 E4
  obtain ⟨A4, c4, rfl, hA4, hc4, hm4⟩ := h41.form
  have H8' : Has w4 (blk b hd4 84 + ((blk bs curs2 107 + (blk bc curc2 3 + n2)) + (m1 + (m2 + (m4 + (mre + mq)))) + (Pl + F))) := H8.eq (by ac_rfl)
  have hS5 : w4.cell? ⟨b, 3, none⟩ = some (.slice A3 σ.evs.length c3) ∧ w4.cell? ⟨bs, offs + k * 3 + 2, none⟩ = some (.slice (some ⟨bc, offc, none⟩) s.clock.length cc) := ⟨H8'.at_ g3, (H8'.eq (b := blk bs curs2 107 + (blk b hd4 84 + ((blk bc curc2 3 + n2) + (m1 + (m2 + (m4 + (mre + mq)))) + (Pl + F)))) (by ac_rfl)).at_ f2⟩
  refine ⟨fun _ => hS5, ?_⟩
  try simp only [Act.put, List.setIfInBounds_toArray, List.set_cons_zero, List.set_cons_succ]
  clear hS4
  repeat
    (refine txt_quiet ?_ hS5 rfl rfl (fun W hW => ?_) ?_
     rotate_left 1
     · obtain ⟨hW1, hW2⟩ := hW
       go_simp
       exact rfl
     simp only [Act.put, List.setIfInBounds_toArray, List.set_cons_zero, List.set_cons_succ])
  -- the store
  refine txt_op rfl rfl ?_
  refine op_store_blk (.tmp 51) (.tmp 49) 32 rfl size32 b 3 (.slice A4 (σ.evs.length + 1) c4) rfl rfl rfl hd4 84 _ H8' (arr_lt g3) ?_
  intro w5 H9 E5
  refine ⟨fun h => absurd rfl h, ?_⟩
  simp only [Act.put]
  refine txt_done ?_
  go_end0
  have harr : hd4.setIfInBounds 3 (.slice A4 (σ.evs.length + 1) c4) = #[.slice (some ⟨bs, offs, none⟩) σ.sta.length cs, v1, v2, .slice A4 (σ.evs.length + 1) c4] := by rw [← Hhd.out]; rfl
  rw [harr] at H9
  have hev2 : SlR 68 5 EvR (σ.evs ++ [⟨k, what, other, pieces, s.clock.set k (t + 1)⟩]) (.slice A4 (σ.evs.length + 1) c4) (m4 + (mre + mq)) :=
    SlR.of (by simpa using h41) (hrows.append (RowsR.one ⟨_, rfl, hq, rfl⟩))
  exact ⟨rfl, _, H9.eq (MS.add_assoc _ _ _).symm |>.eq (by ac_rfl), ((((E1.trans E2).trans (Ext.drew _)).trans (E3.trans (Ext.alloc _ _))).trans E4).trans E5, hps, _, _, _, _, _, _, _, _, rfl, Hsta2.out, hch, hsn, hev2⟩
end Go.Proofs.Ytnkgfgkgepadhaa

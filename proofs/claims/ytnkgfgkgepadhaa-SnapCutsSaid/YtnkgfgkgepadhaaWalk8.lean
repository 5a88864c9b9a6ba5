/-
  The walk of Receive.
-/
import Derived.Test.YtnkgfgkgepadhaaWalk7
namespace Go.Proofs.Ytnkgfgkgepadhaa
open Go.RowKit
set_option linter.unusedVariables false
set_option linter.unusedSimpArgs false

@[go_sem] theorem as96 (v : Value) (w : World) : (Instr.typeAssert (.iface 96 v) 94 96 true).run Try.prog w = .ok (.tuple #[v, .bool true]) w := by
  simp [Instr.typeAssert, run_underlying Try.underlying96]
theorem zero96 : (Try.prog.info? 96).map (·.zero) = some (some (.agg #[.int .i64 0, .slice none 0 0])) := by kernel_rfl
@[go_sem] theorem as96no (v : Value) (w : World) : (Instr.typeAssert (.iface 99 v) 94 96 true).run Try.prog w = .ok (.tuple #[.agg #[.int .i64 0, .slice none 0 0], .bool false]) w := by
  obtain ⟨i, hi, hz⟩ := Option.map_eq_some_iff.1 zero96
  simp [Instr.typeAssert, run_underlying Try.underlying96, zeroValue, typeInfo, hi, hz]
@[go_sem] theorem as99 (v : Value) (w : World) : (Instr.typeAssert (.iface 99 v) 94 99 true).run Try.prog w = .ok (.tuple #[v, .bool true]) w := by
  simp [Instr.typeAssert, run_underlying Try.underlying99]
/-- Where a row's rest begins: 'l[1:]' of a row of capacity 1 keeps its address. -/
def restOff (c off : Nat) : Nat := if c = 1 then off else off + 1
theorem slice_rest (t e : TypeId) (ht : Try.prog.underlying t = some (.slice e)) (hz : (Try.prog.info? e).map (·.size) = some 1) (bl off n c : Nat) (w : World) :
    (Instr.sliceAt t (.slice (some ⟨bl, off, none⟩) (n + 1) c) (some (.int .i64 1)) none none).run Try.prog w = .ok (.slice (some ⟨bl, restOff c off, none⟩) n (c - 1)) w := by
  obtain ⟨i, hi, hz'⟩ := Option.map_eq_some_iff.1 hz
  have hs : (sizeOf e).run Try.prog w = .ok 1 w := by simp [sizeOf, typeInfo, hi, hz']
  by_cases h : c = 1
  · subst h
    simp [Instr.sliceAt, run_underlying ht, Instr.slice, Instr.sliceBounds, Instr.sliceBound, hs, restOff, asIntOf, (by omega : (1 : Int) ≤ ↑n + 1)]
  · simp [Instr.sliceAt, run_underlying ht, Instr.slice, Instr.sliceBounds, Instr.sliceBound, hs, restOff, asIntOf, h, Addr.add, (by omega : (1 : Int) ≤ ↑n + 1)]
@[go_sem] theorem slice91 (bl off n c : Nat) (w : World) :
    (Instr.sliceAt 91 (.slice (some ⟨bl, off, none⟩) (n + 1) c) (some (.int .i64 1)) none none).run Try.prog w = .ok (.slice (some ⟨bl, restOff c off, none⟩) n (c - 1)) w := slice_rest 91 94 Try.underlying91 (by kernel_rfl) bl off n c w
theorem run_slice91 {a : Act} {dst : Option Tmp} {x lo : Operand} {ty : TypeId} {pos : String} {af : Array Edge} {g : Option (Nat × Bool)} {v : Value} {W : World} (h : (Instr.sliceAt 91 (a.eval x) (some (a.eval lo)) none none).run Try.prog W = .ok v W) :
    (execOp a.eval { dst := dst, op := .slice 91 x (some lo) none none, type := ty, pos := pos, after := af, guard := g }).run Try.prog W = .ok (.value v) W := by
  simp only [execOp, Option.map, Sem.run_bind, h, Result.andThen, Sem.run_pure]
/-- The first message of a channel goes. -/
def Net.drop (σ : Net) (i j : Nat) : Net :=
  match σ.chan[i]? with
  | some r => { σ with chan := σ.chan.set i (r.set j ((r.getD j []).drop 1)) }
  | none => σ
def Net.lineAt (σ : Net) (i j : Nat) : List Msg := (σ.chan.getD i []).getD j []
def Net.recv (σ : Net) (x y : Int) : Int × Net :=
  if pairErr σ.sta.length x y ≠ 0 then (2, σ)
  else match σ.lineAt x.toNat y.toNat with
    | [] => (6, σ)
    | m :: _ =>
      if 0 < m.told then (if 400 ≤ σ.evs.length then (8, σ) else (0, (σ.drop x.toNat y.toNat).take x.toNat y.toNat m))
      else (0, (σ.drop x.toNat y.toNat).heard x.toNat y.toNat (-m.told - 1).toNat)

theorem NetOk.drop {σ : Net} (h : NetOk σ) (i j : Nat) : NetOk (σ.drop i j) := by
  unfold Net.drop
  split
  case h_2 => exact h
  case h_1 r hr =>
    have hr' := List.mem_of_getElem? hr
    have hsub : ∀ l ∈ r.set j ((r.getD j []).drop 1), l ∈ r ∨ ∃ l0 ∈ r, l = l0.drop 1 := by
      intro l hl
      rcases List.mem_or_eq_of_mem_set hl with h' | h'
      · exact .inl h'
      · by_cases hj : j < r.length
        · exact .inr ⟨r[j], List.getElem_mem hj, by rw [h']; simp [hj]⟩
        · rw [List.set_eq_of_length_le (by omega)] at hl; exact .inl hl
    refine ⟨h.n2, h.n5, by simpa using h.rows, ?_, h.evs, h.shots, h.sta, ?_, ?_, h.shot⟩
    · intro q hq
      rcases List.mem_or_eq_of_mem_set hq with h' | rfl
      · exact h.cols q h'
      · rw [List.length_set]; exact h.cols r hr'
    · intro k q l hq hl
      by_cases hik : i = k
      · subst hik
        rw [List.getElem?_set_self (List.getElem?_eq_some_iff.1 hr).1] at hq
        injection hq with hq
        subst hq
        rcases hsub l hl with h' | ⟨l0, h', rfl⟩
        · exact h.line i r l hr h'
        · have := h.line i r l0 hr h'
          have h3 : (List.drop 1 l0).length ≤ l0.length := by simp
          exact Nat.le_trans h3 this
      · rw [List.getElem?_set_ne hik] at hq
        exact h.line k q l hq hl
    · intro q hq l hl x hx
      rcases List.mem_or_eq_of_mem_set hq with h' | rfl
      · exact h.msg q h' l hl x hx
      · rcases hsub l hl with h' | ⟨l0, h', rfl⟩
        · exact h.msg r hr' l h' x hx
        · exact h.msg r hr' l0 h' x (List.mem_of_mem_drop hx)

theorem rows_msgs {Pl : MS} : ∀ {l : List Msg} {cs : List Value} {m : MS}, RowsR (El (MsgV Pl)) l cs m → m = 0 ∧ cs.length = l.length
  | [], _, _, h => by obtain ⟨rfl, rfl⟩ := h; exact ⟨rfl, rfl⟩
  | _ :: l, _, _, h => by
    obtain ⟨c1, m1, c2, m2, ⟨v, rfl, ⟨rfl, _⟩, _⟩, h2, rfl, rfl⟩ := h
    obtain ⟨rfl, h3⟩ := rows_msgs h2
    exact ⟨MS.zero_add 0, by simp [h3]⟩
theorem Line.uncons {Pl : MS} {x : Msg} {l : List Msg} {v : Value} {m : MS} (h : Line Pl (x :: l) v m) :
    ∃ bl off c cur u, v = .slice (some ⟨bl, off, none⟩) (l.length + 1) c ∧ l.length + 1 ≤ c ∧ c ≤ maxLen ∧ m = blk bl cur 94 ∧ cur[off]? = some u ∧ MsgV Pl x u 0 ∧ Line Pl l (.slice (some ⟨bl, restOff c off, none⟩) l.length (c - 1)) (blk bl cur 94) := by
  obtain ⟨xs, ms, mr, h1, h2, rfl⟩ := h
  obtain ⟨rfl, _⟩ := rows_msgs h2
  obtain ⟨c1, m1, c2, m2, ⟨u, rfl, hu, _⟩, h4, rfl, hmm⟩ := h2
  obtain ⟨rfl, hl2⟩ := rows_msgs h4
  rw [MS.add_zero] at hmm
  subst hmm
  rcases h1 with ⟨hl, ⟨_, h0, _⟩ | ⟨bl, off, c, cur, rfl, rfl, k1, k2, k3, k4⟩⟩
  · simp at h0
  · simp only [List.length_cons, Nat.mul_one] at k1 k3 k4
    refine ⟨bl, off, c, cur, u, rfl, k1, k2, MS.add_zero _, by have := k4 0 (by omega); simpa using this, hu, c2, blk bl cur 94, 0, ⟨by simp [hl2], .inr ⟨bl, restOff c off, c - 1, cur, rfl, rfl, by omega, by omega, by unfold restOff; split <;> omega, fun j hj => ?_⟩⟩, h4, (MS.add_zero _).symm⟩
    have := k4 (j + 1) (by omega)
    unfold restOff
    rw [if_neg (by omega), show off + 1 + j = off + (j + 1) by omega, this]
    simp

/-- The first message is taken off: what is read, what is written. -/
theorem IsNet.popping {Pl : MS} {σ : Net} {ps : List Nat} {b : Nat} {m : MS} (h : IsNet Pl σ ps b m) {i j : Nat} {r : List (List Msg)} {x : Msg} {l : List Msg} (hr : σ.chan[i]? = some r) (hl : r[j]? = some (x :: l)) :
    ∃ b1 o1 c1 b2 o2 c2 cur2 bl off c u G, m = blk b2 cur2 91 + G ∧ l.length + 1 ≤ c ∧ c ≤ maxLen ∧ cur2[o2 + j]? = some (.slice (some ⟨bl, off, none⟩) (l.length + 1) c) ∧ MsgV Pl x u 0 ∧
      (∀ W Y X Z, Has W (X + (blk b2 Y 91 + G) + Z) → W.cell? ⟨b, 1, none⟩ = some (.slice (some ⟨b1, o1, none⟩) σ.chan.length c1) ∧ W.cell? ⟨b1, o1 + i, none⟩ = some (.slice (some ⟨b2, o2, none⟩) r.length c2) ∧ W.cell? ⟨bl, off, none⟩ = some u) ∧
      IsNet Pl (σ.drop i j) ps b (blk b2 (cur2.setIfInBounds (o2 + j) (.slice (some ⟨bl, restOff c off, none⟩) l.length (c - 1))) 91 + G) := by
  obtain ⟨hd, b1, o1, c1, cur1, b2, o2, c2, cur2, v, mq, v0, m0, R, rfl, h0, hst, h1, e1, e2, hline, hput⟩ := h.line hr hl
  obtain ⟨bl, off, c, cur, u, rfl, k1, k2, rfl, k3, k4, k5⟩ := Line.uncons hline
  have hn := hput 0 l _ _ (by rw [MS.zero_add]; exact k5)
  rw [MS.zero_add] at hn
  refine ⟨b1, o1, c1, b2, o2, c2, cur2, bl, off, c, u, blk b hd 84 + (blk b1 cur1 92 + (blk bl cur 94 + (m0 + R))), by ac_rfl, k1, k2, e2, k4, fun W Y X Z hW => ⟨?_, ?_, ?_⟩, ?_⟩
  · exact (hW.eq (b := blk b hd 84 + (X + (blk b2 Y 91 + (blk b1 cur1 92 + (blk bl cur 94 + (m0 + R)))) + Z)) (by ac_rfl)).at_ h1
  · exact (hW.eq (b := blk b1 cur1 92 + (X + (blk b2 Y 91 + (blk b hd 84 + (blk bl cur 94 + (m0 + R)))) + Z)) (by ac_rfl)).at_ e1
  · exact (hW.eq (b := blk bl cur 94 + (X + (blk b2 Y 91 + (blk b hd 84 + (blk b1 cur1 92 + (m0 + R)))) + Z)) (by ac_rfl)).at_ k3
  · have hσ : σ.drop i j = { σ with chan := σ.chan.set i (r.set j l) } := by simp [Net.drop, hr, List.getD, hl]
    rw [hσ]
    have e : blk b2 (cur2.setIfInBounds (o2 + j) (.slice (some ⟨bl, restOff c off, none⟩) l.length (c - 1))) 91 + (blk b hd 84 + (blk b1 cur1 92 + (blk bl cur 94 + (m0 + R)))) =
        blk b hd 84 + (blk b1 cur1 92 + (blk b2 (cur2.setIfInBounds (o2 + j) (.slice (some ⟨bl, restOff c off, none⟩) l.length (c - 1))) 91 + (blk bl cur 94 + (m0 + R)))) := by ac_rfl
    rw [e]
    exact hn

set_option maxHeartbeats 2000000 in
set_option maxRecDepth 100000 in
theorem recv_any (Pl F : MS) (σ : Net) (ps : List Nat) (b : Nat) (m : MS) (w : World) (hok : NetOk σ) (hnet : IsNet Pl σ ps b m) (hH : Has w (m + (Pl + F))) (x y : Int) :
    Calls Try.prog 16 #[.pointer (some ⟨b, 0, none⟩), .int .i64 x, .int .i64 y] w fun e w' => e = .returned (.int .i64 (σ.recv x y).1) ∧ ∃ m', Has w' (m' + (Pl + F)) ∧ Ext w w' ∧ IsNet Pl (σ.recv x y).2 ps b m' := by
  obtain ⟨hd, R, hm, _, ⟨A0, c0, h0, hn0, _⟩, _, _, ⟨A3, c3, h3, _, _⟩⟩ := hnet.heads
  have hn2 := hok.n2
  cases A0 with
  | none => exact absurd (hn0 rfl) (by omega)
  | some ad =>
  clear hn0
  have f0 : w.cell? ⟨b, 0, none⟩ = some (.slice (some ad) σ.sta.length c0) := (hH.eq (b := blk b hd 84 + (R + (Pl + F))) (by rw [hm]; ac_rfl)).at_ h0
  have f3 : ∀ W X, Has W (X + (m + (Pl + F))) → W.cell? ⟨b, 3, none⟩ = some (.slice A3 σ.evs.length c3) := fun W X h => (h.eq (b := blk b hd 84 + (X + R + (Pl + F))) (by rw [hm]; ac_rfl)).at_ h3
  have hpost : ∃ m', Has w (m' + (Pl + F)) ∧ Ext w w ∧ IsNet Pl σ ps b m' := ⟨m, hH, Ext.refl w, hnet⟩
  have HPo := hid hpost
  have HF3 := hid f3
  clear hpost h0 h3 hm f3
  by_cases h1 : pairErr σ.sta.length x y ≠ 0
  · have h1' : pairErr σ.sta.length x y = 2 := by unfold pairErr at h1 ⊢; split at h1 <;> simp_all
    have e : σ.recv x y = (2, σ) := by unfold Net.recv; rw [if_pos h1]
    rw [e]
    clear h1 e hok hnet hH
    go_enter Try.func16, Try.ntmps16
    go_wp2_with (go_at_call 50; refine (pair_any b ad σ.sta.length c0 _ f0 x y).mono ?_; rintro e w' ⟨rfl, rfl⟩; rw [h1'])
    go_ret
    exact ⟨rfl, HPo.out⟩
  · have h1' : pairErr σ.sta.length x y = 0 := by simpa using h1
    have hxy : (0 ≤ x ∧ x < σ.sta.length) ∧ (0 ≤ y ∧ y < σ.sta.length) ∧ x ≠ y := by
      unfold pairErr at h1'
      split at h1'
      · assumption
      · cases h1'
    obtain ⟨⟨g1, g2⟩, ⟨g3, g4⟩, g5⟩ := hxy
    obtain ⟨i, rfl⟩ := Int.eq_ofNat_of_zero_le g1
    obtain ⟨j, rfl⟩ := Int.eq_ofNat_of_zero_le g3
    have hi : i < σ.sta.length := by omega
    have hj : j < σ.sta.length := by omega
    obtain ⟨r, hr⟩ : ∃ r, σ.chan[i]? = some r := ⟨_, List.getElem?_eq_getElem (by rw [hok.rows]; exact hi)⟩
    have hrl := hok.cols r (List.mem_of_getElem? hr)
    obtain ⟨l, hl⟩ : ∃ l, r[j]? = some l := ⟨_, List.getElem?_eq_getElem (by rw [hrl]; exact hj)⟩
    have hla : σ.lineAt i j = l := by simp [Net.lineAt, List.getD, hr, hl]
    have hri : (i : Int) < σ.chan.length := by rw [hok.rows]; omega
    have hrj : (j : Int) < r.length := by rw [hrl]; omega
    cases l with
    | nil =>
      have e : σ.recv i j = (6, σ) := by unfold Net.recv; rw [if_neg h1]; simp only [Int.toNat_natCast, hla]
      rw [e]
      obtain ⟨hd, b1, o1, c1, cur1, b2, o2, c2, cur2, v, mq, v0, m0, R2, hm2, _, _, k1, k2, k3, hline, _⟩ := hnet.line hr hl
      obtain ⟨Al, cl, rfl, _⟩ := SlR.form hline
      have q1 : w.cell? ⟨b, 1, none⟩ = some (.slice (some ⟨b1, o1, none⟩) σ.chan.length c1) := (hH.eq (b := blk b hd 84 + (blk b1 cur1 92 + (blk b2 cur2 91 + (mq + (m0 + R2))) + (Pl + F))) (by rw [hm2]; ac_rfl)).at_ k1
      have q2 : w.cell? ⟨b1, o1 + i, none⟩ = some (.slice (some ⟨b2, o2, none⟩) r.length c2) := (hH.eq (b := blk b1 cur1 92 + (blk b hd 84 + (blk b2 cur2 91 + (mq + (m0 + R2))) + (Pl + F))) (by rw [hm2]; ac_rfl)).at_ k2
      have q3 : w.cell? ⟨b2, o2 + j, none⟩ = some (.slice Al 0 cl) := (hH.eq (b := blk b2 cur2 91 + (blk b hd 84 + (blk b1 cur1 92 + (mq + (m0 + R2))) + (Pl + F))) (by rw [hm2]; ac_rfl)).at_ k3
      clear e h1 hok hnet hH hm2 k1 k2 k3 hline hr hl hrl hla
      go_enter Try.func16, Try.ntmps16
      go_wp2_with (go_at_call 50; refine (pair_any b ad σ.sta.length c0 _ f0 i j).mono ?_; rintro e w' ⟨rfl, rfl⟩; rw [h1'])
      go_ret
      exact ⟨rfl, HPo.out⟩
    | cons z l =>
      obtain ⟨b1, o1, c1, b2, o2, c2, cur2, bl, off, c, u, G, hm2, k1, k2, k3, hu, hf, hn⟩ := hnet.popping hr hl
      have hlb : l.length + 1 ≤ 408 := by
        have h2 := hok.line i r _ hr (List.mem_of_getElem? hl)
        have h3 : (σ.shots.countP fun x => x.recorded.getD i false) ≤ 8 := Nat.le_trans List.countP_le_length hok.shots
        have h4 := hok.evs
        simp only [List.length_cons] at h2
        omega
      obtain ⟨_, ⟨hz, vc, mc, Pr, rfl, hvc, hPl⟩ | ⟨hz, rfl, hzc⟩⟩ := hu
      · -- a parcel
        obtain ⟨Ac, cc, rfl, _⟩ := (Ints.cells hvc).form
        obtain ⟨q1, q2, q3⟩ := hf w _ 0 _ (hH.eq (b := 0 + (blk b2 cur2 91 + G) + (Pl + F)) (by rw [hm2, MS.zero_add]))
        have q4 : w.cell? ⟨b2, o2 + j, none⟩ = _ := (hH.eq (b := blk b2 cur2 91 + (G + (Pl + F))) (by rw [hm2]; ac_rfl)).at_ k3
        by_cases he : 400 ≤ σ.evs.length
        · have e : σ.recv i j = (8, σ) := by unfold Net.recv; rw [if_neg h1]; simp only [Int.toNat_natCast, hla]; rw [if_pos hz, if_pos he]
          rw [e]
          have hre : roomErr σ.evs.length = 8 := by unfold roomErr; rw [if_neg (by omega)]
          have H2 := hH.alloc (.cells #[.int .i64 z.told, .slice Ac z.clock.length cc] 96)
          have f3 := HF3.out _ _ H2
          have HH := hid (⟨m, H2.right, Ext.alloc _ _, hnet⟩ : ∃ m', Has (w.alloc (.cells #[.int .i64 z.told, .slice Ac z.clock.length cc] 96)) (m' + (Pl + F)) ∧ Ext w (w.alloc (.cells #[.int .i64 z.told, .slice Ac z.clock.length cc] 96)) ∧ IsNet Pl σ ps b m')
          clear e h1 he hok hnet hH hm2 hf hn hvc hPl hr hl hrl hla k3 H2
          go_enter Try.func16, Try.ntmps16
          go_wp2_with (first
            | (go_at_call 50; refine (pair_any b ad σ.sta.length c0 _ f0 i j).mono ?_; rintro e w' ⟨rfl, rfl⟩; rw [h1'])
            | (go_at_call 51; refine (room_any b A3 σ.evs.length c3 _ f3).mono ?_; rintro e w' ⟨rfl, rfl⟩; rw [hre]))
          go_ret
          exact ⟨rfl, HH.out⟩
        · have e : σ.recv i j = (0, (σ.drop i j).take i j z) := by unfold Net.recv; rw [if_neg h1]; simp only [Int.toNat_natCast, hla]; rw [if_pos hz, if_neg he]
          rw [e]
          obtain ⟨σf, hσf⟩ : ∃ σf, σf = (σ.drop i j).take i j z := ⟨_, rfl⟩
          rw [← hσf]
          have Hσf := hid hσf
          clear hσf
          have hre : roomErr σ.evs.length = 0 := by unfold roomErr; rw [if_pos (by omega)]
          have H2 := hH.alloc (.cells #[.int .i64 z.told, .slice Ac z.clock.length cc] 96)
          have f3 := HF3.out _ _ H2
          have H3 : Has (w.alloc (.cells #[.int .i64 z.told, .slice Ac z.clock.length cc] 96)).drew (blk w.heap.size #[.int .i64 z.told, .slice Ac z.clock.length cc] 96 + (blk b2 cur2 91 + G) + (Pl + F)) := (H2.eq (by rw [hm2]; show pts _ _ + _ = _ ; unfold blk; ac_rfl)).drew
          obtain ⟨t1, t2, t3⟩ := hf _ _ _ _ H3
          have HH3 := hid H3
          have hdrop : (σ.drop i j).sta.length = σ.sta.length ∧ (σ.drop i j).evs.length = σ.evs.length := by unfold Net.drop; rw [hr]; exact ⟨rfl, rfl⟩
          obtain ⟨m1, m2, m3, m4⟩ : 0 < z.told ∧ z.told ≤ 1000000 ∧ z.clock.length = σ.sta.length ∧ ∀ t ∈ z.clock, 0 ≤ t ∧ t ≤ σ.evs.length := by
            rcases hok.msg r (List.mem_of_getElem? hr) _ (List.mem_of_getElem? hl) z (by simp) with h | h
            · exact h
            · exact absurd h.1 (by omega)
          have htake : ∀ W, Has W (blk b2 (cur2.setIfInBounds (o2 + j) (.slice (some ⟨bl, restOff c off, none⟩) l.length (c - 1))) 91 + G + (Pl + (blk w.heap.size #[.int .i64 z.told, .slice Ac z.clock.length cc] 96 + F))) → _ := fun W HW =>
            take_any Pl _ (σ.drop i j) ps b _ W (hok.drop i j) hn HW i j (by rw [hdrop.1]; exact hi) (by rw [hdrop.1]; exact hj) z m1 m2 (by rw [hdrop.1]; exact m3) (fun t ht => by rw [hdrop.2]; exact m4 t ht) (by rw [hdrop.2]; omega) _ mc Pr hvc hPl
          have Htake := hid htake
          have Hf := hid hf
          have HK3 := hid k3
          have hc1 : (l.length : Int) + 1 ≤ c := by omega
          have hc2 : (1 : Int) ≤ c := by omega
          clear e h1 he hok hnet hH hm2 hf hn hvc hPl hr hl hrl hla k3 H2 H3 hdrop m3 m4 htake
          go_enter Try.func16, Try.ntmps16
          go_wp2_with (first
            | (go_at_call 50; refine (pair_any b ad σ.sta.length c0 _ f0 i j).mono ?_; rintro e w' ⟨rfl, rfl⟩; rw [h1'])
            | (go_at_call 51; refine (room_any b A3 σ.evs.length c3 _ f3).mono ?_; rintro e w' ⟨rfl, rfl⟩; rw [hre]))
          have hS := And.intro t1 t2
          refine wp_region_txt (fun W => W.cell? ⟨b, 1, none⟩ = some (.slice (some ⟨b1, o1, none⟩) σ.chan.length c1) ∧ W.cell? ⟨b1, o1 + i, none⟩ = some (.slice (some ⟨b2, o2, none⟩) r.length c2)) (some 11)
            [(0, true), (1, true), (2, true), (3, true), (4, true), (5, true), (6, true), (7, true), (8, true), (9, true), (10, true), (11, false)]
            (by kernel_rfl) rfl (by kernel_rfl) (by kernel_rfl) (by repeat (first | exact PanicOk.body _ _ _ | refine PanicOk.thn ?_ | refine PanicOk.blk ?_)) ?_
          repeat
            (refine txt_quiet ?_ hS rfl rfl (fun W hW => ?_) ?_
             rotate_left 1
             · obtain ⟨hW1, hW2⟩ := hW
               go_simp
               exact rfl
             simp only [Act.put, List.setIfInBounds_toArray, List.set_cons_zero, List.set_cons_succ])
          refine txt_quiet (.slice (some ⟨bl, restOff c off, none⟩) l.length (c - 1)) hS rfl rfl (fun W hW => ?_) ?_
          · exact run_slice91 (slice91 bl off l.length c W)
          simp only [Act.put, List.setIfInBounds_toArray, List.set_cons_zero, List.set_cons_succ]
          repeat
            (refine txt_quiet ?_ hS rfl rfl (fun W hW => ?_) ?_
             rotate_left 1
             · obtain ⟨hW1, hW2⟩ := hW
               go_simp
               exact rfl
             simp only [Act.put, List.setIfInBounds_toArray, List.set_cons_zero, List.set_cons_succ])
          refine txt_op rfl rfl ?_
          refine op_store_blk (.tmp 53) (.tmp 52) 91 rfl size91 b2 (o2 + j) (.slice (some ⟨bl, restOff c off, none⟩) l.length (c - 1)) rfl rfl rfl cur2 91 _ (HH3.out.eq (b := blk b2 cur2 91 + (blk w.heap.size #[.int .i64 z.told, .slice Ac z.clock.length cc] 96 + G + (Pl + F))) (by ac_rfl)) (arr_lt HK3.out) ?_
          intro w4 H4 E4
          refine ⟨fun h => absurd rfl h, ?_⟩
          simp only [Act.put]
          refine txt_done ?_
          clear hS
          have HT := Htake.out w4 (H4.eq (by ac_rfl))
          have HT' := hid HT
          have HE := hid (((Ext.alloc w (.cells #[.int .i64 z.told, .slice Ac z.clock.length cc] 96)).trans (Ext.drew _)).trans E4)
          have g1 : w4.cell? ⟨w.heap.size, 0, none⟩ = some (.int .i64 z.told) := (H4.eq (b := blk w.heap.size #[.int .i64 z.told, .slice Ac z.clock.length cc] 96 + (blk b2 (cur2.setIfInBounds (o2 + j) (.slice (some ⟨bl, restOff c off, none⟩) l.length (c - 1))) 91 + (G + (Pl + F)))) (by ac_rfl)).at_ rfl
          have g2 : w4.cell? ⟨w.heap.size, 1, none⟩ = some (.slice Ac z.clock.length cc) := (H4.eq (b := blk w.heap.size #[.int .i64 z.told, .slice Ac z.clock.length cc] 96 + (blk b2 (cur2.setIfInBounds (o2 + j) (.slice (some ⟨bl, restOff c off, none⟩) l.length (c - 1))) 91 + (G + (Pl + F)))) (by ac_rfl)).at_ rfl
          clear HT H4 E4 Htake
          have HT'' := HT'.out
          rw [← Hσf.out] at HT''
          clear HT'
          go_wp2_with (go_at_call 52; refine HT''.mono ?_; rintro e w5 ⟨rfl, m5, H5, E5, hn5⟩)
          go_ret
          exact ⟨rfl, m5, (H5.eq (b := (m5 + (Pl + F)) + blk w.heap.size #[.int .i64 z.told, .slice Ac z.clock.length cc] 96) (by ac_rfl)).left, HE.out.trans E5, hn5⟩
      · -- a marker
        obtain ⟨q1, q2, q3⟩ := hf w _ 0 _ (hH.eq (b := 0 + (blk b2 cur2 91 + G) + (Pl + F)) (by rw [hm2, MS.zero_add]))
        have q4 : w.cell? ⟨b2, o2 + j, none⟩ = _ := (hH.eq (b := blk b2 cur2 91 + (G + (Pl + F))) (by rw [hm2]; ac_rfl)).at_ k3
        obtain ⟨m1, m2⟩ : z.told < 0 ∧ -z.told ≤ σ.shots.length := by
          rcases hok.msg r (List.mem_of_getElem? hr) _ (List.mem_of_getElem? hl) z (by simp) with h | h
          · exact absurd h.1 (by omega)
          · exact ⟨h.1, h.2.1⟩
        obtain ⟨k, hk⟩ : ∃ k : Nat, -z.told = (k : Int) + 1 := ⟨(-z.told - 1).toNat, by omega⟩
        have e : σ.recv i j = (0, (σ.drop i j).heard i j k) := by
          unfold Net.recv; rw [if_neg h1]; simp only [Int.toNat_natCast, hla]; rw [if_neg (by omega), show (-z.told - 1).toNat = k by omega]
        rw [e]
        obtain ⟨σf, hσf⟩ : ∃ σf, σf = (σ.drop i j).heard i j k := ⟨_, rfl⟩
        rw [← hσf]
        have Hσf := hid hσf
        clear hσf
        obtain ⟨sh, hsh⟩ : ∃ sh, σ.shots[k]? = some sh := ⟨_, List.getElem?_eq_getElem (by omega)⟩
        obtain ⟨p, hp⟩ : ∃ p, ps[k]? = some p := ⟨_, List.getElem?_eq_getElem (by rw [hnet.1]; omega)⟩
        have hdrop : (σ.drop i j).sta.length = σ.sta.length ∧ (σ.drop i j).shots = σ.shots := by unfold Net.drop; rw [hr]; exact ⟨rfl, rfl⟩
        obtain ⟨bx, ox, cx, hsp⟩ := hn.shotPtr (k := k) (p := p) (by rw [hdrop.2]; exact hsh) hp
        have hheard : ∀ W, Has W (blk b2 (cur2.setIfInBounds (o2 + j) (.slice (some ⟨bl, restOff c off, none⟩) l.length (c - 1))) 91 + G + (Pl + F)) → _ := fun W HW =>
          heard_any Pl F (σ.drop i j) ps b _ W (hok.drop i j) hn HW i j k p (by rw [hdrop.1]; exact hi) (by rw [hdrop.1]; exact hj) sh (by rw [hdrop.2]; exact hsh) hp ((k : Int) + 1) rfl
        have H3 : Has w.drew (0 + (blk b2 cur2 91 + G) + (Pl + F)) := by rw [MS.zero_add, ← hm2]; exact hH.drew
        obtain ⟨t1, t2, t3⟩ := hf _ _ _ _ H3
        have hkk : (k : Int) < 8 := by have := hok.shots; omega
        have hkl : (k : Int) < σ.shots.length := by omega
        rw [hdrop.2] at hsp
        rw [hk] at q3
        have Hheard := hid hheard
        have Hf := hid hf
        have Hsp := hid hsp
        have HK3 := hid k3
        have HH3 := hid H3
        have hc1 : (l.length : Int) + 1 ≤ c := by omega
        have hc2 : (1 : Int) ≤ c := by omega
        clear e h1 hok hnet hH hm2 hf hn hr hl hrl hla k3 H3 hdrop hheard m1 m2 hk hsp hsh hp hz hzc
        go_enter Try.func16, Try.ntmps16
        go_wp2_with (go_at_call 50; refine (pair_any b ad σ.sta.length c0 _ f0 i j).mono ?_; rintro e w' ⟨rfl, rfl⟩; rw [h1'])
        have hS := And.intro t1 t2
        refine wp_region_txt (fun W => W.cell? ⟨b, 1, none⟩ = some (.slice (some ⟨b1, o1, none⟩) σ.chan.length c1) ∧ W.cell? ⟨b1, o1 + i, none⟩ = some (.slice (some ⟨b2, o2, none⟩) r.length c2)) (some 11)
          [(0, true), (1, true), (2, true), (3, true), (4, true), (5, true), (6, true), (7, true), (8, true), (9, true), (10, true), (11, false)]
          (by kernel_rfl) rfl (by kernel_rfl) (by kernel_rfl) (by repeat (first | exact PanicOk.body _ _ _ | refine PanicOk.thn ?_ | refine PanicOk.blk ?_)) ?_
        repeat
          (refine txt_quiet ?_ hS rfl rfl (fun W hW => ?_) ?_
           rotate_left 1
           · obtain ⟨hW1, hW2⟩ := hW
             go_simp
             exact rfl
           simp only [Act.put, List.setIfInBounds_toArray, List.set_cons_zero, List.set_cons_succ])
        refine txt_quiet (.slice (some ⟨bl, restOff c off, none⟩) l.length (c - 1)) hS rfl rfl (fun W hW => ?_) ?_
        · exact run_slice91 (slice91 bl off l.length c W)
        simp only [Act.put, List.setIfInBounds_toArray, List.set_cons_zero, List.set_cons_succ]
        repeat
          (refine txt_quiet ?_ hS rfl rfl (fun W hW => ?_) ?_
           rotate_left 1
           · obtain ⟨hW1, hW2⟩ := hW
             go_simp
             exact rfl
           simp only [Act.put, List.setIfInBounds_toArray, List.set_cons_zero, List.set_cons_succ])
        refine txt_op rfl rfl ?_
        refine op_store_blk (.tmp 72) (.tmp 71) 91 rfl size91 b2 (o2 + j) (.slice (some ⟨bl, restOff c off, none⟩) l.length (c - 1)) rfl rfl rfl cur2 91 _ (HH3.out.eq (b := blk b2 cur2 91 + (G + (Pl + F))) (by rw [MS.zero_add]; ac_rfl)) (arr_lt HK3.out) ?_
        intro w4 H4 E4
        refine ⟨fun h => absurd rfl h, ?_⟩
        simp only [Act.put]
        refine txt_done ?_
        clear hS
        have HT := Hheard.out w4 (H4.eq (by ac_rfl))
        obtain ⟨g7, g8⟩ := Hsp.out w4 (Pl + F) (H4.eq (by ac_rfl))
        rw [← Hσf.out] at HT
        have HT' := hid HT
        have HE := hid ((Ext.drew w).trans E4)
        clear HT H4 E4 Hheard Hsp
        go_wp2_with (go_at_call 53; refine HT'.out.mono ?_; rintro e w5 ⟨rfl, m5, H5, E5, hn5⟩)
        go_ret
        exact ⟨rfl, m5, H5, HE.out.trans E5, hn5⟩
end Go.Proofs.Ytnkgfgkgepadhaa

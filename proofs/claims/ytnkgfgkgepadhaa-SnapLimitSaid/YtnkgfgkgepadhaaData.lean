/-
  What the stations' net is (plain data), and how it lies in memory.
-/
import Derived.Test.YtnkgfgkgepadhaaRows
import Derived.Test.YtnkgfgkgepadhaaRows1
namespace Go.Proofs.Ytnkgfgkgepadhaa
open Go.RowKit
set_option linter.unusedVariables false

/-! ### Plain data -/
structure Sta where
  pieces : Int
  events : Int
  clock : List Int
/-- told > 0: a parcel, with the sender's clock; told < 0: a marker. -/
structure Msg where
  told : Int
  clock : List Int
structure Shot where
  recorded : List Bool
  closed : List (List Bool)
  cut : List Int
  pieces : List Int
  under : List (List (List Int))
structure Ev where
  station : Int
  what : Int
  other : Int
  pieces : Int
  clock : List Int
structure Net where
  sta : List Sta
  chan : List (List (List Msg))
  shots : List Shot
  evs : List Ev

/-- A station's event is noted. -/
def Net.did (σ : Net) (k : Nat) (what other pieces : Int) : Net :=
  match σ.sta[k]? with
  | some s => { σ with sta := σ.sta.set k { s with events := s.events + 1, clock := s.clock.set k (s.clock.getD k 0 + 1) }, evs := σ.evs ++ [⟨k, what, other, pieces, s.clock.set k (s.clock.getD k 0 + 1)⟩] }
  | none => σ
/-- A station's pieces change. -/
def Net.gain (σ : Net) (k : Nat) (d : Int) : Net :=
  match σ.sta[k]? with
  | some s => { σ with sta := σ.sta.set k { s with pieces := s.pieces + d } }
  | none => σ
/-- A message behind all others of a channel. -/
def Net.push (σ : Net) (i j : Nat) (x : Msg) : Net :=
  match σ.chan[i]? with
  | some r => { σ with chan := σ.chan.set i (r.set j (r.getD j [] ++ [x])) }
  | none => σ
/-- Markers of a snapshot on the channels of station k to those below t. -/
def Net.mark (σ : Net) (k : Nat) (no : Int) : Nat → Net
  | 0 => σ
  | t + 1 => if t = k then σ.mark k no t else (σ.mark k no t).push k t ⟨-no, []⟩
/-- Station k records for snapshot number i + 1. -/
def Net.record (σ : Net) (k i : Nat) : Net :=
  match σ.sta[k]?, σ.shots[i]? with
  | some s, some x => ({ σ with shots := σ.shots.set i { x with recorded := x.recorded.set k true, pieces := x.pieces.set k s.pieces, cut := x.cut.set k s.events } } : Net).mark k (i + 1) σ.sta.length
  | _, _ => σ
/-- A channel is closed for a snapshot. -/
def Net.close (σ : Net) (i j k : Nat) : Net :=
  match σ.shots[k]? with
  | some x => { σ with shots := σ.shots.set k { x with closed := x.closed.set i ((x.closed.getD i []).set j true) } }
  | none => σ
/-- What a marker does. -/
def Net.heard (σ : Net) (i j k : Nat) : Net :=
  match σ.shots[k]? with
  | some x => (if x.recorded.getD j false then σ else σ.record j k).close i j k
  | none => σ
/-- The clock of a station that receives, up to t. -/
def mergeTo (c m : List Int) (j : Nat) : Nat → List Int
  | 0 => c
  | t + 1 => if t = j then mergeTo c m j t else (mergeTo c m j t).set t (max ((mergeTo c m j t).getD t 0) (m.getD t 0))
/-- The snapshots below t record what has come. -/
def Net.underTo (σ : Net) (i j : Nat) (p : Int) : Nat → Net
  | 0 => σ
  | t + 1 => match (σ.underTo i j p t).shots[t]? with
    | some x => if x.recorded.getD j false = true ∧ (x.closed.getD i []).getD j false = false then
        { σ.underTo i j p t with shots := (σ.underTo i j p t).shots.set t { x with under := x.under.set i ((x.under.getD i []).set j ((x.under.getD i []).getD j [] ++ [p])) } } else σ.underTo i j p t
    | none => σ.underTo i j p t
/-- A parcel comes. -/
def Net.merge (σ : Net) (j : Nat) (m : List Int) : Net :=
  match σ.sta[j]? with
  | some s => { σ with sta := σ.sta.set j { s with clock := mergeTo s.clock m j m.length } }
  | none => σ
def Net.take (σ : Net) (i j : Nat) (x : Msg) : Net :=
  let σ3 := ((σ.gain j x.told).merge j x.clock).did j 3 i x.told
  σ3.underTo i j x.told σ3.shots.length
/-- What the walks need of a net: no number comes near to a bound of the machine. -/
structure NetOk (σ : Net) : Prop where
  n2 : 2 ≤ σ.sta.length
  n5 : σ.sta.length ≤ 5
  rows : σ.chan.length = σ.sta.length
  cols : ∀ r ∈ σ.chan, r.length = σ.sta.length
  evs : σ.evs.length ≤ 400
  shots : σ.shots.length ≤ 8
  sta : ∀ s ∈ σ.sta, s.clock.length = σ.sta.length ∧ 0 ≤ s.pieces ∧ s.pieces ≤ 1000000 + 1000000 * σ.evs.length ∧ 0 ≤ s.events ∧ s.events ≤ σ.evs.length ∧ ∀ t ∈ s.clock, 0 ≤ t ∧ t ≤ σ.evs.length
  line : ∀ (i : Nat) r l, σ.chan[i]? = some r → l ∈ r → l.length ≤ σ.evs.length + σ.shots.countP fun x => x.recorded.getD i false
  msg : ∀ r ∈ σ.chan, ∀ l ∈ r, ∀ x ∈ l, (0 < x.told ∧ x.told ≤ 1000000 ∧ x.clock.length = σ.sta.length ∧ ∀ t ∈ x.clock, 0 ≤ t ∧ t ≤ σ.evs.length) ∨ (x.told < 0 ∧ -x.told ≤ σ.shots.length ∧ x.clock = [])
  shot : ∀ x ∈ σ.shots, x.recorded.length = σ.sta.length ∧ x.closed.length = σ.sta.length ∧ (∀ r ∈ x.closed, r.length = σ.sta.length) ∧ x.cut.length = σ.sta.length ∧ x.pieces.length = σ.sta.length ∧
    x.under.length = σ.sta.length ∧ (∀ r ∈ x.under, r.length = σ.sta.length ∧ ∀ l ∈ r, l.length ≤ σ.evs.length)

/-! ### In memory -/
def IntV (n : Int) (v : Value) (m : MS) : Prop := v = .int .i64 n ∧ m = 0
def BoolV (b : Bool) (v : Value) (m : MS) : Prop := v = .bool b ∧ m = 0
def Ints : List Int → Value → MS → Prop := SlR 3 1 (El IntV)
def Bools : List Bool → Value → MS → Prop := SlR 4 1 (El BoolV)
def Ints2 : List (List Int) → Value → MS → Prop := SlR 22 1 (El Ints)
def Ints3 : List (List (List Int)) → Value → MS → Prop := SlR 44 1 (El Ints2)
def Bools2 : List (List Bool) → Value → MS → Prop := SlR 69 1 (El Bools)
def StaR (s : Sta) (cs : List Value) (m : MS) : Prop := ∃ vc, cs = [.int .i64 s.pieces, .int .i64 s.events, vc] ∧ Ints s.clock vc m ∧ vc.oneCell' = true
def EvR (x : Ev) (cs : List Value) (m : MS) : Prop := ∃ vc, cs = [.int .i64 x.station, .int .i64 x.what, .int .i64 x.other, .int .i64 x.pieces, vc] ∧ Ints x.clock vc m ∧ vc.oneCell' = true
/-- A message; a parcel's clock lies in the pool, which nobody writes. -/
def MsgV (Pl : MS) (x : Msg) (v : Value) (m : MS) : Prop :=
  m = 0 ∧ ((0 < x.told ∧ ∃ vc mc Pr, v = .iface 96 (.agg #[.int .i64 x.told, vc]) ∧ Ints x.clock vc mc ∧ Pl = mc + Pr) ∨ (x.told < 0 ∧ v = .iface 99 (.int .i64 (-x.told)) ∧ x.clock = []))
def Line (Pl : MS) : List Msg → Value → MS → Prop := SlR 94 1 (El (MsgV Pl))
def Lines (Pl : MS) : List (List Msg) → Value → MS → Prop := SlR 91 1 (El (Line Pl))
def Chans (Pl : MS) : List (List (List Msg)) → Value → MS → Prop := SlR 92 1 (El (Lines Pl))
/-- A snapshot, behind its address. -/
def ShotV (xp : Shot × Nat) (v : Value) (m : MS) : Prop :=
  ∃ v0 v1 v2 v3 v4 m0 m1 m2 m3 m4, v = .pointer (some ⟨xp.2, 0, none⟩) ∧ m = blk xp.2 #[v0, v1, v2, v3, v4] 109 + (m0 + (m1 + (m2 + (m3 + m4)))) ∧
    Bools xp.1.recorded v0 m0 ∧ Bools2 xp.1.closed v1 m1 ∧ Ints xp.1.cut v2 m2 ∧ Ints xp.1.pieces v3 m3 ∧ Ints3 xp.1.under v4 m4
/-- The net at block b; ps: the snapshots' blocks. -/
def IsNet (Pl : MS) (σ : Net) (ps : List Nat) (b : Nat) (m : MS) : Prop :=
  ps.length = σ.shots.length ∧ ∃ v0 v1 v2 v3 m0 m1 m2 m3, m = blk b #[v0, v1, v2, v3] 84 + (m0 + (m1 + (m2 + m3))) ∧
    SlR 107 3 StaR σ.sta v0 m0 ∧ Chans Pl σ.chan v1 m1 ∧ SlR 101 1 (El ShotV) (σ.shots.zip ps) v2 m2 ∧ SlR 68 5 EvR σ.evs v3 m3

theorem StaR.len : ∀ a cs m, StaR a cs m → cs.length = 3 := fun a cs m ⟨vc, h, _⟩ => by simp [h]
theorem EvR.len : ∀ a cs m, EvR a cs m → cs.length = 5 := fun a cs m ⟨vc, h, _⟩ => by simp [h]
theorem StaR.one : ∀ a cs m, StaR a cs m → ∀ u ∈ cs, u.oneCell' = true := fun a cs m ⟨vc, h, _, h1⟩ u hu => by
  subst h; simp at hu; rcases hu with rfl | rfl | rfl <;> first | rfl | exact h1
theorem EvR.one : ∀ a cs m, EvR a cs m → ∀ u ∈ cs, u.oneCell' = true := fun a cs m ⟨vc, h, _, h1⟩ u hu => by
  subst h; simp at hu; rcases hu with rfl | rfl | rfl | rfl | rfl <;> first | rfl | exact h1
theorem SlR.one {α : Type} {e sz : Nat} {R : α → List Value → MS → Prop} {l : List α} {v : Value} {m : MS} (h : SlR e sz R l v m) : v.oneCell' = true := by
  obtain ⟨A, c, rfl, _⟩ := h.form; rfl
theorem ShotV.one {x : Shot × Nat} {v : Value} {m : MS} (h : ShotV x v m) : v.oneCell' = true := by
  obtain ⟨_, _, _, _, _, _, _, _, _, _, rfl, _⟩ := h; rfl
theorem MsgV.one {Pl : MS} {x : Msg} {v : Value} {m : MS} (h : MsgV Pl x v m) : v.oneCell' = true := by
  obtain ⟨_, ⟨_, vc, mc, Pr, rfl, _⟩ | ⟨_, rfl, _⟩⟩ := h <;> rfl

/-- The cells of a row of ints, for who only reads it. -/
theorem ints_cells : ∀ {l : List Int} {cs : List Value} {m : MS}, RowsR (El IntV) l cs m → cs = l.map (Value.int .i64) ∧ m = 0
  | [], _, _, h => by obtain ⟨rfl, rfl⟩ := h; exact ⟨rfl, rfl⟩
  | _ :: _, _, _, h => by
    obtain ⟨c1, m1, c2, m2, ⟨v, rfl, ⟨rfl, rfl⟩, _⟩, h2, rfl, rfl⟩ := h
    obtain ⟨rfl, rfl⟩ := ints_cells h2
    exact ⟨rfl, MS.zero_add 0⟩
theorem rows_ints : ∀ (l : List Int), RowsR (El IntV) l (l.map (Value.int .i64)) 0
  | [] => RowsR.nil
  | a :: l => ⟨[.int .i64 a], 0, _, 0, ⟨_, rfl, ⟨rfl, rfl⟩, rfl⟩, rows_ints l, rfl, (MS.zero_add 0).symm⟩
theorem bools_cells : ∀ {l : List Bool} {cs : List Value} {m : MS}, RowsR (El BoolV) l cs m → cs = l.map Value.bool ∧ m = 0
  | [], _, _, h => by obtain ⟨rfl, rfl⟩ := h; exact ⟨rfl, rfl⟩
  | _ :: _, _, _, h => by
    obtain ⟨c1, m1, c2, m2, ⟨v, rfl, ⟨rfl, rfl⟩, _⟩, h2, rfl, rfl⟩ := h
    obtain ⟨rfl, rfl⟩ := bools_cells h2
    exact ⟨rfl, MS.zero_add 0⟩
theorem rows_bools : ∀ (l : List Bool), RowsR (El BoolV) l (l.map Value.bool) 0
  | [] => RowsR.nil
  | a :: l => ⟨[.bool a], 0, _, 0, ⟨_, rfl, ⟨rfl, rfl⟩, rfl⟩, rows_bools l, rfl, (MS.zero_add 0).symm⟩
/-- 'A slice that can be read as these ints' (an argument, an owned row, a row in the pool). -/
def RdInts (w : World) (A : Option Addr) (l : List Int) : Prop := (A = none → l = []) ∧ ∀ ad, A = some ad → ∀ j u, (l.map (Value.int .i64))[j]? = some u → w.cell? (ad.add j) = some u
theorem cell_alloc {w : World} {a : Addr} {v : Value} (h : w.cell? a = some v) (o : Obj) : (w.alloc o).cell? a = some v := (World.cell?_alloc_lt w o a (World.block_lt_of_cell? w a h)).trans h
theorem RdInts.alloc {w : World} {A : Option Addr} {l : List Int} (h : RdInts w A l) (o : Obj) : RdInts (w.alloc o) A l := ⟨h.1, fun ad hA j u hu => cell_alloc (h.2 ad hA j u hu) o⟩
theorem RdInts.drew {w : World} {A : Option Addr} {l : List Int} (h : RdInts w A l) : RdInts w.drew A l := h
theorem RdInts.heap {w w' : World} {A : Option Addr} {l : List Int} (h : RdInts w A l) (e : w'.heap = w.heap) : RdInts w' A l := ⟨h.1, fun ad hA j u hu => by
  have := h.2 ad hA j u hu
  simpa [World.cell?, e] using this⟩
theorem ints_one (l : List Int) : ∀ u ∈ l.map (Value.int .i64), u.oneCell' = true := ints_oneCell .i64 l
theorem Sl.empty (b e sz : Nat) : Sl e sz (.slice (some ⟨b, 0, none⟩) 0 0) 0 [] (blk b #[] e) := Sl.made (n := 0) b #[] (by simp [maxLen]) (by simp)
theorem Ints.rd {w : World} {F : MS} {l : List Int} {v : Value} {m : MS} (h : Ints l v m) (hH : Has w (m + F)) : ∃ A c, v = .slice A l.length c ∧ RdInts w A l ∧ l.length ≤ c ∧ c ≤ maxLen := by
  obtain ⟨xs, ms, mr, h1, h2, rfl⟩ := h
  obtain ⟨rfl, rfl⟩ := ints_cells h2
  obtain ⟨A, c, rfl, hn, hc, hm⟩ := h1.form
  refine ⟨A, c, rfl, ⟨fun hA => List.eq_nil_of_length_eq_zero (hn hA).1, ?_⟩, hc, hm⟩
  rw [MS.add_zero] at hH
  exact h1.cells hH
theorem Ints.of {l : List Int} {v : Value} {m : MS} (h : Sl 3 1 v l.length (l.map (Value.int .i64)) m) : Ints l v m := ⟨_, m, 0, h, rows_ints l, (MS.add_zero m).symm⟩
theorem Ints.cells {l : List Int} {v : Value} {m : MS} (h : Ints l v m) : Sl 3 1 v l.length (l.map (Value.int .i64)) m := by
  obtain ⟨xs, ms, mr, h1, h2, rfl⟩ := h
  obtain ⟨rfl, rfl⟩ := ints_cells h2
  rw [MS.add_zero]; exact h1
theorem Bools.of {l : List Bool} {v : Value} {m : MS} (h : Sl 4 1 v l.length (l.map Value.bool) m) : Bools l v m := ⟨_, m, 0, h, rows_bools l, (MS.add_zero m).symm⟩
theorem Bools.cells {l : List Bool} {v : Value} {m : MS} (h : Bools l v m) : Sl 4 1 v l.length (l.map Value.bool) m := by
  obtain ⟨xs, ms, mr, h1, h2, rfl⟩ := h
  obtain ⟨rfl, rfl⟩ := bools_cells h2
  rw [MS.add_zero]; exact h1

/-! ### The table's rows -/
theorem info3 : (Try.prog.info? 3).map (fun i => (i.zero, i.size, i.bytes)) = some (some (.int .i64 0), 1, 8) := by kernel_rfl
theorem info4 : (Try.prog.info? 4).map (fun i => (i.zero, i.size, i.bytes)) = some (some (.bool false), 1, 1) := by kernel_rfl
theorem info22 : (Try.prog.info? 22).map (fun i => (i.zero, i.size, i.bytes)) = some (some (.slice none 0 0), 1, 24) := by kernel_rfl
theorem info44 : (Try.prog.info? 44).map (fun i => (i.zero, i.size, i.bytes)) = some (some (.slice none 0 0), 1, 24) := by kernel_rfl
theorem info69 : (Try.prog.info? 69).map (fun i => (i.zero, i.size, i.bytes)) = some (some (.slice none 0 0), 1, 24) := by kernel_rfl
theorem info91 : (Try.prog.info? 91).map (fun i => (i.zero, i.size, i.bytes)) = some (some (.slice none 0 0), 1, 24) := by kernel_rfl
theorem info92 : (Try.prog.info? 92).map (fun i => (i.zero, i.size, i.bytes)) = some (some (.slice none 0 0), 1, 24) := by kernel_rfl
theorem info94 : (Try.prog.info? 94).map (fun i => (i.zero, i.size, i.bytes)) = some (some .nilIface, 1, 16) := by kernel_rfl
theorem info101 : (Try.prog.info? 101).map (fun i => (i.zero, i.size, i.bytes)) = some (some (.pointer none), 1, 8) := by kernel_rfl
theorem info107 : (Try.prog.info? 107).map (fun i => (i.zero, i.size, i.bytes)) = some (some (.agg #[.int .i64 0, .int .i64 0, .slice none 0 0]), 3, 40) := by kernel_rfl
theorem info68 : (Try.prog.info? 68).map (fun i => (i.zero, i.size, i.bytes)) = some (some (.agg #[.int .i64 0, .int .i64 0, .int .i64 0, .int .i64 0, .slice none 0 0]), 5, 56) := by kernel_rfl
@[go_sem] theorem eqnil22 (w : World) (a : Option Addr) (n c n' c' : Nat) : (binOp .eql 22 (.slice a n c) (.slice none n' c')).run Try.prog w = .ok (.bool a.isNone) w := Lib.run_eql_slice_nil w _ _ a n c n' c' Try.underlying22
@[go_sem] theorem eqnil69 (w : World) (a : Option Addr) (n c n' c' : Nat) : (binOp .eql 69 (.slice a n c) (.slice none n' c')).run Try.prog w = .ok (.bool a.isNone) w := Lib.run_eql_slice_nil w _ _ a n c n' c' Try.underlying69
@[go_sem] theorem eqnil32 (w : World) (a : Option Addr) (n c n' c' : Nat) : (binOp .eql 32 (.slice a n c) (.slice none n' c')).run Try.prog w = .ok (.bool a.isNone) w := Lib.run_eql_slice_nil w _ _ a n c n' c' Try.underlying32
@[go_sem] theorem eqnil91 (w : World) (a : Option Addr) (n c n' c' : Nat) : (binOp .eql 91 (.slice a n c) (.slice none n' c')).run Try.prog w = .ok (.bool a.isNone) w := Lib.run_eql_slice_nil w _ _ a n c n' c' Try.underlying91
theorem size3 : (Try.prog.info? 3).map (·.size) = some 1 := by kernel_rfl
theorem size4 : (Try.prog.info? 4).map (·.size) = some 1 := by kernel_rfl
theorem size22 : (Try.prog.info? 22).map (·.size) = some 1 := by kernel_rfl
theorem size36 : (Try.prog.info? 36).map (·.size) = some 1 := by kernel_rfl
theorem size64 : (Try.prog.info? 64).map (·.size) = some 1 := by kernel_rfl
theorem size32 : (Try.prog.info? 32).map (·.size) = some 1 := by kernel_rfl
theorem size80 : (Try.prog.info? 80).map (·.size) = some 1 := by kernel_rfl
theorem size81 : (Try.prog.info? 81).map (·.size) = some 1 := by kernel_rfl
theorem size82 : (Try.prog.info? 82).map (·.size) = some 1 := by kernel_rfl
theorem size91 : (Try.prog.info? 91).map (·.size) = some 1 := by kernel_rfl
end Go.Proofs.Ytnkgfgkgepadhaa

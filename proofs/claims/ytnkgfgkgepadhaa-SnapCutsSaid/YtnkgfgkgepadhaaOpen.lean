/-
  What the stations' net is (plain data), and how it lies in memory. Opening a net: a station, a channel, a snapshot taken out, and how the net is shut again.
-/
import Derived.Test.YtnkgfgkgepadhaaRows
import Derived.Test.YtnkgfgkgepadhaaRows1
namespace Go.Proofs.Ytnkgfgkgepadhaa
open Go.RowKit
set_option linter.unusedVariables false

/-! ### Plain data -/
structure Sta where
  pieces : Int
  events : Int
  clock : List Int
/-- told > 0: a parcel, with the sender's clock; told < 0: a marker. -/
structure Msg where
  told : Int
  clock : List Int
structure Shot where
  recorded : List Bool
  closed : List (List Bool)
  cut : List Int
  pieces : List Int
  under : List (List (List Int))
structure Ev where
  station : Int
  what : Int
  other : Int
  pieces : Int
  clock : List Int
structure Net where
  sta : List Sta
  chan : List (List (List Msg))
  shots : List Shot
  evs : List Ev

/-- A station's event is noted. -/
def Net.did (σ : Net) (k : Nat) (what other pieces : Int) : Net :=
  match σ.sta[k]? with
  | some s => { σ with sta := σ.sta.set k { s with events := s.events + 1, clock := s.clock.set k (s.clock.getD k 0 + 1) }, evs := σ.evs ++ [⟨k, what, other, pieces, s.clock.set k (s.clock.getD k 0 + 1)⟩] }
  | none => σ
/-- A station's pieces change. -/
def Net.gain (σ : Net) (k : Nat) (d : Int) : Net :=
  match σ.sta[k]? with
  | some s => { σ with sta := σ.sta.set k { s with pieces := s.pieces + d } }
  | none => σ
/-- A message behind all others of a channel. -/
def Net.push (σ : Net) (i j : Nat) (x : Msg) : Net :=
  match σ.chan[i]? with
  | some r => { σ with chan := σ.chan.set i (r.set j (r.getD j [] ++ [x])) }
  | none => σ
/-- Markers of a snapshot on the channels of station k to those below t. -/
def Net.mark (σ : Net) (k : Nat) (no : Int) : Nat → Net
  | 0 => σ
  | t + 1 => if t = k then σ.mark k no t else (σ.mark k no t).push k t ⟨-no, []⟩
/-- Station k records for snapshot number i + 1. -/
def Net.record (σ : Net) (k i : Nat) : Net :=
  match σ.sta[k]?, σ.shots[i]? with
  | some s, some x => ({ σ with shots := σ.shots.set i { x with recorded := x.recorded.set k true, pieces := x.pieces.set k s.pieces, cut := x.cut.set k s.events } } : Net).mark k (i + 1) σ.sta.length
  | _, _ => σ
/-- A channel is closed for a snapshot. -/
def Net.close (σ : Net) (i j k : Nat) : Net :=
  match σ.shots[k]? with
  | some x => { σ with shots := σ.shots.set k { x with closed := x.closed.set i ((x.closed.getD i []).set j true) } }
  | none => σ
/-- What a marker does. -/
def Net.heard (σ : Net) (i j k : Nat) : Net :=
  match σ.shots[k]? with
  | some x => (if x.recorded.getD j false then σ else σ.record j k).close i j k
  | none => σ
/-- The clock of a station that receives, up to t. -/
def mergeTo (c m : List Int) (j : Nat) : Nat → List Int
  | 0 => c
  | t + 1 => if t = j then mergeTo c m j t else (mergeTo c m j t).set t (max ((mergeTo c m j t).getD t 0) (m.getD t 0))
/-- The snapshots below t record what has come. -/
def Net.underTo (σ : Net) (i j : Nat) (p : Int) : Nat → Net
  | 0 => σ
  | t + 1 => match (σ.underTo i j p t).shots[t]? with
    | some x => if x.recorded.getD j false = true ∧ (x.closed.getD i []).getD j false = false then
        { σ.underTo i j p t with shots := (σ.underTo i j p t).shots.set t { x with under := x.under.set i ((x.under.getD i []).set j ((x.under.getD i []).getD j [] ++ [p])) } } else σ.underTo i j p t
    | none => σ.underTo i j p t
/-- A parcel comes. -/
def Net.merge (σ : Net) (j : Nat) (m : List Int) : Net :=
  match σ.sta[j]? with
  | some s => { σ with sta := σ.sta.set j { s with clock := mergeTo s.clock m j m.length } }
  | none => σ
def Net.take (σ : Net) (i j : Nat) (x : Msg) : Net :=
  let σ3 := ((σ.gain j x.told).merge j x.clock).did j 3 i x.told
  σ3.underTo i j x.told σ3.shots.length
/-- What the walks need of a net: no number comes near to a bound of the machine. -/
structure NetOk (σ : Net) : Prop where
  n2 : 2 ≤ σ.sta.length
  n5 : σ.sta.length ≤ 5
  rows : σ.chan.length = σ.sta.length
  cols : ∀ r ∈ σ.chan, r.length = σ.sta.length
  evs : σ.evs.length ≤ 400
  shots : σ.shots.length ≤ 8
  sta : ∀ s ∈ σ.sta, s.clock.length = σ.sta.length ∧ 0 ≤ s.pieces ∧ s.pieces ≤ 1000000 + 1000000 * σ.evs.length ∧ 0 ≤ s.events ∧ s.events ≤ σ.evs.length ∧ ∀ t ∈ s.clock, 0 ≤ t ∧ t ≤ σ.evs.length
  line : ∀ (i : Nat) r l, σ.chan[i]? = some r → l ∈ r → l.length ≤ σ.evs.length + σ.shots.countP fun x => x.recorded.getD i false
  msg : ∀ r ∈ σ.chan, ∀ l ∈ r, ∀ x ∈ l, (0 < x.told ∧ x.told ≤ 1000000 ∧ x.clock.length = σ.sta.length ∧ ∀ t ∈ x.clock, 0 ≤ t ∧ t ≤ σ.evs.length) ∨ (x.told < 0 ∧ -x.told ≤ σ.shots.length ∧ x.clock = [])
  shot : ∀ x ∈ σ.shots, x.recorded.length = σ.sta.length ∧ x.closed.length = σ.sta.length ∧ (∀ r ∈ x.closed, r.length = σ.sta.length) ∧ x.cut.length = σ.sta.length ∧ x.pieces.length = σ.sta.length ∧
    x.under.length = σ.sta.length ∧ (∀ r ∈ x.under, r.length = σ.sta.length ∧ ∀ l ∈ r, l.length ≤ σ.evs.length)

/-! ### In memory -/
def IntV (n : Int) (v : Value) (m : MS) : Prop := v = .int .i64 n ∧ m = 0
def BoolV (b : Bool) (v : Value) (m : MS) : Prop := v = .bool b ∧ m = 0
def Ints : List Int → Value → MS → Prop := SlR 3 1 (El IntV)
def Bools : List Bool → Value → MS → Prop := SlR 4 1 (El BoolV)
def Ints2 : List (List Int) → Value → MS → Prop := SlR 22 1 (El Ints)
def Ints3 : List (List (List Int)) → Value → MS → Prop := SlR 44 1 (El Ints2)
def Bools2 : List (List Bool) → Value → MS → Prop := SlR 69 1 (El Bools)
def StaR (s : Sta) (cs : List Value) (m : MS) : Prop := ∃ vc, cs = [.int .i64 s.pieces, .int .i64 s.events, vc] ∧ Ints s.clock vc m ∧ vc.oneCell' = true
def EvR (x : Ev) (cs : List Value) (m : MS) : Prop := ∃ vc, cs = [.int .i64 x.station, .int .i64 x.what, .int .i64 x.other, .int .i64 x.pieces, vc] ∧ Ints x.clock vc m ∧ vc.oneCell' = true
/-- A message; a parcel's clock lies in the pool, which nobody writes. -/
def MsgV (Pl : MS) (x : Msg) (v : Value) (m : MS) : Prop :=
  m = 0 ∧ ((0 < x.told ∧ ∃ vc mc Pr, v = .iface 96 (.agg #[.int .i64 x.told, vc]) ∧ Ints x.clock vc mc ∧ Pl = mc + Pr) ∨ (x.told < 0 ∧ v = .iface 99 (.int .i64 (-x.told)) ∧ x.clock = []))
def Line (Pl : MS) : List Msg → Value → MS → Prop := SlR 94 1 (El (MsgV Pl))
def Lines (Pl : MS) : List (List Msg) → Value → MS → Prop := SlR 91 1 (El (Line Pl))
def Chans (Pl : MS) : List (List (List Msg)) → Value → MS → Prop := SlR 92 1 (El (Lines Pl))
/-- A snapshot, behind its address. -/
def ShotV (xp : Shot × Nat) (v : Value) (m : MS) : Prop :=
  ∃ v0 v1 v2 v3 v4 m0 m1 m2 m3 m4, v = .pointer (some ⟨xp.2, 0, none⟩) ∧ m = blk xp.2 #[v0, v1, v2, v3, v4] 109 + (m0 + (m1 + (m2 + (m3 + m4)))) ∧
    Bools xp.1.recorded v0 m0 ∧ Bools2 xp.1.closed v1 m1 ∧ Ints xp.1.cut v2 m2 ∧ Ints xp.1.pieces v3 m3 ∧ Ints3 xp.1.under v4 m4
/-- The net at block b; ps: the snapshots' blocks. -/
def IsNet (Pl : MS) (σ : Net) (ps : List Nat) (b : Nat) (m : MS) : Prop :=
  ps.length = σ.shots.length ∧ ∃ v0 v1 v2 v3 m0 m1 m2 m3, m = blk b #[v0, v1, v2, v3] 84 + (m0 + (m1 + (m2 + m3))) ∧
    SlR 107 3 StaR σ.sta v0 m0 ∧ Chans Pl σ.chan v1 m1 ∧ SlR 101 1 (El ShotV) (σ.shots.zip ps) v2 m2 ∧ SlR 68 5 EvR σ.evs v3 m3

theorem StaR.len : ∀ a cs m, StaR a cs m → cs.length = 3 := fun a cs m ⟨vc, h, _⟩ => by simp [h]
theorem EvR.len : ∀ a cs m, EvR a cs m → cs.length = 5 := fun a cs m ⟨vc, h, _⟩ => by simp [h]
theorem StaR.one : ∀ a cs m, StaR a cs m → ∀ u ∈ cs, u.oneCell' = true := fun a cs m ⟨vc, h, _, h1⟩ u hu => by
  subst h; simp at hu; rcases hu with rfl | rfl | rfl <;> first | rfl | exact h1
theorem EvR.one : ∀ a cs m, EvR a cs m → ∀ u ∈ cs, u.oneCell' = true := fun a cs m ⟨vc, h, _, h1⟩ u hu => by
  subst h; simp at hu; rcases hu with rfl | rfl | rfl | rfl | rfl <;> first | rfl | exact h1
theorem SlR.one {α : Type} {e sz : Nat} {R : α → List Value → MS → Prop} {l : List α} {v : Value} {m : MS} (h : SlR e sz R l v m) : v.oneCell' = true := by
  obtain ⟨A, c, rfl, _⟩ := h.form; rfl
theorem ShotV.one {x : Shot × Nat} {v : Value} {m : MS} (h : ShotV x v m) : v.oneCell' = true := by
  obtain ⟨_, _, _, _, _, _, _, _, _, _, rfl, _⟩ := h; rfl
theorem MsgV.one {Pl : MS} {x : Msg} {v : Value} {m : MS} (h : MsgV Pl x v m) : v.oneCell' = true := by
  obtain ⟨_, ⟨_, vc, mc, Pr, rfl, _⟩ | ⟨_, rfl, _⟩⟩ := h <;> rfl

/-- The cells of a row of ints, for who only reads it. -/
theorem ints_cells : ∀ {l : List Int} {cs : List Value} {m : MS}, RowsR (El IntV) l cs m → cs = l.map (Value.int .i64) ∧ m = 0
  | [], _, _, h => by obtain ⟨rfl, rfl⟩ := h; exact ⟨rfl, rfl⟩
  | _ :: _, _, _, h => by
    obtain ⟨c1, m1, c2, m2, ⟨v, rfl, ⟨rfl, rfl⟩, _⟩, h2, rfl, rfl⟩ := h
    obtain ⟨rfl, rfl⟩ := ints_cells h2
    exact ⟨rfl, MS.zero_add 0⟩
theorem rows_ints : ∀ (l : List Int), RowsR (El IntV) l (l.map (Value.int .i64)) 0
  | [] => RowsR.nil
  | a :: l => ⟨[.int .i64 a], 0, _, 0, ⟨_, rfl, ⟨rfl, rfl⟩, rfl⟩, rows_ints l, rfl, (MS.zero_add 0).symm⟩
theorem bools_cells : ∀ {l : List Bool} {cs : List Value} {m : MS}, RowsR (El BoolV) l cs m → cs = l.map Value.bool ∧ m = 0
  | [], _, _, h => by obtain ⟨rfl, rfl⟩ := h; exact ⟨rfl, rfl⟩
  | _ :: _, _, _, h => by
    obtain ⟨c1, m1, c2, m2, ⟨v, rfl, ⟨rfl, rfl⟩, _⟩, h2, rfl, rfl⟩ := h
    obtain ⟨rfl, rfl⟩ := bools_cells h2
    exact ⟨rfl, MS.zero_add 0⟩
theorem rows_bools : ∀ (l : List Bool), RowsR (El BoolV) l (l.map Value.bool) 0
  | [] => RowsR.nil
  | a :: l => ⟨[.bool a], 0, _, 0, ⟨_, rfl, ⟨rfl, rfl⟩, rfl⟩, rows_bools l, rfl, (MS.zero_add 0).symm⟩
/-- 'A slice that can be read as these ints' (an argument, an owned row, a row in the pool). -/
def RdInts (w : World) (A : Option Addr) (l : List Int) : Prop := (A = none → l = []) ∧ ∀ ad, A = some ad → ∀ j u, (l.map (Value.int .i64))[j]? = some u → w.cell? (ad.add j) = some u
theorem cell_alloc {w : World} {a : Addr} {v : Value} (h : w.cell? a = some v) (o : Obj) : (w.alloc o).cell? a = some v := (World.cell?_alloc_lt w o a (World.block_lt_of_cell? w a h)).trans h
theorem RdInts.alloc {w : World} {A : Option Addr} {l : List Int} (h : RdInts w A l) (o : Obj) : RdInts (w.alloc o) A l := ⟨h.1, fun ad hA j u hu => cell_alloc (h.2 ad hA j u hu) o⟩
theorem RdInts.drew {w : World} {A : Option Addr} {l : List Int} (h : RdInts w A l) : RdInts w.drew A l := h
theorem RdInts.heap {w w' : World} {A : Option Addr} {l : List Int} (h : RdInts w A l) (e : w'.heap = w.heap) : RdInts w' A l := ⟨h.1, fun ad hA j u hu => by
  have := h.2 ad hA j u hu
  simpa [World.cell?, e] using this⟩
theorem ints_one (l : List Int) : ∀ u ∈ l.map (Value.int .i64), u.oneCell' = true := ints_oneCell .i64 l
theorem Sl.empty (b e sz : Nat) : Sl e sz (.slice (some ⟨b, 0, none⟩) 0 0) 0 [] (blk b #[] e) := Sl.made (n := 0) b #[] (by simp [maxLen]) (by simp)
theorem Ints.rd {w : World} {F : MS} {l : List Int} {v : Value} {m : MS} (h : Ints l v m) (hH : Has w (m + F)) : ∃ A c, v = .slice A l.length c ∧ RdInts w A l ∧ l.length ≤ c ∧ c ≤ maxLen := by
  obtain ⟨xs, ms, mr, h1, h2, rfl⟩ := h
  obtain ⟨rfl, rfl⟩ := ints_cells h2
  obtain ⟨A, c, rfl, hn, hc, hm⟩ := h1.form
  refine ⟨A, c, rfl, ⟨fun hA => List.eq_nil_of_length_eq_zero (hn hA).1, ?_⟩, hc, hm⟩
  rw [MS.add_zero] at hH
  exact h1.cells hH
theorem Ints.of {l : List Int} {v : Value} {m : MS} (h : Sl 3 1 v l.length (l.map (Value.int .i64)) m) : Ints l v m := ⟨_, m, 0, h, rows_ints l, (MS.add_zero m).symm⟩
theorem Ints.cells {l : List Int} {v : Value} {m : MS} (h : Ints l v m) : Sl 3 1 v l.length (l.map (Value.int .i64)) m := by
  obtain ⟨xs, ms, mr, h1, h2, rfl⟩ := h
  obtain ⟨rfl, rfl⟩ := ints_cells h2
  rw [MS.add_zero]; exact h1
theorem Bools.of {l : List Bool} {v : Value} {m : MS} (h : Sl 4 1 v l.length (l.map Value.bool) m) : Bools l v m := ⟨_, m, 0, h, rows_bools l, (MS.add_zero m).symm⟩
theorem Bools.cells {l : List Bool} {v : Value} {m : MS} (h : Bools l v m) : Sl 4 1 v l.length (l.map Value.bool) m := by
  obtain ⟨xs, ms, mr, h1, h2, rfl⟩ := h
  obtain ⟨rfl, rfl⟩ := bools_cells h2
  rw [MS.add_zero]; exact h1

/-! ### The table's rows -/
theorem info3 : (Try.prog.info? 3).map (fun i => (i.zero, i.size, i.bytes)) = some (some (.int .i64 0), 1, 8) := by kernel_rfl
theorem info4 : (Try.prog.info? 4).map (fun i => (i.zero, i.size, i.bytes)) = some (some (.bool false), 1, 1) := by kernel_rfl
theorem info22 : (Try.prog.info? 22).map (fun i => (i.zero, i.size, i.bytes)) = some (some (.slice none 0 0), 1, 24) := by kernel_rfl
theorem info44 : (Try.prog.info? 44).map (fun i => (i.zero, i.size, i.bytes)) = some (some (.slice none 0 0), 1, 24) := by kernel_rfl
theorem info69 : (Try.prog.info? 69).map (fun i => (i.zero, i.size, i.bytes)) = some (some (.slice none 0 0), 1, 24) := by kernel_rfl
theorem info91 : (Try.prog.info? 91).map (fun i => (i.zero, i.size, i.bytes)) = some (some (.slice none 0 0), 1, 24) := by kernel_rfl
theorem info92 : (Try.prog.info? 92).map (fun i => (i.zero, i.size, i.bytes)) = some (some (.slice none 0 0), 1, 24) := by kernel_rfl
theorem info94 : (Try.prog.info? 94).map (fun i => (i.zero, i.size, i.bytes)) = some (some .nilIface, 1, 16) := by kernel_rfl
theorem info101 : (Try.prog.info? 101).map (fun i => (i.zero, i.size, i.bytes)) = some (some (.pointer none), 1, 8) := by kernel_rfl
theorem info107 : (Try.prog.info? 107).map (fun i => (i.zero, i.size, i.bytes)) = some (some (.agg #[.int .i64 0, .int .i64 0, .slice none 0 0]), 3, 40) := by kernel_rfl
theorem info68 : (Try.prog.info? 68).map (fun i => (i.zero, i.size, i.bytes)) = some (some (.agg #[.int .i64 0, .int .i64 0, .int .i64 0, .int .i64 0, .slice none 0 0]), 5, 56) := by kernel_rfl
@[go_sem] theorem eqnil22 (w : World) (a : Option Addr) (n c n' c' : Nat) : (binOp .eql 22 (.slice a n c) (.slice none n' c')).run Try.prog w = .ok (.bool a.isNone) w := Lib.run_eql_slice_nil w _ _ a n c n' c' Try.underlying22
@[go_sem] theorem eqnil69 (w : World) (a : Option Addr) (n c n' c' : Nat) : (binOp .eql 69 (.slice a n c) (.slice none n' c')).run Try.prog w = .ok (.bool a.isNone) w := Lib.run_eql_slice_nil w _ _ a n c n' c' Try.underlying69
@[go_sem] theorem eqnil32 (w : World) (a : Option Addr) (n c n' c' : Nat) : (binOp .eql 32 (.slice a n c) (.slice none n' c')).run Try.prog w = .ok (.bool a.isNone) w := Lib.run_eql_slice_nil w _ _ a n c n' c' Try.underlying32
@[go_sem] theorem eqnil91 (w : World) (a : Option Addr) (n c n' c' : Nat) : (binOp .eql 91 (.slice a n c) (.slice none n' c')).run Try.prog w = .ok (.bool a.isNone) w := Lib.run_eql_slice_nil w _ _ a n c n' c' Try.underlying91
theorem size3 : (Try.prog.info? 3).map (·.size) = some 1 := by kernel_rfl
theorem size4 : (Try.prog.info? 4).map (·.size) = some 1 := by kernel_rfl
theorem size22 : (Try.prog.info? 22).map (·.size) = some 1 := by kernel_rfl
theorem size36 : (Try.prog.info? 36).map (·.size) = some 1 := by kernel_rfl
theorem size64 : (Try.prog.info? 64).map (·.size) = some 1 := by kernel_rfl
theorem size32 : (Try.prog.info? 32).map (·.size) = some 1 := by kernel_rfl
theorem size80 : (Try.prog.info? 80).map (·.size) = some 1 := by kernel_rfl
theorem size81 : (Try.prog.info? 81).map (·.size) = some 1 := by kernel_rfl
theorem size82 : (Try.prog.info? 82).map (·.size) = some 1 := by kernel_rfl
theorem size91 : (Try.prog.info? 91).map (·.size) = some 1 := by kernel_rfl
end Go.Proofs.Ytnkgfgkgepadhaa

namespace Go.Proofs.Ytnkgfgkgepadhaa
open Go.RowKit
set_option linter.unusedVariables false

/-! ### The pool may grow -/
theorem SlR.mono {α : Type} {e sz : Nat} {R R' : α → List Value → MS → Prop} (hR : ∀ a cs m, R a cs m → R' a cs m) {l : List α} {v : Value} {m : MS} (h : SlR e sz R l v m) : SlR e sz R' l v m := by
  obtain ⟨xs, ms, mr, h1, h2, h3⟩ := h
  exact ⟨xs, ms, mr, h1, h2.mono hR, h3⟩
theorem El.mono {α : Type} {S S' : α → Value → MS → Prop} (hS : ∀ a v m, S a v m → S' a v m) : ∀ a cs m, El S a cs m → El S' a cs m := fun a cs m ⟨v, h1, h2, h3⟩ => ⟨v, h1, hS _ _ _ h2, h3⟩
theorem MsgV.pool {Pl : MS} (X : MS) : ∀ x v m, MsgV Pl x v m → MsgV (X + Pl) x v m := fun x v m ⟨h0, h⟩ => by
  refine ⟨h0, ?_⟩
  rcases h with ⟨h1, vc, mc, Pr, h2, h3, rfl⟩ | h
  · exact .inl ⟨h1, vc, mc, X + Pr, h2, h3, by ac_rfl⟩
  · exact .inr h
theorem Line.pool {Pl : MS} (X : MS) : ∀ l v m, Line Pl l v m → Line (X + Pl) l v m := fun _ _ _ h => SlR.mono (El.mono (MsgV.pool X)) h
theorem Lines.pool {Pl : MS} (X : MS) : ∀ l v m, Lines Pl l v m → Lines (X + Pl) l v m := fun _ _ _ h => SlR.mono (El.mono (Line.pool X)) h
theorem Chans.pool {Pl : MS} (X : MS) : ∀ l v m, Chans Pl l v m → Chans (X + Pl) l v m := fun _ _ _ h => SlR.mono (El.mono (Lines.pool X)) h
theorem IsNet.pool {Pl : MS} {σ : Net} {ps : List Nat} {b : Nat} {m : MS} (X : MS) (h : IsNet Pl σ ps b m) : IsNet (X + Pl) σ ps b m := by
  obtain ⟨hps, v0, v1, v2, v3, m0, m1, m2, m3, hm, h0, h1, h2, h3⟩ := h
  exact ⟨hps, v0, v1, v2, v3, m0, m1, m2, m3, hm, h0, Chans.pool X _ _ _ h1, h2, h3⟩

/-- The four headers. -/
theorem IsNet.heads {Pl : MS} {σ : Net} {ps : List Nat} {b : Nat} {m : MS} (h : IsNet Pl σ ps b m) :
    ∃ hd R, m = blk b hd 84 + R ∧ hd.size = 4 ∧ (∃ A c, hd[0]? = some (.slice A σ.sta.length c) ∧ (A = none → σ.sta.length = 0) ∧ σ.sta.length ≤ c) ∧ (∃ A c, hd[1]? = some (.slice A σ.chan.length c) ∧ (A = none → σ.chan.length = 0) ∧ σ.chan.length ≤ c) ∧
      (∃ A c, hd[2]? = some (.slice A σ.shots.length c) ∧ (A = none → σ.shots.length = 0) ∧ σ.shots.length ≤ c) ∧ (∃ A c, hd[3]? = some (.slice A σ.evs.length c) ∧ (A = none → σ.evs.length = 0) ∧ σ.evs.length ≤ c) := by
  obtain ⟨hps, v0, v1, v2, v3, m0, m1, m2, m3, rfl, h0, h1, h2, h3⟩ := h
  obtain ⟨A0, c0, rfl, n0, l0, _⟩ := h0.form
  obtain ⟨A1, c1, rfl, n1, l1, _⟩ := SlR.form h1
  obtain ⟨A2, c2, rfl, n2, l2, _⟩ := h2.form
  obtain ⟨A3, c3, rfl, n3, l3, _⟩ := h3.form
  have e : (σ.shots.zip ps).length = σ.shots.length := by rw [List.length_zip]; omega
  exact ⟨_, _, rfl, rfl, ⟨A0, c0, rfl, fun h => (n0 h).1, l0⟩, ⟨A1, c1, rfl, fun h => (n1 h).1, l1⟩, ⟨A2, c2, by rw [← e]; rfl, fun h => by rw [← e]; exact (n2 h).1, by rw [← e]; exact l2⟩, ⟨A3, c3, rfl, fun h => (n3 h).1, l3⟩⟩

/-- A station. -/
theorem IsNet.station {Pl : MS} {σ : Net} {ps : List Nat} {b : Nat} {m : MS} (h : IsNet Pl σ ps b m) {k : Nat} {s : Sta} (hs : σ.sta[k]? = some s) :
    ∃ hd bs o c cur vc mc R, m = blk b hd 84 + (blk bs cur 107 + (mc + R)) ∧ hd[0]? = some (.slice (some ⟨bs, o, none⟩) σ.sta.length c) ∧
      cur[o + k * 3]? = some (.int .i64 s.pieces) ∧ cur[o + k * 3 + 1]? = some (.int .i64 s.events) ∧ cur[o + k * 3 + 2]? = some vc ∧ Ints s.clock vc mc ∧
      ∀ (s' : Sta) (cur' : Array Value) vc' mc', cur'.size = cur.size → (∀ j, (j < o + k * 3 ∨ o + k * 3 + 3 ≤ j) → cur'[j]? = cur[j]?) → cur'[o + k * 3]? = some (.int .i64 s'.pieces) → cur'[o + k * 3 + 1]? = some (.int .i64 s'.events) →
        cur'[o + k * 3 + 2]? = some vc' → Ints s'.clock vc' mc' → IsNet Pl { σ with sta := σ.sta.set k s' } ps b (blk b hd 84 + (blk bs cur' 107 + (mc' + R))) := by
  obtain ⟨hps, v0, v1, v2, v3, m0, m1, m2, m3, rfl, h0, h1, h2, h3⟩ := h
  have hk : k < σ.sta.length := (List.getElem?_eq_some_iff.1 hs).1
  have hs' : σ.sta[k] = s := (List.getElem?_eq_some_iff.1 hs).2
  obtain ⟨bs, o, c, cur, ci, n1, n2, rfl, rfl, ⟨vc, rfl, hclk, _⟩, hcell, hput⟩ := h0.take StaR.len hk
  rw [hs'] at hcell hclk
  refine ⟨#[.slice (some ⟨bs, o, none⟩) σ.sta.length c, v1, v2, v3], bs, o, c, cur, vc, n1, n2 + (m1 + (m2 + m3)), by ac_rfl, rfl, hcell 0 (by omega), hcell 1 (by omega), hcell 2 (by omega), hclk, ?_⟩
  intro s' cur' vc' mc' hsz hfar e0 e1 e2 hc'
  have := hput s' _ mc' cur' ⟨vc', rfl, hc', hc'.one⟩ hsz hfar (fun j hj => by
    match j, hj with
    | 0, _ => exact e0
    | 1, _ => exact e1
    | 2, _ => exact e2)
  exact ⟨hps, _, v1, v2, v3, _, m1, m2, m3, by ac_rfl, this, h1, h2, h3⟩

/-- A station of the row of stations. -/
theorem staAt {l : List Sta} {v : Value} {m : MS} (h : SlR 107 3 StaR l v m) {k : Nat} {s : Sta} (hs : l[k]? = some s) :
    ∃ bs o c cur vc mc R, v = .slice (some ⟨bs, o, none⟩) l.length c ∧ m = blk bs cur 107 + (mc + R) ∧ cur[o + k * 3]? = some (.int .i64 s.pieces) ∧ cur[o + k * 3 + 1]? = some (.int .i64 s.events) ∧ cur[o + k * 3 + 2]? = some vc ∧ Ints s.clock vc mc := by
  obtain ⟨hk, rfl⟩ := List.getElem?_eq_some_iff.1 hs
  obtain ⟨bs, o, c, cur, ci, n1, n2, rfl, rfl, ⟨vc, rfl, hclk, _⟩, hcell, hput⟩ := h.take StaR.len hk
  exact ⟨bs, o, c, cur, vc, n1, n2, rfl, rfl, hcell 0 (by omega), hcell 1 (by omega), hcell 2 (by omega), hclk⟩

/-- A channel. -/
theorem IsNet.line {Pl : MS} {σ : Net} {ps : List Nat} {b : Nat} {m : MS} (h : IsNet Pl σ ps b m) {i j : Nat} {r : List (List Msg)} {l : List Msg} (hr : σ.chan[i]? = some r) (hl : r[j]? = some l) :
    ∃ hd b1 o1 c1 cur1 b2 o2 c2 cur2 v mq v0 m0 R, m = blk b hd 84 + (blk b1 cur1 92 + (blk b2 cur2 91 + (mq + (m0 + R)))) ∧ hd[0]? = some v0 ∧ SlR 107 3 StaR σ.sta v0 m0 ∧ hd[1]? = some (.slice (some ⟨b1, o1, none⟩) σ.chan.length c1) ∧
      cur1[o1 + i]? = some (.slice (some ⟨b2, o2, none⟩) r.length c2) ∧ cur2[o2 + j]? = some v ∧ Line Pl l v mq ∧
      ∀ X l' v' mq', Line (X + Pl) l' v' mq' → IsNet (X + Pl) { σ with chan := σ.chan.set i (r.set j l') } ps b (blk b hd 84 + (blk b1 cur1 92 + (blk b2 (cur2.setIfInBounds (o2 + j) v') 91 + (mq' + (m0 + R))))) := by
  obtain ⟨hps, v0, v1, v2, v3, m0, m1, m2, m3, rfl, h0, h1, h2, h3⟩ := h
  have hi : i < σ.chan.length := (List.getElem?_eq_some_iff.1 hr).1
  have hr' : σ.chan[i] = r := (List.getElem?_eq_some_iff.1 hr).2
  have hj : j < r.length := (List.getElem?_eq_some_iff.1 hl).1
  have hl' : r[j] = l := (List.getElem?_eq_some_iff.1 hl).2
  obtain ⟨b1, o1, c1, cur1, ci, n1, n2, rfl, rfl, ⟨vr, rfl, hrow, _⟩, hcell, hput0⟩ := SlR.take' El.len h1 hi
  rw [hr'] at hrow
  obtain ⟨b2, o2, c2, cur2, cj, p1, p2, rfl, rfl, ⟨vl, rfl, hline, _⟩, hcell2, hput20⟩ := SlR.take' El.len hrow hj
  rw [hl'] at hline
  have e1 := hcell 0 (by omega)
  have e2 := hcell2 0 (by omega)
  simp only [Nat.mul_one, Nat.add_zero, List.getElem?_cons_zero] at e1 e2
  refine ⟨#[v0, .slice (some ⟨b1, o1, none⟩) σ.chan.length c1, v2, v3], b1, o1, c1, cur1, b2, o2, c2, cur2, vl, p1, v0, m0, p2 + (n2 + (m2 + m3)), by ac_rfl, rfl, h0, rfl, e1, e2, hline, ?_⟩
  intro X l' v' mq' hl''
  have hput := hput0 (El (Lines (X + Pl))) (El.mono (Lines.pool X)) El.len
  have hput2 := hput20 (El (Line (X + Pl))) (El.mono (Line.pool X)) El.len
  have hlt := arr_lt e2
  have a1 := hput2 l' [v'] mq' (cur2.setIfInBounds (o2 + j) v') ⟨v', rfl, hl'', hl''.one⟩ (by simp) (fun k hk => by rw [Array.getElem?_setIfInBounds_ne (by omega)]) (fun t ht => by
    obtain rfl : t = 0 := by omega
    simpa using arr_eq (x := v') hlt)
  have a2 := hput (r.set j l') [_] _ cur1 ⟨_, rfl, a1, rfl⟩ rfl (fun _ _ => rfl) (fun t ht => by
    obtain rfl : t = 0 := by omega
    simpa using e1)
  exact ⟨hps, v0, _, v2, v3, m0, _, m2, m3, by ac_rfl, h0, a2, h2, h3⟩

/-- A snapshot. -/
theorem IsNet.shot {Pl : MS} {σ : Net} {ps : List Nat} {b : Nat} {m : MS} (h : IsNet Pl σ ps b m) {i p : Nat} {x : Shot} (hx : σ.shots[i]? = some x) (hp : ps[i]? = some p) :
    ∃ hd b2 o2 c2 cur2 cp v0 v1 v2 v3 v4 m0 m1 m2 m3 m4 vst mst R, m = blk b hd 84 + (blk b2 cur2 101 + (blk p cp 109 + ((m0 + (m1 + (m2 + (m3 + m4)))) + (mst + R)))) ∧ hd[0]? = some vst ∧ SlR 107 3 StaR σ.sta vst mst ∧ hd[2]? = some (.slice (some ⟨b2, o2, none⟩) σ.shots.length c2) ∧
      cur2[o2 + i]? = some (.pointer (some ⟨p, 0, none⟩)) ∧ cp[0]? = some v0 ∧ cp[1]? = some v1 ∧ cp[2]? = some v2 ∧ cp[3]? = some v3 ∧ cp[4]? = some v4 ∧
      Bools x.recorded v0 m0 ∧ Bools2 x.closed v1 m1 ∧ Ints x.cut v2 m2 ∧ Ints x.pieces v3 m3 ∧ Ints3 x.under v4 m4 ∧
      ∀ x' m0' m1' m2' m3' m4', Bools x'.recorded v0 m0' → Bools2 x'.closed v1 m1' → Ints x'.cut v2 m2' → Ints x'.pieces v3 m3' → Ints3 x'.under v4 m4' →
        IsNet Pl { σ with shots := σ.shots.set i x' } ps b (blk b hd 84 + (blk b2 cur2 101 + (blk p cp 109 + ((m0' + (m1' + (m2' + (m3' + m4')))) + (mst + R))))) := by
  obtain ⟨hps, v0, v1, v2, v3, m0, m1, m2, m3, rfl, h0, h1, h2, h3⟩ := h
  have hi : i < σ.shots.length := (List.getElem?_eq_some_iff.1 hx).1
  have hzl : (σ.shots.zip ps).length = σ.shots.length := by rw [List.length_zip]; omega
  have hz : (σ.shots.zip ps)[i]? = some (x, p) := by rw [List.getElem?_zip_eq_some]; exact ⟨hx, hp⟩
  have hz' : (σ.shots.zip ps)[i]'(by omega) = (x, p) := (List.getElem?_eq_some_iff.1 hz).2
  obtain ⟨b2, o2, c2, cur2, ci, n1, n2, rfl, rfl, ⟨vr, rfl, hshot, _⟩, hcell, hput⟩ := SlR.take El.len h2 (i := i) (by omega)
  rw [hz'] at hshot
  obtain ⟨u0, u1, u2, u3, u4, q0, q1, q2, q3, q4, rfl, hn1, k0, k1, k2, k3, k4⟩ := hshot
  simp only at hn1 k0 k1 k2 k3 k4
  subst hn1
  have e1 := hcell 0 (by omega)
  simp only [Nat.mul_one, Nat.add_zero, List.getElem?_cons_zero] at e1
  refine ⟨#[v0, v1, .slice (some ⟨b2, o2, none⟩) (σ.shots.zip ps).length c2, v3], b2, o2, c2, cur2, #[u0, u1, u2, u3, u4], u0, u1, u2, u3, u4, q0, q1, q2, q3, q4, v0, m0, n2 + (m1 + m3), by ac_rfl, rfl, h0, by rw [hzl]; rfl, e1, rfl, rfl, rfl, rfl, rfl, k0, k1, k2, k3, k4, ?_⟩
  intro x' m0' m1' m2' m3' m4' t0 t1 t2 t3 t4
  have a2 := hput (x', p) [_] _ cur2 ⟨_, rfl, ⟨u0, u1, u2, u3, u4, m0', m1', m2', m3', m4', rfl, rfl, t0, t1, t2, t3, t4⟩, rfl⟩ rfl (fun _ _ => rfl) (fun t ht => by
    obtain rfl : t = 0 := by omega
    simpa using e1)
  have hzip : (σ.shots.set i x').zip ps = (σ.shots.zip ps).set i (x', p) := by
    apply List.ext_getElem?
    intro t
    by_cases hti : i = t
    · subst hti
      rw [List.getElem?_set_self (by omega), List.getElem?_zip_eq_some]
      exact ⟨by rw [List.getElem?_set_self hi], hp⟩
    · rw [List.getElem?_set_ne hti]
      simp only [List.zip, List.getElem?_zipWith, List.getElem?_set_ne hti]
  have a3 : SlR 101 1 (El ShotV) ((σ.shots.set i x').zip ps) (.slice (some ⟨b2, o2, none⟩) (σ.shots.zip ps).length c2) (blk b2 cur2 101 + (blk p #[u0, u1, u2, u3, u4] 109 + (m0' + (m1' + (m2' + (m3' + m4')))) + n2)) := by
    rw [hzip]
    exact a2
  exact ⟨by simpa using hps, v0, v1, _, v3, m0, m1, _, m3, by ac_rfl, h0, h1, a3, h3⟩
/-! ### Rows in rows -/
theorem bools2At {l : List (List Bool)} {v : Value} {m : MS} (h : Bools2 l v m) {i j : Nat} {r : List Bool} {q : Bool} (hr : l[i]? = some r) (hq : r[j]? = some q) :
    ∃ b1 o1 c1 cur1 b2 o2 c2 cur2 R, v = .slice (some ⟨b1, o1, none⟩) l.length c1 ∧ m = blk b1 cur1 69 + (blk b2 cur2 4 + R) ∧ cur1[o1 + i]? = some (.slice (some ⟨b2, o2, none⟩) r.length c2) ∧ cur2[o2 + j]? = some (.bool q) ∧
      ∀ u : Bool, Bools2 (l.set i (r.set j u)) v (blk b1 cur1 69 + (blk b2 (cur2.setIfInBounds (o2 + j) (.bool u)) 4 + R)) := by
  obtain ⟨hi, hr'⟩ := List.getElem?_eq_some_iff.1 hr
  obtain ⟨hj, hq'⟩ := List.getElem?_eq_some_iff.1 hq
  obtain ⟨b1, o1, c1, cur1, ci, n1, n2, rfl, rfl, ⟨vr, rfl, hrow, _⟩, hcell, hput⟩ := SlR.take El.len h hi
  rw [hr'] at hrow
  obtain ⟨b2, o2, c2, cur2, rfl, rfl, _, hcc, hput2⟩ := (Bools.cells hrow).at_ (by omega)
  have e1 := hcell 0 (by omega)
  have e2 := hcc j (by omega)
  rw [List.getElem?_map, hq] at e2
  simp only [Nat.mul_one, Nat.add_zero, List.getElem?_cons_zero] at e1
  refine ⟨b1, o1, c1, cur1, b2, o2, c2, cur2, n2, rfl, by ac_rfl, e1, e2, fun u => ?_⟩
  have a1 : Bools (r.set j u) (.slice (some ⟨b2, o2, none⟩) r.length c2) (blk b2 (cur2.setIfInBounds (o2 + j) (.bool u)) 4) := by
    refine Bools.of ?_
    have := Sl.set_ (sz := 1) hput2 hcc (by simp) (i := j) (by omega) (.bool u)
    rw [List.map_set, List.length_set]
    exact this
  have a2 := hput (r.set j u) [_] _ cur1 ⟨_, rfl, a1, rfl⟩ rfl (fun _ _ => rfl) (fun t ht => by
    obtain rfl : t = 0 := by omega
    simpa using e1)
  exact a2
theorem ints3At {l : List (List (List Int))} {v : Value} {m : MS} (h : Ints3 l v m) {i j : Nat} {r : List (List Int)} {q : List Int} (hr : l[i]? = some r) (hq : r[j]? = some q) :
    ∃ b1 o1 c1 cur1 b2 o2 c2 cur2 vq mq R, v = .slice (some ⟨b1, o1, none⟩) l.length c1 ∧ m = blk b1 cur1 44 + (blk b2 cur2 22 + (mq + R)) ∧ cur1[o1 + i]? = some (.slice (some ⟨b2, o2, none⟩) r.length c2) ∧ cur2[o2 + j]? = some vq ∧ Ints q vq mq ∧
      ∀ q' v' m', Ints q' v' m' → Ints3 (l.set i (r.set j q')) v (blk b1 cur1 44 + (blk b2 (cur2.setIfInBounds (o2 + j) v') 22 + (m' + R))) := by
  obtain ⟨hi, hr'⟩ := List.getElem?_eq_some_iff.1 hr
  obtain ⟨hj, hq'⟩ := List.getElem?_eq_some_iff.1 hq
  obtain ⟨b1, o1, c1, cur1, ci, n1, n2, rfl, rfl, ⟨vr, rfl, hrow, _⟩, hcell, hput⟩ := SlR.take El.len h hi
  rw [hr'] at hrow
  obtain ⟨b2, o2, c2, cur2, cj, p1, p2, rfl, rfl, ⟨vl, rfl, hline, _⟩, hcell2, hput2⟩ := SlR.take El.len hrow hj
  rw [hq'] at hline
  have e1 := hcell 0 (by omega)
  have e2 := hcell2 0 (by omega)
  simp only [Nat.mul_one, Nat.add_zero, List.getElem?_cons_zero] at e1 e2
  refine ⟨b1, o1, c1, cur1, b2, o2, c2, cur2, vl, p1, p2 + n2, rfl, by ac_rfl, e1, e2, hline, ?_⟩
  intro q' v' m' hq''
  have a1 := hput2 q' [v'] m' (cur2.setIfInBounds (o2 + j) v') ⟨v', rfl, hq'', hq''.one⟩ (by simp) (fun k hk => by rw [Array.getElem?_setIfInBounds_ne (by omega)]) (fun t ht => by
    obtain rfl : t = 0 := by omega
    simpa using arr_eq (x := v') (arr_lt e2))
  have a2 := hput (r.set j q') [_] _ cur1 ⟨_, rfl, a1, rfl⟩ rfl (fun _ _ => rfl) (fun t ht => by
    obtain rfl : t = 0 := by omega
    simpa using e1)
  have e : blk b1 cur1 44 + (blk b2 (cur2.setIfInBounds (o2 + j) v') 22 + (m' + (p2 + n2))) = blk b1 cur1 44 + (blk b2 (cur2.setIfInBounds (o2 + j) v') 22 + (m' + p2) + n2) := by ac_rfl
  rw [e]
  exact a2
end Go.Proofs.Ytnkgfgkgepadhaa

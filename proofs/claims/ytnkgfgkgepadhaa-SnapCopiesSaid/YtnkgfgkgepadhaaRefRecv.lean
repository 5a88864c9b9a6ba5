/-
  What the reference's Receive touches. The walk of the reference's Receive: all but a parcel that is taken.
-/
import Derived.Test.YtnkgfgkgepadhaaRefSend
namespace Go.Proofs.Ytnkgfgkgepadhaa
open Go.RowKit
set_option linter.unusedVariables false
set_option linter.unusedSimpArgs false

/-- Where a row's rest begins (things of two cells). -/
def restOff2 (c off : Nat) : Nat := if c = 1 then off else off + 2
theorem slice_rest2 (t e : TypeId) (ht : Try.prog.underlying t = some (.slice e)) (hz : (Try.prog.info? e).map (·.size) = some 2) (bl off n c : Nat) (w : World) :
    (Instr.sliceAt t (.slice (some ⟨bl, off, none⟩) (n + 1) c) (some (.int .i64 1)) none none).run Try.prog w = .ok (.slice (some ⟨bl, restOff2 c off, none⟩) n (c - 1)) w := by
  obtain ⟨i, hi, hz'⟩ := Option.map_eq_some_iff.1 hz
  have hs : (sizeOf e).run Try.prog w = .ok 2 w := by simp [sizeOf, typeInfo, hi, hz']
  by_cases h : c = 1
  · subst h
    simp [Instr.sliceAt, run_underlying ht, Instr.slice, Instr.sliceBounds, Instr.sliceBound, hs, restOff2, asIntOf, (by omega : (1 : Int) ≤ ↑n + 1)]
  · simp [Instr.sliceAt, run_underlying ht, Instr.slice, Instr.sliceBounds, Instr.sliceBound, hs, restOff2, asIntOf, h, Addr.add, (by omega : (1 : Int) ≤ ↑n + 1)]
theorem slice125 (bl off n c : Nat) (w : World) :
    (Instr.sliceAt 125 (.slice (some ⟨bl, off, none⟩) (n + 1) c) (some (.int .i64 1)) none none).run Try.prog w = .ok (.slice (some ⟨bl, restOff2 c off, none⟩) n (c - 1)) w := slice_rest2 125 127 Try.underlying125 (by kernel_rfl) bl off n c w
theorem run_slice125 {a : Act} {dst : Option Tmp} {x lo : Operand} {ty : TypeId} {pos : String} {af : Array Edge} {g : Option (Nat × Bool)} {v : Value} {W : World} (h : (Instr.sliceAt 125 (a.eval x) (some (a.eval lo)) none none).run Try.prog W = .ok v W) :
    (execOp a.eval { dst := dst, op := .slice 125 x (some lo) none none, type := ty, pos := pos, after := af, guard := g }).run Try.prog W = .ok (.value v) W := by
  simp only [execOp, Option.map, Sem.run_bind, h, Result.andThen, Sem.run_pure]
theorem RLine.uncons {Pl : MS} {x : Msg} {l : List Msg} {v : Value} {m : MS} (h : RLine Pl (x :: l) v m) :
    ∃ bl off c, v = .slice (some ⟨bl, off, none⟩) (l.length + 1) c ∧ l.length + 1 ≤ c ∧ c ≤ maxLen ∧ RLine Pl l (.slice (some ⟨bl, restOff2 c off, none⟩) l.length (c - 1)) m := by
  obtain ⟨xs, ms, mr, h1, h2, rfl⟩ := h
  obtain ⟨c1, m1, c2, m2, h3, h4, rfl, rfl⟩ := h2
  have hc1 := Pooled.len _ _ _ h3
  have hm1 := h3.2.1
  subst hm1
  have hc1' : c1.length = 2 := hc1
  rcases h1 with ⟨hl, ⟨_, h0, _⟩ | ⟨bl, off, c, cur, rfl, rfl, k1, k2, k3, k4⟩⟩
  · simp at h0
  · simp only [List.length_cons] at k1 k3 k4 hl
    have hl2 : c2.length = l.length * 2 := by rw [List.length_append] at hl; omega
    refine ⟨bl, off, c, rfl, k1, k2, c2, blk bl cur 127, m2, ⟨hl2, .inr ⟨bl, restOff2 c off, c - 1, cur, rfl, rfl, by omega, by omega, by unfold restOff2; split <;> omega, fun j hj => ?_⟩⟩, h4, by rw [MS.zero_add]⟩
    have := k4 (j + 2) (by omega)
    unfold restOff2
    rw [if_neg (by omega), show off + 2 + j = off + (j + 2) by omega, this, List.getElem?_append_right (by omega)]
    congr 1
    omega
theorem IsRef.popping {Pl : MS} {σ : Net} {b : Nat} {m : MS} (h : IsRef Pl σ b m) {i j : Nat} {r : List (List Msg)} {x : Msg} {l : List Msg} (hr : σ.chan[i]? = some r) (hl : r[j]? = some (x :: l)) :
    ∃ hd b1 o1 c1 cur1 b2 o2 c2 cur2 bl off c R, m = blk b hd 118 + (blk b1 cur1 119 + (blk b2 cur2 125 + R)) ∧ hd[2]? = some (.slice (some ⟨b1, o1, none⟩) σ.chan.length c1) ∧ cur1[o1 + i]? = some (.slice (some ⟨b2, o2, none⟩) r.length c2) ∧
      cur2[o2 + j]? = some (.slice (some ⟨bl, off, none⟩) (l.length + 1) c) ∧ l.length + 1 ≤ c ∧ c ≤ maxLen ∧
      IsRef Pl (σ.drop i j) b (blk b hd 118 + (blk b1 cur1 119 + (blk b2 (cur2.setIfInBounds (o2 + j) (.slice (some ⟨bl, restOff2 c off, none⟩) l.length (c - 1))) 125 + R))) := by
  obtain ⟨hd, b1, o1, c1, cur1, b2, o2, c2, cur2, v, mq, R, rfl, _, h2, e1, e2, hline, _, hput⟩ := h.line hr hl
  obtain ⟨bl, off, c, rfl, k1, k2, k3⟩ := RLine.uncons hline
  have hn := hput 0 l _ mq (by rw [MS.zero_add]; exact k3)
  rw [MS.zero_add] at hn
  refine ⟨hd, b1, o1, c1, cur1, b2, o2, c2, cur2, bl, off, c, mq + R, rfl, h2, e1, e2, k1, k2, ?_⟩
  have hσ : σ.drop i j = { σ with chan := σ.chan.set i (r.set j l) } := by simp [Net.drop, hr, List.getD, hl]
  rw [hσ]
  exact hn
theorem IsRef.unders {Pl : MS} {σ : Net} {b : Nat} {m : MS} (h : IsRef Pl σ b m) {i j k : Nat} {x : Shot} {r : List (List Int)} {q : List Int} (hx : σ.shots[k]? = some x) (hr : x.under[i]? = some r) (hq : r[j]? = some q) :
    ∃ hd b4 o4 c4 cur4 b5 o5 c5 cur5 b6 o6 c6 cur6 vq mq R, m = blk b hd 118 + (blk b4 cur4 150 + (blk b5 cur5 44 + (blk b6 cur6 22 + (mq + R)))) ∧ hd[4]? = some (.slice (some ⟨b4, o4, none⟩) σ.shots.length c4) ∧ cur4[o4 + k * 5 + 4]? = some (.slice (some ⟨b5, o5, none⟩) x.under.length c5) ∧
      cur5[o5 + i]? = some (.slice (some ⟨b6, o6, none⟩) r.length c6) ∧ cur6[o6 + j]? = some vq ∧ Ints q vq mq ∧
      ∀ q' v' m', Ints q' v' m' → IsRef Pl { σ with shots := σ.shots.set k { x with under := x.under.set i (r.set j q') } } b (blk b hd 118 + (blk b4 cur4 150 + (blk b5 cur5 44 + (blk b6 (cur6.setIfInBounds (o6 + j) v') 22 + (m' + R))))) := by
  obtain ⟨hd, b4, o4, c4, cur4, v0, v1, v2, v3, v4, m0, m1, m2, m3, m4, R, rfl, i4, ⟨e0, e1, e2, e3, e4⟩, r0, r1, r2, r3, r4, _, hput⟩ := h.shot hx
  obtain ⟨b5, o5, c5, cur5, b6, o6, c6, cur6, vq, mq, R3, rfl, rfl, g1, g2, hqq, hput1⟩ := ints3At r4 hr hq
  refine ⟨hd, b4, o4, c4, cur4, b5, o5, c5, cur5, b6, o6, c6, cur6, vq, mq, R3 + ((m0 + (m1 + (m2 + m3))) + R), by ac_rfl, i4, e4, g1, g2, hqq, fun q' v' m' hq' => ?_⟩
  have hn := hput { x with under := x.under.set i (r.set j q') } _ _ _ _ _ r0 r1 r2 r3 (hput1 q' v' m' hq')
  have e : blk b hd 118 + (blk b4 cur4 150 + (blk b5 cur5 44 + (blk b6 (cur6.setIfInBounds (o6 + j) v') 22 + (m' + (R3 + ((m0 + (m1 + (m2 + m3))) + R)))))) =
      blk b hd 118 + (blk b4 cur4 150 + ((m0 + (m1 + (m2 + (m3 + (blk b5 cur5 44 + (blk b6 (cur6.setIfInBounds (o6 + j) v') 22 + (m' + R3))))))) + R)) := by ac_rfl
  rw [e]
  exact hn
/-- A line, as the net at b is read. -/
theorem RdRef.line {F : MS} {σ : Net} {b : Nat} (h : RdRef F σ b) (hok : NetOk σ) {i j : Nat} (hi : i < σ.sta.length) (hj : j < σ.sta.length) :
    ∃ b1 o1 c1 b2 o2 c2 A c, F.at b 2 (.slice (some ⟨b1, o1, none⟩) σ.sta.length c1) ∧ F.at b1 (o1 + i) (.slice (some ⟨b2, o2, none⟩) σ.sta.length c2) ∧ F.at b2 (o2 + j) (.slice A (σ.lineAt i j).length c) ∧ RdS F RT.rmsg (σ.lineAt i j) (.slice A (σ.lineAt i j).length c) := by
  obtain ⟨A0, c0, A2, c2, A3, c3, A4, c4, a0, k0, a2, k2, _⟩ := h.head
  obtain ⟨r, hr, hrl, hrj⟩ := chan_get hok hi
  obtain ⟨b1, o1, Ar, cr, rfl, e1, hr2, _⟩ := k2.getSl hr
  obtain ⟨b2, o2, Al, cl, rfl, e2, hl2, _⟩ := hr2.getSl (hrj j hj)
  rw [hok.rows] at a2
  rw [show r.length = σ.sta.length from hrl] at e1
  exact ⟨b1, o1, c2, b2, o2, cr, Al, cl, a2, e1, e2, hl2⟩
end Go.Proofs.Ytnkgfgkgepadhaa

namespace Go.Proofs.Ytnkgfgkgepadhaa
open Go.RowKit
set_option linter.unusedVariables false
set_option linter.unusedSimpArgs false

/-- What a call of the reference leaves: a net, an error. -/
def RPost (F : MS) (w : World) (c : Int) (σ' : Net) (e : Ending) (w' : World) : Prop := ∃ b' X, e = .returned (.tuple #[.pointer (some ⟨b', 0, none⟩), .int .i64 c]) ∧ RdRef (X + F) σ' b' ∧ Has w' (X + F) ∧ Ext w w'
/-- events of a station are what its own clock says. -/
def CkOk (σ : Net) : Prop := ∀ (k : Nat) (s : Sta), σ.sta[k]? = some s → s.events = s.clock.getD k 0

set_option maxHeartbeats 2000000
set_option maxRecDepth 100000
theorem rrecv_err {F : MS} {σ : Net} {b : Nat} {w : World} (hr : RdRef F σ b) (hH : Has w F) (x y : Int) (h1 : pairErr σ.sta.length x y = 2) :
    Calls Try.prog 70 #[.pointer (some ⟨b, 0, none⟩), .int .i64 x, .int .i64 y] w (RPost F w 2 σ) := by
  obtain ⟨A0, c0, A2, c2, A3, c3, A4, c4, a0, k0, a2, k2, a3, k3, a4, k4⟩ := hr.head
  have f0 := a0.cell0 hH
  have Hends := hid (ends_ref f0 x y)
  rw [h1] at Hends
  have Hr := hid hr
  have HH := hid hH
  clear a0 k0 a2 k2 a3 k3 a4 k4 hr hH h1
  go_enter Try.func70, Try.ntmps70
  go_wp2_with (go_at_call 73; refine Hends.out.mono ?_; rintro e w' ⟨rfl, rfl⟩)
  go_ret2
  exact ⟨b, 0, rfl, Hr.out.same, HH.out.same, Ext.refl w⟩
theorem rrecv_nil {F : MS} {σ : Net} {b : Nat} {w : World} (hok : NetOk σ) (hr : RdRef F σ b) (hH : Has w F) (i j : Nat) (hi : i < σ.sta.length) (hj : j < σ.sta.length) (h1 : pairErr σ.sta.length i j = 0) (hl : σ.lineAt i j = []) :
    Calls Try.prog 70 #[.pointer (some ⟨b, 0, none⟩), .int .i64 i, .int .i64 j] w (RPost F w 6 σ) := by
  obtain ⟨A0, c0, A2, c2, A3, c3, A4, c4, a0, k0, _, _, a3, k3, a4, k4⟩ := hr.head
  obtain ⟨bl, ol, cl, b2, o2, c2, A, c, l1, l2, l3, l4⟩ := hr.line hok hi hj
  rw [hl] at l3
  have f0 := a0.cell0 hH
  have f1 := l1.cell0 hH
  have f2 := l2.cell0 hH
  have f3 := l3.cell0 hH
  have Hends := hid (ends_ref f0 i j)
  rw [h1] at Hends
  have Hr := hid hr
  have HH := hid hH
  have hiI : (i : Int) < σ.sta.length := by omega
  have hjI : (j : Int) < σ.sta.length := by omega
  clear a0 k0 a3 k3 a4 k4 hr hH h1 l1 l2 l3 l4 hl hok
  go_enter Try.func70, Try.ntmps70
  go_wp2_with (go_at_call 73; refine Hends.out.mono ?_; rintro e w' ⟨rfl, rfl⟩)
  go_ret2
  exact ⟨b, 0, rfl, Hr.out.same, HH.out.same, Ext.refl w⟩
theorem rrecv_full {F : MS} {σ : Net} {b : Nat} {w : World} (hok : NetOk σ) (hr : RdRef F σ b) (hH : Has w F) (i j : Nat) (hi : i < σ.sta.length) (hj : j < σ.sta.length) (h1 : pairErr σ.sta.length i j = 0) (z : Msg) (l : List Msg) (hl : σ.lineAt i j = z :: l) (hz : 0 < z.told) (he : 400 ≤ σ.evs.length) :
    Calls Try.prog 70 #[.pointer (some ⟨b, 0, none⟩), .int .i64 i, .int .i64 j] w (RPost F w 8 σ) := by
  obtain ⟨A0, c0, A2, c2, A3, c3, A4, c4, a0, k0, _, _, a3, k3, a4, k4⟩ := hr.head
  obtain ⟨bl, ol, cl, b2, o2, c2, A, c, l1, l2, l3, l4⟩ := hr.line hok hi hj
  rw [hl] at l3 l4
  obtain ⟨bm, om, Ac, cc, rfl, m1, m2, m3⟩ := l4.getRmsg (i := 0) (x := z) rfl
  simp only [Nat.zero_mul, Nat.add_zero] at m1 m2
  have f0 := a0.cell0 hH
  have f1 := l1.cell0 hH
  have f2 := l2.cell0 hH
  have f3 := l3.cell0 hH
  have f4 := m1.cell0 hH
  have f5 := m2.cell0 hH
  have Hends := hid (ends_ref f0 i j)
  rw [h1] at Hends
  have HA := hH.alloc (.cells #[.int .i64 z.told, .slice Ac z.clock.length cc] 127)
  have f6 : (w.alloc (.cells #[.int .i64 z.told, .slice Ac z.clock.length cc] 127)).cell? ⟨b, 3, none⟩ = some (.slice A3 σ.evs.length c3) := MS.at.cell a3 HA
  have f7 : (w.alloc (.cells #[.int .i64 z.told, .slice Ac z.clock.length cc] 127)).cell? ⟨w.heap.size, 0, none⟩ = some (.int .i64 z.told) := Has.at_ (p := w.heap.size) (F := F) (cs := #[.int .i64 z.told, .slice Ac z.clock.length cc]) (e := 127) (i := 0) HA rfl
  have Hr := hid hr
  have HH := hid HA
  have hiI : (i : Int) < σ.sta.length := by omega
  have hjI : (j : Int) < σ.sta.length := by omega
  have heI : (400 : Int) ≤ σ.evs.length := by omega
  have hlenI : (0 : Int) < (z :: l).length := by simp only [List.length_cons]; omega
  simp only [List.length_cons] at f3
  clear a0 k0 a3 k3 a4 k4 hr hH h1 l1 l2 l3 l4 hl hok m1 m2 m3 HA
  go_enter Try.func70, Try.ntmps70
  go_wp2_with (go_at_call 73; refine Hends.out.mono ?_; rintro e w' ⟨rfl, rfl⟩)
  go_ret2
  exact ⟨b, _, rfl, Hr.out.more _, HH.out, Ext.alloc _ _⟩

theorem rrecv_marker {F : MS} {σ : Net} {b : Nat} {w : World} (hok : NetOk σ) (hck : CkOk σ) (hr : RdRef F σ b) (hH : Has w F) (i j : Nat) (hi : i < σ.sta.length) (hj : j < σ.sta.length) (h1 : pairErr σ.sta.length i j = 0) (z : Msg) (l : List Msg) (hl : σ.lineAt i j = z :: l)
    (k : Nat) (hz : z.told = -((k : Int) + 1)) (hk : k < σ.shots.length) :
    Calls Try.prog 70 #[.pointer (some ⟨b, 0, none⟩), .int .i64 i, .int .i64 j] w (RPost F w 0 ((σ.drop i j).heard i j k)) := by
  obtain ⟨A0, c0, A2, c2, A3, c3, A4, c4, a0, k0, _, _, a3, k3, a4, k4⟩ := hr.head
  obtain ⟨bl, ol, cl, b2, o2, c2, A, c, l1, l2, l3, l4⟩ := hr.line hok hi hj
  rw [hl] at l3 l4
  obtain ⟨bm, om, Ac, cc, rfl, m1, m2, m3⟩ := l4.getRmsg (i := 0) (x := z) rfl
  simp only [Nat.zero_mul, Nat.add_zero] at m1 m2
  have f0 := a0.cell0 hH
  have f1 := l1.cell0 hH
  have f2 := l2.cell0 hH
  have f3 := l3.cell0 hH
  have f4 := m1.cell0 hH
  have f5 := m2.cell0 hH
  have Hends := hid (ends_ref f0 i j)
  rw [h1] at Hends
  have HA := hH.alloc (.cells #[.int .i64 z.told, .slice Ac z.clock.length cc] 127)
  obtain ⟨G, hG⟩ : ∃ G, G = pts w.heap.size (.cells #[.int .i64 z.told, .slice Ac z.clock.length cc] 127) := ⟨_, rfl⟩
  rw [← hG] at HA
  have f7 : ∀ W X, Has W (X + (G + F)) → W.cell? ⟨w.heap.size, 0, none⟩ = some (.int .i64 z.told) := fun W X h => Has.at_ (p := w.heap.size) (i := 0) (F := X + F) (cs := #[.int .i64 z.told, .slice Ac z.clock.length cc]) (e := 127) (h.eq (by rw [hG]; unfold blk; ac_rfl)) rfl
  have g7 := f7 _ 0 (by rw [MS.zero_add]; exact HA)
  have Hf7 := hid f7
  have Hr := hid (hr.more G)
  have HH := hid HA
  have Hc := hid (rcopy_any hok (hr.more G) HA)
  have hiI : (i : Int) < σ.sta.length := by omega
  have hjI : (j : Int) < σ.sta.length := by omega
  have hkI : (k : Int) < 8 := by have := hok.shots; omega
  have hw1 : IntKind.i64.wrap (-z.told) = (k : Int) + 1 := by rw [hz, IntKind.wrap_i64]; omega
  have hw2 : IntKind.i64.wrap ((k : Int) + 1 - 1) = (k : Int) := by rw [IntKind.wrap_i64]; omega
  have hz0 : z.told < 0 := by omega
  simp only [List.length_cons] at f3
  obtain ⟨r, hrr, hrl, hrj⟩ := chan_get hok hi
  have hdrop : (σ.drop i j).sta = σ.sta ∧ (σ.drop i j).shots = σ.shots := by unfold Net.drop; rw [hrr]; exact ⟨rfl, rfl⟩
  obtain ⟨s, hs⟩ : ∃ s, σ.sta[j]? = some s := ⟨_, List.getElem?_eq_getElem hj⟩
  obtain ⟨x, hx⟩ : ∃ x, σ.shots[k]? = some x := ⟨_, List.getElem?_eq_getElem hk⟩
  have Hpop := hid (fun b' m' (h : IsRef (G + F) σ b' m') => h.popping hrr (show r[j]? = some (z :: l) by rw [← hl]; exact hrj j hj))
  have Hmark := hid (fun (w' : World) (b' : Nat) (m' : MS) (h : IsRef (G + F) (σ.drop i j) b' m') (hw : Has w' (m' + (G + F))) => rmarker_any (hok.drop i j) h hw i j k (by rw [hdrop.1]; exact hi) s (by rw [hdrop.1]; exact hs) (hck j s hs) x (by rw [hdrop.2]; exact hx))
  have Hlen := hid (And.intro hok.rows hrl)
  have HG := hid hG
  clear a0 k0 a3 k3 a4 k4 hr hH h1 l1 l2 l3 l4 hl hok m1 m2 m3 HA hG f7 hdrop hrr hrl hrj hck hs hx hz
  go_enter Try.func70, Try.ntmps70
  go_wp2_with (first
    | (go_at_call 73; refine Hends.out.mono ?_; rintro e w' ⟨rfl, rfl⟩)
    | (go_at_call 88; refine Hc.out.mono ?_; rintro e w1 ⟨b1, mr, rfl, j1, j2, j3⟩; have J1 := hid j1; have J2 := hid j2; have J3 := hid j3; clear j1 j2 j3))
  obtain ⟨hd, bq, oq, cq, cur1, b3, o3, c3', cur2, bz, oz, cz, R, hmr, y2, y3, y4, y5, y6, hnew⟩ := Hpop.out b1 mr J1.out
  rw [Hlen.out.1] at y2
  rw [show r.length = σ.sta.length from Hlen.out.2] at y3
  have keep : ∀ (W : World) (X : MS), Has W (X + (blk b1 hd 118 + (blk bq cur1 119 + blk b3 cur2 125))) → W.cell? ⟨b1, 2, none⟩ = some (.slice (some ⟨bq, oq, none⟩) σ.sta.length cq) ∧ W.cell? ⟨bq, oq + i, none⟩ = some (.slice (some ⟨b3, o3, none⟩) σ.sta.length c3') ∧ W.cell? ⟨b3, o3 + j, none⟩ = some (.slice (some ⟨bz, oz, none⟩) (l.length + 1) cz) := fun W X h =>
    ⟨(h.eq (b := blk b1 hd 118 + (X + (blk bq cur1 119 + blk b3 cur2 125))) (by ac_rfl)).at_ y2, (h.eq (b := blk bq cur1 119 + (X + (blk b1 hd 118 + blk b3 cur2 125))) (by ac_rfl)).at_ y3, (h.eq (b := blk b3 cur2 125 + (X + (blk b1 hd 118 + blk bq cur1 119))) (by ac_rfl)).at_ y4⟩
  have H7 := hid (show Has w1.drew ((R + (G + F)) + (blk b1 hd 118 + (blk bq cur1 119 + blk b3 cur2 125))) from J2.out.drew.eq (by rw [hmr]; ac_rfl))
  have hS := keep _ _ H7.out
  have Hy4 := hid (arr_lt y4)
  have Hnew := hid hnew
  clear keep y2 y3 y4 hnew hmr
  refine wp_region_txt (fun W => W.cell? ⟨b1, 2, none⟩ = some (.slice (some ⟨bq, oq, none⟩) σ.sta.length cq) ∧ W.cell? ⟨bq, oq + i, none⟩ = some (.slice (some ⟨b3, o3, none⟩) σ.sta.length c3') ∧ W.cell? ⟨b3, o3 + j, none⟩ = some (.slice (some ⟨bz, oz, none⟩) (l.length + 1) cz)) (some 20)
    [(0, true), (1, true), (2, true), (3, true), (4, true), (5, true), (6, true), (7, true), (8, true), (9, true), (10, true), (11, true), (12, true), (13, true), (14, true), (15, true), (16, true), (17, true), (18, true), (19, true), (20, false)] (by kernel_rfl) rfl (by kernel_rfl) (by kernel_rfl) (by repeat (first | with_reducible refine PanicOk.thn ?_ | with_reducible refine PanicOk.blk ?_ | exact PanicOk.body _ _ _)) ?_
  repeat
    (refine txt_quiet ?_ hS rfl rfl (fun W hW => ?_) ?_
     rotate_left 1
     · obtain ⟨hW1, hW2, hW3⟩ := hW
       go_simp
       exact rfl
     simp only [Act.put, List.setIfInBounds_toArray, List.set_cons_zero, List.set_cons_succ])
  refine txt_quiet (.slice (some ⟨bz, restOff2 cz oz, none⟩) l.length (cz - 1)) hS rfl rfl (fun W hW => ?_) ?_
  · exact run_slice125 (slice125 bz oz l.length cz W)
  simp only [Act.put, List.setIfInBounds_toArray, List.set_cons_zero, List.set_cons_succ]
  repeat
    (refine txt_quiet ?_ hS rfl rfl (fun W hW => ?_) ?_
     rotate_left 1
     · obtain ⟨hW1, hW2, hW3⟩ := hW
       go_simp
       exact rfl
     simp only [Act.put, List.setIfInBounds_toArray, List.set_cons_zero, List.set_cons_succ])
  refine txt_op rfl rfl ?_
  refine op_store_blk (.tmp 76) (.tmp 75) 125 rfl size125' b3 (o3 + j) (.slice (some ⟨bz, restOff2 cz oz, none⟩) l.length (cz - 1)) rfl rfl rfl cur2 125 _ (H7.out.eq (b := blk b3 cur2 125 + (blk b1 hd 118 + (blk bq cur1 119 + R) + (G + F))) (by ac_rfl)) Hy4.out ?_
  intro w9 j7 j8
  refine ⟨fun h => absurd rfl h, ?_⟩
  simp only [Act.put]
  refine txt_done ?_
  have H9 := hid (show Has w9 ((blk b1 hd 118 + (blk bq cur1 119 + (blk b3 (cur2.setIfInBounds (o3 + j) (.slice (some ⟨bz, restOff2 cz oz, none⟩) l.length (cz - 1))) 125 + R))) + (G + F)) from j7.eq (by ac_rfl))
  have E9 := hid (((Ext.alloc w _).trans J3.out).trans ((Ext.drew _).trans j8))
  have g9 := Hf7.out w9 _ H9.out
  clear hS j7 j8 H7
  go_wp2_with (go_at_call 92; refine (Hmark.out w9 b1 _ Hnew.out H9.out).mono ?_; rintro e w5 ⟨rfl, m5, k1, k2, k3⟩; have K1 := hid k1; have K2 := hid k2; have K3 := hid k3; clear k1 k2 k3)
  go_ret2
  exact ⟨b1, m5 + G, rfl, by rw [MS.add_assoc]; exact K1.out.rd, K2.out.eq (by ac_rfl), E9.out.trans K3.out⟩
end Go.Proofs.Ytnkgfgkgepadhaa

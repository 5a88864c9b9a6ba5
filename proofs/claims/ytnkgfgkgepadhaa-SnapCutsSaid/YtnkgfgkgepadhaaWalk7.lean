/-
  The walk of take: a parcel comes.
-/
import Derived.Test.YtnkgfgkgepadhaaWalk6
namespace Go.Proofs.Ytnkgfgkgepadhaa
open Go.RowKit
set_option linter.unusedVariables false
set_option linter.unusedSimpArgs false

/-- A row of ints in a block. -/
def IntsAt (l : List Int) (off n c : Nat) (cur : Array Value) : Prop := l.length = n ∧ n ≤ c ∧ c ≤ maxLen ∧ off + c ≤ cur.size ∧ ∀ j, j < n → cur[off + j]? = (l.map (Value.int .i64))[j]?
theorem Ints.at_ {l : List Int} {v : Value} {m : MS} (h : Ints l v m) (hl : 0 < l.length) : ∃ b off c cur, v = .slice (some ⟨b, off, none⟩) l.length c ∧ m = blk b cur 3 ∧ IntsAt l off l.length c cur := by
  have h1 := Ints.cells h
  rcases h1.2 with ⟨_, h0, _⟩ | ⟨b, off, c, cur, rfl, rfl, k1, k2, k3, k4⟩
  · omega
  · exact ⟨b, off, c, cur, rfl, rfl, rfl, k1, k2, by simpa using k3, fun j hj => k4 j (by omega)⟩
theorem IntsAt.ints {l : List Int} {off n c b : Nat} {cur : Array Value} (h : IntsAt l off n c cur) : Ints l (.slice (some ⟨b, off, none⟩) n c) (blk b cur 3) := by
  obtain ⟨rfl, h1, h2, h3, h4⟩ := h
  exact Ints.of ⟨by simp, .inr ⟨b, off, c, cur, rfl, rfl, h1, h2, by omega, fun j hj => h4 j (by omega)⟩⟩
theorem IntsAt.get {l : List Int} {off n c : Nat} {cur : Array Value} (h : IntsAt l off n c cur) {j : Nat} (hj : j < n) : cur[off + j]? = some (.int .i64 (l.getD j 0)) := by
  obtain ⟨rfl, h1, h2, h3, h4⟩ := h
  rw [h4 j hj]
  simp [hj]
theorem IntsAt.set {l : List Int} {off n c : Nat} {cur : Array Value} (h : IntsAt l off n c cur) {j : Nat} (hj : j < n) (u : Int) : IntsAt (l.set j u) off n c (cur.setIfInBounds (off + j) (.int .i64 u)) := by
  have hg := h.get hj
  obtain ⟨rfl, h1, h2, h3, h4⟩ := h
  refine ⟨by simp, h1, h2, by simpa using h3, fun k hk => ?_⟩
  by_cases hjk : j = k
  · subst hjk
    rw [arr_eq (arr_lt hg)]
    simp [hk]
  · rw [Array.getElem?_setIfInBounds_ne (by omega), h4 k hk, List.getElem?_map, List.getElem?_map, List.getElem?_set_ne hjk]

theorem mergeTo_length (c m : List Int) (j : Nat) : ∀ t, (mergeTo c m j t).length = c.length
  | 0 => rfl
  | t + 1 => by unfold mergeTo; split <;> simp [mergeTo_length c m j t]
theorem getD_bound {l : List Int} {a : Int} (h : ∀ t ∈ l, 0 ≤ t ∧ t ≤ a) (ha : 0 ≤ a) (j : Nat) : 0 ≤ l.getD j 0 ∧ l.getD j 0 ≤ a := by
  by_cases hj : j < l.length
  · have : l.getD j 0 = l[j] := by simp [hj]
    rw [this]; exact h _ (List.getElem_mem hj)
  · simp [List.getD, List.getElem?_eq_none (by omega : l.length ≤ j), ha]
theorem mergeTo_bound {c m : List Int} {j : Nat} {a : Int} (hc : ∀ t ∈ c, 0 ≤ t ∧ t ≤ a) (hm : ∀ t ∈ m, 0 ≤ t ∧ t ≤ a) (ha : 0 ≤ a) : ∀ t, ∀ u ∈ mergeTo c m j t, 0 ≤ u ∧ u ≤ a
  | 0 => hc
  | t + 1 => by
    unfold mergeTo
    split
    · exact mergeTo_bound hc hm ha t
    · intro u hu
      rcases List.mem_or_eq_of_mem_set hu with h | rfl
      · exact mergeTo_bound hc hm ha t u h
      · have h1 := getD_bound (mergeTo_bound (j := j) hc hm ha t) ha t
        have h2 := getD_bound hm ha t
        omega

theorem Net.underTo_keeps (σ : Net) (i j : Nat) (p : Int) : ∀ t, (σ.underTo i j p t).sta = σ.sta ∧ (σ.underTo i j p t).chan = σ.chan ∧ (σ.underTo i j p t).evs = σ.evs ∧ (σ.underTo i j p t).shots.length = σ.shots.length ∧ ∀ u, t ≤ u → (σ.underTo i j p t).shots[u]? = σ.shots[u]?
  | 0 => ⟨rfl, rfl, rfl, rfl, fun _ _ => rfl⟩
  | t + 1 => by
    obtain ⟨h1, h2, h3, h4, h5⟩ := Net.underTo_keeps σ i j p t
    unfold Net.underTo
    split
    · split
      · exact ⟨h1, h2, h3, by simpa using h4, fun u hu => by rw [List.getElem?_set_ne (by omega)]; exact h5 u (by omega)⟩
      · exact ⟨h1, h2, h3, h4, fun u hu => h5 u (by omega)⟩
    · exact ⟨h1, h2, h3, h4, fun u hu => h5 u (by omega)⟩

/-- What a snapshot has recorded of a channel: what is read, what is written, how the net is shut. -/
theorem IsNet.unders {Pl : MS} {σ : Net} {ps : List Nat} {b : Nat} {m : MS} (h : IsNet Pl σ ps b m) {i j k p : Nat} {x : Shot} {r : List (List Int)} {q : List Int} (hx : σ.shots[k]? = some x) (hp : ps[k]? = some p) (hr : x.under[i]? = some r) (hq : r[j]? = some q) :
    ∃ b2 o2 c2 b3 o3 c3 b4 o4 c4 cur4 vq mq G, m = blk b4 cur4 22 + (mq + G) ∧ cur4[o4 + j]? = some vq ∧ Ints q vq mq ∧
      (∀ W X Y Yq, Has W (blk b4 Y 22 + (Yq + G) + X) → W.cell? ⟨b, 2, none⟩ = some (.slice (some ⟨b2, o2, none⟩) σ.shots.length c2) ∧ W.cell? ⟨b2, o2 + k, none⟩ = some (.pointer (some ⟨p, 0, none⟩)) ∧ W.cell? ⟨p, 4, none⟩ = some (.slice (some ⟨b3, o3, none⟩) x.under.length c3) ∧
        W.cell? ⟨b3, o3 + i, none⟩ = some (.slice (some ⟨b4, o4, none⟩) r.length c4)) ∧
      ∀ q' v' m', Ints q' v' m' → IsNet Pl { σ with shots := σ.shots.set k { x with under := x.under.set i (r.set j q') } } ps b (blk b4 (cur4.setIfInBounds (o4 + j) v') 22 + (m' + G)) := by
  obtain ⟨hd, b2, o2, c2, cur2, cp, v0, v1, v2, v3, v4, m0, m1, m2, m3, m4, vst, mst, R, rfl, i0, hst, i2, i2e, p0, p1, p2, p3, p4, hrec, hclo, hcut, hpie, hund, hput⟩ := h.shot hx hp
  obtain ⟨b3, o3, c3, cur3, b4, o4, c4, cur4, vq, mq, R3, rfl, rfl, e1, e2, hqq, hput1⟩ := ints3At hund hr hq
  refine ⟨b2, o2, c2, b3, o3, c3, b4, o4, c4, cur4, vq, mq, blk b hd 84 + (blk b2 cur2 101 + (blk p cp 109 + ((m0 + (m1 + (m2 + (m3 + (blk b3 cur3 44 + R3))))) + (mst + R)))), by ac_rfl, e2, hqq, fun W X Y Yq hW => ⟨?_, ?_, ?_, ?_⟩, fun q' v' m' hq' => ?_⟩
  · exact (hW.eq (b := blk b hd 84 + (blk b4 Y 22 + (Yq + (blk b2 cur2 101 + (blk p cp 109 + ((m0 + (m1 + (m2 + (m3 + (blk b3 cur3 44 + R3))))) + (mst + R))))) + X)) (by ac_rfl)).at_ i2
  · exact (hW.eq (b := blk b2 cur2 101 + (blk b4 Y 22 + (Yq + (blk b hd 84 + (blk p cp 109 + ((m0 + (m1 + (m2 + (m3 + (blk b3 cur3 44 + R3))))) + (mst + R))))) + X)) (by ac_rfl)).at_ i2e
  · exact (hW.eq (b := blk p cp 109 + (blk b4 Y 22 + (Yq + (blk b hd 84 + (blk b2 cur2 101 + ((m0 + (m1 + (m2 + (m3 + (blk b3 cur3 44 + R3))))) + (mst + R))))) + X)) (by ac_rfl)).at_ p4
  · exact (hW.eq (b := blk b3 cur3 44 + (blk b4 Y 22 + (Yq + (blk b hd 84 + (blk b2 cur2 101 + (blk p cp 109 + ((m0 + (m1 + (m2 + (m3 + R3)))) + (mst + R)))))) + X)) (by ac_rfl)).at_ e1
  · have hn := hput { x with under := x.under.set i (r.set j q') } _ _ _ _ _ hrec hclo hcut hpie (hput1 q' v' m' hq')
    have e : blk b4 (cur4.setIfInBounds (o4 + j) v') 22 + (m' + (blk b hd 84 + (blk b2 cur2 101 + (blk p cp 109 + ((m0 + (m1 + (m2 + (m3 + (blk b3 cur3 44 + R3))))) + (mst + R)))))) =
        blk b hd 84 + (blk b2 cur2 101 + (blk p cp 109 + ((m0 + (m1 + (m2 + (m3 + (blk b3 cur3 44 + (blk b4 (cur4.setIfInBounds (o4 + j) v') 22 + (m' + R3))))))) + (mst + R)))) := by ac_rfl
    rw [e]
    exact hn
/-- The header of the snapshots, and one of them. -/
theorem IsNet.shotPtr {Pl : MS} {σ : Net} {ps : List Nat} {b : Nat} {m : MS} (h : IsNet Pl σ ps b m) {k p : Nat} {x : Shot} (hx : σ.shots[k]? = some x) (hp : ps[k]? = some p) :
    ∃ b2 o2 c2, ∀ W X, Has W (m + X) → W.cell? ⟨b, 2, none⟩ = some (.slice (some ⟨b2, o2, none⟩) σ.shots.length c2) ∧ W.cell? ⟨b2, o2 + k, none⟩ = some (.pointer (some ⟨p, 0, none⟩)) := by
  obtain ⟨hd, b2, o2, c2, cur2, cp, v0, v1, v2, v3, v4, m0, m1, m2, m3, m4, vst, mst, R, rfl, i0, hst, i2, i2e, p0, p1, p2, p3, p4, hrec, hclo, hcut, hpie, hund, hput⟩ := h.shot hx hp
  refine ⟨b2, o2, c2, fun W X hW => ⟨?_, ?_⟩⟩
  · exact (hW.eq (b := blk b hd 84 + (blk b2 cur2 101 + (blk p cp 109 + ((m0 + (m1 + (m2 + (m3 + m4)))) + (mst + R))) + X)) (by ac_rfl)).at_ i2
  · exact (hW.eq (b := blk b2 cur2 101 + (blk b hd 84 + (blk p cp 109 + ((m0 + (m1 + (m2 + (m3 + m4)))) + (mst + R))) + X)) (by ac_rfl)).at_ i2e
theorem IsNet.shotHead {Pl : MS} {σ : Net} {ps : List Nat} {b : Nat} {m : MS} (h : IsNet Pl σ ps b m) : ∃ A c, (A = none → σ.shots.length = 0) ∧ ∀ W X, Has W (m + X) → W.cell? ⟨b, 2, none⟩ = some (.slice A σ.shots.length c) := by
  obtain ⟨hd, R, rfl, _, _, _, ⟨A, c, h2, hn, _⟩, _⟩ := h.heads
  exact ⟨A, c, hn, fun W X hW => (hW.eq (b := blk b hd 84 + (R + X)) (by ac_rfl)).at_ h2⟩

/-- What the loop over the clock keeps. -/
def MergeInv (G : MS) (w : World) (c m : List Int) (j bc off n cc : Nat) (v : Value) (wr : World) : Prop :=
  ∃ t : Nat, t ≤ m.length ∧ v = .int .i64 t ∧ ∃ cur, IntsAt (mergeTo c m j t) off n cc cur ∧ Has wr (blk bc cur 3 + G) ∧ Ext w wr
/-- What the loop over the snapshots keeps. -/
def UnderInv (Pl F : MS) (w : World) (σ : Net) (ps : List Nat) (b i j : Nat) (p : Int) (V : Value) (v : Value) (wr : World) : Prop :=
  ∃ t : Nat, t ≤ σ.shots.length ∧ v = .int .i64 t ∧ wr.cell? ⟨b, 2, none⟩ = some V ∧ ∃ mt, Has wr (mt + (Pl + F)) ∧ Ext w wr ∧ IsNet Pl (σ.underTo i j p t) ps b mt

set_option maxHeartbeats 2000000 in
set_option maxRecDepth 100000 in
theorem take_any (Pl F : MS) (σ : Net) (ps : List Nat) (b : Nat) (m : MS) (w : World) (hok : NetOk σ) (hnet : IsNet Pl σ ps b m) (hH : Has w (m + (Pl + F))) (i j : Nat) (hi : i < σ.sta.length) (hj : j < σ.sta.length) (x : Msg)
    (h0 : 0 < x.told) (h1 : x.told ≤ 1000000) (hcl : x.clock.length = σ.sta.length) (hct : ∀ t ∈ x.clock, 0 ≤ t ∧ t ≤ σ.evs.length) (hev : σ.evs.length < 400) (vc : Value) (mc Pr : MS) (hvc : Ints x.clock vc mc) (hPl : Pl = mc + Pr) :
    Calls Try.prog 52 #[.pointer (some ⟨b, 0, none⟩), .int .i64 i, .int .i64 j, .agg #[.int .i64 x.told, vc]] w fun e w' => e = .returned (.tuple #[]) ∧ ∃ m', Has w' (m' + (Pl + F)) ∧ Ext w w' ∧ IsNet Pl (σ.take i j x) ps b m' := by
  obtain ⟨s, hs⟩ : ∃ s, σ.sta[j]? = some s := ⟨_, List.getElem?_eq_getElem hj⟩
  obtain ⟨q1, q2, q3, q4, q5, q6⟩ := hok.sta s (List.mem_of_getElem? hs)
  obtain ⟨hd, bs, o, c, cur, vk, mk, R, rfl, i0, i1, i2, i3, hclk, hput⟩ := hnet.station hs
  have hn2 := hok.n2
  have hn5 := hok.n5
  obtain ⟨bc, offc, cc, curc, rfl, rfl, hA⟩ := hclk.at_ (by omega)
  obtain ⟨bm, offm, cm, curm, rfl, rfl, hM⟩ := hvc.at_ (by omega)
  have HB := hH.alloc (.cells #[.int .i64 x.told, .slice (some ⟨bm, offm, none⟩) x.clock.length cm] 96)
  have f0 : (w.alloc (.cells #[.int .i64 x.told, .slice (some ⟨bm, offm, none⟩) x.clock.length cm] 96)).cell? ⟨b, 0, none⟩ = some (.slice (some ⟨bs, o, none⟩) σ.sta.length c) := (HB.eq (b := blk b hd 84 + (blk w.heap.size #[.int .i64 x.told, .slice (some ⟨bm, offm, none⟩) x.clock.length cm] 96 + (blk bs cur 107 + (blk bc curc 3 + R)) + (Pl + F))) (by unfold blk; ac_rfl)).at_ i0
  have Hput := hid hput
  have Hnet := hid hnet
  have HH := hid HB
  have Hok := hid hok
  have Hi := hid (And.intro i0 (And.intro i1 (And.intro i2 i3)))
  have HA := hid hA
  have HM := hid hM
  have Hb := hid (And.intro hct q6)
  have Hp := hid hPl
  have Hl := hid (And.intro hcl q1)
  clear hok hput hnet hH HB i0 i1 i2 i3 hA hM hct q6 hclk hvc hPl q1 hcl
  have Hs := hid hs
  clear hs
  go_enter Try.func52, Try.ntmps52
  go_wp2
  generalize hB : w.heap.size = B at *
  generalize hW1 : w.alloc _ = w1 at *
  have HB1 := HH.out
  obtain ⟨i0, i1, i2, i3⟩ := Hi.out
  have HC : Has w1.drew (blk bs cur 107 + (blk B #[.int .i64 x.told, .slice (some ⟨bm, offm, none⟩) x.clock.length cm] 96 + (blk b hd 84 + (blk bc curc 3 + R)) + (Pl + F))) := HB1.drew.eq (by unfold blk; ac_rfl)
  have g1 : w1.drew.cell? ⟨bs, o + j * 3, none⟩ = some (.int .i64 s.pieces) := HC.at_ i1
  have g2 : w1.drew.cell? ⟨B, 0, none⟩ = some (.int .i64 x.told) := (HC.eq (b := blk B #[.int .i64 x.told, .slice (some ⟨bm, offm, none⟩) x.clock.length cm] 96 + (blk bs cur 107 + (blk b hd 84 + (blk bc curc 3 + R)) + (Pl + F))) (by ac_rfl)).at_ rfl
  have hS : w1.drew.cell? ⟨bs, o + j * 3, none⟩ = some (.int .i64 s.pieces) ∧ w1.drew.cell? ⟨B, 0, none⟩ = some (.int .i64 x.told) := ⟨g1, g2⟩
  clear g1 g2 f0 HB1
  have hsum : s.pieces + x.told ≤ 1000000000000 := by omega
  have hsum0 : 0 ≤ s.pieces + x.told := by omega
  have hwr : IntKind.i64.wrap (s.pieces + x.told) = s.pieces + x.told := by rw [IntKind.wrap_i64]; omega
  refine wp_region_txt (fun W => W.cell? ⟨bs, o + j * 3, none⟩ = some (.int .i64 s.pieces) ∧ W.cell? ⟨B, 0, none⟩ = some (.int .i64 x.told)) (some 9)
    [(0, true), (1, true), (2, true), (3, true), (4, true), (5, true), (6, true), (7, true), (8, true), (9, false)]
    (by kernel_rfl) rfl (by kernel_rfl) (by kernel_rfl) (by repeat (first | exact PanicOk.body _ _ _ | refine PanicOk.thn ?_ | refine PanicOk.blk ?_)) ?_
  repeat
    (refine txt_quiet ?_ hS rfl rfl (fun W hW => ?_) ?_
     rotate_left 1
     · obtain ⟨hW1, hW2⟩ := hW
       go_simp
       exact rfl
     simp only [Act.put, List.setIfInBounds_toArray, List.set_cons_zero, List.set_cons_succ])
  refine txt_op rfl rfl ?_
  refine op_store_blk (.tmp 27) (.tmp 25) 3 rfl size3 bs (o + j * 3) (.int .i64 (s.pieces + x.told)) rfl rfl rfl cur 107 _ HC (arr_lt i1) ?_
  intro w2 H2 E2
  refine ⟨fun h => absurd rfl h, ?_⟩
  simp only [Act.put]
  refine txt_done ?_
  clear hS HC
  have hG : ∀ W curc', Has W (blk bc curc' 3 + (blk bs (cur.setIfInBounds (o + j * 3) (.int .i64 (s.pieces + x.told))) 107 + (blk B #[.int .i64 x.told, .slice (some ⟨bm, offm, none⟩) x.clock.length cm] 96 + (blk b hd 84 + R) + (Pl + F)))) →
      W.cell? ⟨bs, o + j * 3 + 2, none⟩ = some (.slice (some ⟨bc, offc, none⟩) s.clock.length cc) ∧ W.cell? ⟨B, 0, none⟩ = some (.int .i64 x.told) ∧ W.cell? ⟨B, 1, none⟩ = some (.slice (some ⟨bm, offm, none⟩) x.clock.length cm) ∧
      (∀ t, t < x.clock.length → W.cell? ⟨bm, offm + t, none⟩ = some (.int .i64 (x.clock.getD t 0))) := fun W curc' h =>
    ⟨(h.eq (b := blk bs (cur.setIfInBounds (o + j * 3) (.int .i64 (s.pieces + x.told))) 107 + (blk bc curc' 3 + (blk B #[.int .i64 x.told, .slice (some ⟨bm, offm, none⟩) x.clock.length cm] 96 + (blk b hd 84 + R) + (Pl + F)))) (by ac_rfl)).at_ (arr_ne i3 (by omega)),
     (h.eq (b := blk B #[.int .i64 x.told, .slice (some ⟨bm, offm, none⟩) x.clock.length cm] 96 + (blk bs (cur.setIfInBounds (o + j * 3) (.int .i64 (s.pieces + x.told))) 107 + (blk bc curc' 3 + ((blk b hd 84 + R) + (Pl + F))))) (by ac_rfl)).at_ rfl,
     (h.eq (b := blk B #[.int .i64 x.told, .slice (some ⟨bm, offm, none⟩) x.clock.length cm] 96 + (blk bs (cur.setIfInBounds (o + j * 3) (.int .i64 (s.pieces + x.told))) 107 + (blk bc curc' 3 + ((blk b hd 84 + R) + (Pl + F))))) (by ac_rfl)).at_ rfl,
     fun t ht => (h.eq (b := blk bm curm 3 + (blk B #[.int .i64 x.told, .slice (some ⟨bm, offm, none⟩) x.clock.length cm] 96 + (blk bs (cur.setIfInBounds (o + j * 3) (.int .i64 (s.pieces + x.told))) 107 + (blk bc curc' 3 + ((blk b hd 84 + R) + (Pr + F)))))) (by rw [Hp.out]; ac_rfl)).at_ (HM.out.get ht)⟩
  generalize hGG : blk bs (cur.setIfInBounds (o + j * 3) (.int .i64 (s.pieces + x.told))) 107 + (blk B #[.int .i64 x.told, .slice (some ⟨bm, offm, none⟩) x.clock.length cm] 96 + (blk b hd 84 + R) + (Pl + F)) = G at hG
  have H3 : Has w2 (blk bc curc 3 + G) := H2.eq (by rw [← hGG]; ac_rfl)
  have HG := hid hG
  have HGG := hid hGG
  obtain ⟨k1, k2, k3, k4⟩ := hG _ _ H3
  have HE2 : Hid (Ext w w2) := hid (((hW1 ▸ Ext.alloc w _ : Ext w w1).trans (Ext.drew _)).trans E2)
  have HH3 := hid H3
  clear hG hGG k4 H2 E2 H3 k1 k2 i0 i1 i2 i3 HH
  go_wp2
  go_loopw [31] (fun v wr => MergeInv G w s.clock x.clock j bc offc s.clock.length cc v wr) (fun v _ => x.clock.length - (intOf v).toNat)
  case atStart => exact ⟨0, Nat.zero_le _, rfl, curc, HA.out, HH3.out, HE2.out⟩
  case round =>
    obtain ⟨t, ht, rfl, curt, hAt, hHt, hEt⟩ := hrel
    obtain ⟨l1, l2, l3, l4⟩ := HG.out _ _ hHt
    by_cases hlt : t < x.clock.length
    · have l5 := l4 t hlt
      obtain ⟨um, hum⟩ : ∃ um, um = x.clock.getD t 0 := ⟨_, rfl⟩
      rw [← hum] at l5
      have hAt' := hid hAt
      have hHt' := hid hHt
      clear l4 hAt hHt
      by_cases htj : t = j
      · subst htj
        go_wp2
        go_roundw
        case rel => exact ⟨t + 1, by omega, by go_num, curt, by unfold mergeTo; rw [if_pos rfl]; exact hAt'.out, hHt'.out, hEt⟩
        case measure => simp [intOf]; omega
      · have hq : ((t : Int) != (j : Int)) = true := by simp; omega
        obtain ⟨hcl, q1⟩ := Hl.out
        have htl : (t : Int) < s.clock.length := by omega
        have htl' : t < s.clock.length := by omega
        have hb5 : (t : Int) < 1000 := by omega
        obtain ⟨ua, hua⟩ : ∃ ua, ua = (mergeTo s.clock x.clock j t).getD t 0 := ⟨_, rfl⟩
        have hga := hAt'.out.get htl'
        rw [← hua] at hga
        have Hua := hid (And.intro hua hum)
        have Hlt := hid hlt
        clear hcl q1 hua hum
        go_wp2
        have hS : wr.drew.cell? ⟨bs, o + j * 3 + 2, none⟩ = some (.slice (some ⟨bc, offc, none⟩) s.clock.length cc) ∧ wr.drew.cell? ⟨bc, offc + t, none⟩ = some (.int .i64 ua) := ⟨l1, hHt'.out.drew.at_ hga⟩
        refine wp_region_txt (fun W => W.cell? ⟨bs, o + j * 3 + 2, none⟩ = some (.slice (some ⟨bc, offc, none⟩) s.clock.length cc) ∧ W.cell? ⟨bc, offc + t, none⟩ = some (.int .i64 ua)) (some 15)
          [(0, true), (1, true), (2, true), (3, true), (4, true), (5, true), (6, true), (7, true), (8, true), (9, true), (10, true), (11, true), (12, true), (13, true), (14, true), (15, false)]
          (by kernel_rfl) rfl (by kernel_rfl) (by kernel_rfl) (by repeat (first | exact PanicOk.body _ _ _ | refine PanicOk.thn ?_ | refine PanicOk.blk ?_)) ?_
        repeat
          (refine txt_quiet ?_ hS rfl rfl (fun W hW => ?_) ?_
           rotate_left 1
           · obtain ⟨hW1, hW2⟩ := hW
             go_simp
             exact rfl
           simp only [Act.put, List.setIfInBounds_toArray, List.set_cons_zero, List.set_cons_succ])
        refine txt_op rfl rfl ?_
        refine op_store_blk (.tmp 53) (.tmp 52) 3 rfl size3 bc (offc + t) (.int .i64 (if ua < um then um else ua)) rfl rfl rfl curt 3 _ hHt'.out.drew (arr_lt hga) ?_
        intro w4 H4 E4
        refine ⟨fun h => absurd rfl h, ?_⟩
        simp only [Act.put]
        refine txt_done ?_
        have HH4 := hid H4
        have HE4 := hid ((hEt.trans (Ext.drew _)).trans E4)
        clear hS H4 E4
        go_wp2
        go_roundw
        case rel => exact ⟨t + 1, Hlt.out, by go_num, _, by unfold mergeTo; rw [if_neg htj, ← Hua.out.1, ← Hua.out.2, show max ua um = (if ua < um then um else ua) by split <;> omega]; exact hAt'.out.set htl' _, HH4.out, HE4.out⟩
        case measure => have := Hlt.out; simp [intOf]; omega
    · obtain rfl : t = x.clock.length := by omega
      obtain ⟨i0, i1, i2, i3⟩ := Hi.out
      obtain ⟨hct, q6⟩ := Hb.out
      obtain ⟨hcl, q1⟩ := Hl.out
      have hs := Hs.out
      have hn1 := Hput.out { pieces := s.pieces + x.told, events := s.events, clock := mergeTo s.clock x.clock j x.clock.length } (cur.setIfInBounds (o + j * 3) (.int .i64 (s.pieces + x.told))) _ _ (by simp)
        (fun u hu => by rw [Array.getElem?_setIfInBounds_ne (by omega)]) (arr_eq (arr_lt i1)) (arr_ne i2 (by omega)) (arr_ne i3 (by omega)) hAt.ints
      have hσ2 : ({ σ with sta := σ.sta.set j { pieces := s.pieces + x.told, events := s.events, clock := mergeTo s.clock x.clock j x.clock.length } } : Net) = (σ.gain j x.told).merge j x.clock := by
        simp only [Net.gain, hs, Net.merge, List.getElem?_set_self hj, List.set_set]
      rw [hσ2] at hn1
      have hs2 : ((σ.gain j x.told).merge j x.clock).sta[j]? = some { pieces := s.pieces + x.told, events := s.events, clock := mergeTo s.clock x.clock j x.clock.length } := by rw [← hσ2]; simp [hj]
      have hev2 : ((σ.gain j x.told).merge j x.clock).evs.length = σ.evs.length := by rw [← hσ2]
      have hsh2 : ((σ.gain j x.told).merge j x.clock).shots = σ.shots := by rw [← hσ2]
      clear hσ2
      have Hf : Hid (σ.take i j x = (((σ.gain j x.told).merge j x.clock).did j 3 i x.told).underTo i j x.told (((σ.gain j x.told).merge j x.clock).did j 3 i x.told).shots.length) := hid rfl
      generalize (σ.gain j x.told).merge j x.clock = σ2 at *
      obtain ⟨d1, d2, d3, d4, d5⟩ := Net.did_at hs2 3 i x.told
      have hm2 := mergeTo_bound (j := j) q6 hct (by omega) x.clock.length
      have hlen2 := mergeTo_length s.clock x.clock j x.clock.length
      have HHt : Has wr (blk b hd 84 + (blk bs (cur.setIfInBounds (o + j * 3) (.int .i64 (s.pieces + x.told))) 107 + (blk bc curt 3 + R)) + (Pl + (blk B #[.int .i64 x.told, .slice (some ⟨bm, offm, none⟩) x.clock.length cm] 96 + F))) := hHt.eq (by rw [← HGG.out]; ac_rfl)
      have hevd := event_did Pl _ σ2 ps b _ wr hn1 HHt j _ hs2 (show j < (mergeTo s.clock x.clock j x.clock.length).length by omega) 3 i x.told q4 (show s.events < 1000000 by omega) (fun u hu => by have := hm2 u hu; omega) (show (mergeTo s.clock x.clock j x.clock.length).length ≤ 1000 by omega) (by omega)
      have Hev := hid hevd
      have Hd := hid (And.intro d3 (And.intro hsh2 Hf.out))
      have HE1 := hid hEt
      generalize hσ3 : σ2.did j 3 i x.told = σ3 at *
      have hdims := hid (fun t y (h : σ.shots[t]? = some y) => Hok.out.shot y (List.mem_of_getElem? h))
      have hsl := hid Hok.out.shots
      clear hs2 hev2 hsh2 Hf d1 d2 d3 d4 d5 hm2 hlen2 hevd hn1 hcl q1 hct q6 hs i0 i1 i2 i3 HHt hHt hEt hAt l1 l3 l4 HG HGG Hput HA HM HH3 HE2 Hok Hi Hnet hσ3
      go_wp2_with (go_at_call 64
                   refine Hev.out.mono ?_
                   rintro e w5 ⟨rfl, m5, H5, E5, hn5'⟩
                   obtain ⟨A2, c2, hA2, hf2⟩ := hn5'.shotHead
                   have f2 := hf2 w5 _ H5
                   have Hn5 := hid hn5'
                   have H5' := hid H5
                   clear hn5' H5 hf2)
      have H0 : UnderInv Pl (blk B #[.int .i64 x.told, .slice (some ⟨bm, offm, none⟩) x.clock.length cm] 96 + F) w σ3 ps b i j x.told (.slice A2 σ3.shots.length c2) (.int .i64 0) w5 := ⟨0, Nat.zero_le _, rfl, f2, m5, H5'.out, HE1.out.trans E5, Hn5.out⟩
      clear f2 E5 Hn5 H5'
      go_loopw [66] (fun v wr => UnderInv Pl (blk B #[.int .i64 x.told, .slice (some ⟨bm, offm, none⟩) x.clock.length cm] 96 + F) w σ3 ps b i j x.told (.slice A2 σ3.shots.length c2) v wr) (fun v _ => σ3.shots.length - (intOf v).toNat)
      case atStart => exact H0
      case round =>
        obtain ⟨t, ht, rfl, f2, mt, hHt, hEt, hNt⟩ := hrel
        by_cases hlt : t < σ3.shots.length
        · obtain ⟨u1, u2, u3, u4, u5⟩ := Net.underTo_keeps σ3 i j x.told t
          obtain ⟨y, hy⟩ : ∃ y, σ3.shots[t]? = some y := ⟨_, List.getElem?_eq_getElem hlt⟩
          have hyt : (σ3.underTo i j x.told t).shots[t]? = some y := (u5 t (Nat.le_refl _)).trans hy
          obtain ⟨p, hp⟩ : ∃ p, ps[t]? = some p := ⟨_, List.getElem?_eq_getElem (by rw [hNt.1, u4]; exact hlt)⟩
          obtain ⟨dd1, dd2, dd3⟩ := Hd.out
          obtain ⟨z1, z2, z3, z4, z5, z6, z7⟩ := hdims.out t y (by rw [← dd2, ← dd1]; exact hy)
          obtain ⟨r, hr⟩ : ∃ r, y.closed[i]? = some r := ⟨_, List.getElem?_eq_getElem (by omega)⟩
          have hrl := z3 r (List.mem_of_getElem? hr)
          obtain ⟨qc, hqc⟩ : ∃ q, r[j]? = some q := ⟨_, List.getElem?_eq_getElem (by omega)⟩
          obtain ⟨q0, hq0⟩ : ∃ q, y.recorded[j]? = some q := ⟨_, List.getElem?_eq_getElem (by omega)⟩
          obtain ⟨b1, o1, c1, hrf⟩ := hNt.recs hyt hp hq0
          obtain ⟨g1, g2⟩ := hrf _ _ hHt
          obtain ⟨bx, ox, cx, hsf⟩ := hNt.shotPtr hyt hp
          obtain ⟨g3, g4⟩ := hsf _ _ hHt
          obtain ⟨rfl, rfl⟩ : A2 = some ⟨bx, ox, none⟩ ∧ c2 = cx := by
            have := f2.symm.trans g3
            simp only [Option.some.injEq, Value.slice.injEq] at this
            exact ⟨this.1, this.2.2⟩
          have bi : (i : Int) < y.closed.length := by omega
          have bj : (j : Int) < r.length := by omega
          have bj2 : (j : Int) < y.recorded.length := by omega
          have bt : (t : Int) < σ3.shots.length := by omega
          have bt2 : (t : Int) < 1000 := by have := congrArg List.length (dd1.trans dd2); have := hsl.out; omega
          have Hlt := hid hlt
          cases q0 with
          | false =>
            have hσ : σ3.underTo i j x.told (t + 1) = σ3.underTo i j x.told t := by
              rw [Net.underTo, hyt]; simp [List.getD, hq0]
            have Hσ := hid hσ
            have Hx := hid (And.intro f2 (And.intro hHt (And.intro hEt hNt)))
            clear hσ hHt hEt hNt hrf hsf g3 hq0 hqc hrl hr z1 z2 z3 z4 z5 z6 z7 dd1 dd2 dd3 hp hyt hy u1 u2 u3 u4 u5
            go_wp2
            go_roundw
            case rel => exact ⟨t + 1, Hlt.out, by go_num, Hx.out.1, mt, Hx.out.2.1, Hx.out.2.2.1, by rw [Hσ.out]; exact Hx.out.2.2.2⟩
            case measure => have := Hlt.out; simp [intOf]; omega
          | true =>
            obtain ⟨b3, o3, c3, b4, o4, c4, cur4, G4, hm4, e4, hf4, _⟩ := hNt.closing hyt hp hr hqc
            obtain ⟨g5, g6⟩ := hf4 _ _ hHt
            have g7 : wr.cell? ⟨b4, o4 + j, none⟩ = some (.bool qc) := (hHt.eq (b := blk b4 cur4 4 + (G4 + (Pl + (blk B #[.int .i64 x.told, .slice (some ⟨bm, offm, none⟩) x.clock.length cm] 96 + F)))) (by rw [hm4]; ac_rfl)).at_ e4
            clear hf4 hm4 e4 hrf hsf g3
            cases qc with
            | true =>
              have hσ : σ3.underTo i j x.told (t + 1) = σ3.underTo i j x.told t := by
                rw [Net.underTo, hyt]; simp [List.getD, hq0, hr, hqc]
              have Hσ := hid hσ
              have Hx := hid (And.intro f2 (And.intro hHt (And.intro hEt hNt)))
              clear hσ hHt hEt hNt hq0 hqc hrl hr z1 z2 z3 z4 z5 z6 z7 dd1 dd2 dd3 hp hyt hy u1 u2 u3 u4 u5
              go_wp2
              go_roundw
              case rel => exact ⟨t + 1, Hlt.out, by go_num, Hx.out.1, mt, Hx.out.2.1, Hx.out.2.2.1, by rw [Hσ.out]; exact Hx.out.2.2.2⟩
              case measure => have := Hlt.out; simp [intOf]; omega
            | false =>
              obtain ⟨r3, hr3⟩ : ∃ r, y.under[i]? = some r := ⟨_, List.getElem?_eq_getElem (by omega)⟩
              obtain ⟨hr3l, hr3b⟩ := z7 r3 (List.mem_of_getElem? hr3)
              obtain ⟨q3, hq3⟩ : ∃ q, r3[j]? = some q := ⟨_, List.getElem?_eq_getElem (by omega)⟩
              have hq3l := hr3b q3 (List.mem_of_getElem? hq3)
              obtain ⟨by2, oy2, cy2, b5, o5, c5, b6, o6, c6, cur6, vq, mq, G6, hm6, e6, hqi, hf6, hput6⟩ := hNt.unders hyt hp hr3 hq3
              have hσ : σ3.underTo i j x.told (t + 1) = { σ3.underTo i j x.told t with shots := (σ3.underTo i j x.told t).shots.set t { y with under := y.under.set i (r3.set j (q3 ++ [x.told])) } } := by
                rw [Net.underTo, hyt]; simp [List.getD, hq0, hr, hqc, hr3, hq3]
              have HVe := hid (f2.symm.trans (hf6 wr _ _ _ (hHt.eq (by rw [hm6]))).1)
              obtain ⟨Aq, cq, rfl, hAq, hcq, _⟩ := (Ints.cells hqi).form
              have bi3 : (i : Int) < y.under.length := by omega
              have bj3 : (j : Int) < r3.length := by omega
              have Hσ := hid hσ
              have Hput6 := hid hput6
              have Hf6 := hid hf6
              have H6 : Has wr (blk b6 cur6 22 + (mq + G6) + (Pl + (blk B #[.int .i64 x.told, .slice (some ⟨bm, offm, none⟩) x.clock.length cm] 96 + F))) := hHt.eq (by rw [hm6])
              have HE6 := hid hEt
              have Hm6 := hid hm6
              clear hσ hput6 hf6 hm6 hHt hEt hNt hq0 hqc hrl hr z1 z2 z3 z4 z5 z6 z7 dd1 dd2 dd3 hp hyt hy u1 u2 u3 u4 u5 hr3 hr3b hq3
              go_wp2
              have facts : ∀ W X Y Yq, Has W (X + (blk b6 Y 22 + (Yq + G6) + (Pl + (blk B #[.int .i64 x.told, .slice (some ⟨bm, offm, none⟩) x.clock.length cm] 96 + F)))) → W.cell? ⟨p, 4, none⟩ = some (.slice (some ⟨b5, o5, none⟩) y.under.length c5) ∧ W.cell? ⟨b5, o5 + i, none⟩ = some (.slice (some ⟨b6, o6, none⟩) r3.length c6) ∧ W.cell? ⟨B, 0, none⟩ = some (.int .i64 x.told) := fun W X Y Yq h => by
                obtain ⟨_, _, h3, h4⟩ := Hf6.out W (X + (Pl + (blk B #[.int .i64 x.told, .slice (some ⟨bm, offm, none⟩) x.clock.length cm] 96 + F))) Y Yq (h.eq (by ac_rfl))
                exact ⟨h3, h4, (h.eq (b := blk B #[.int .i64 x.told, .slice (some ⟨bm, offm, none⟩) x.clock.length cm] 96 + (X + (blk b6 Y 22 + (Yq + G6)) + (Pl + F))) (by ac_rfl)).at_ rfl⟩
              have H7 : Has wr.drew (0 + (blk b6 cur6 22 + (mq + G6) + (Pl + (blk B #[.int .i64 x.told, .slice (some ⟨bm, offm, none⟩) x.clock.length cm] 96 + F)))) := by rw [MS.zero_add]; exact H6.drew
              have gq := (H7.eq (b := blk b6 cur6 22 + (mq + G6 + (Pl + (blk B #[.int .i64 x.told, .slice (some ⟨bm, offm, none⟩) x.clock.length cm] 96 + F)))) (by rw [MS.zero_add]; ac_rfl)).at_ e6
              have hS : wr.drew.cell? ⟨p, 4, none⟩ = some (.slice (some ⟨b5, o5, none⟩) y.under.length c5) ∧ wr.drew.cell? ⟨b5, o5 + i, none⟩ = some (.slice (some ⟨b6, o6, none⟩) r3.length c6) ∧ wr.drew.cell? ⟨B, 0, none⟩ = some (.int .i64 x.told) ∧ wr.drew.cell? ⟨b6, o6 + j, none⟩ = some (.slice Aq q3.length cq) := by
                obtain ⟨h1, h2, h3⟩ := facts _ _ _ _ H7
                exact ⟨h1, h2, h3, gq⟩
              clear gq
              refine wp_region_txt (fun W => W.cell? ⟨p, 4, none⟩ = some (.slice (some ⟨b5, o5, none⟩) y.under.length c5) ∧ W.cell? ⟨b5, o5 + i, none⟩ = some (.slice (some ⟨b6, o6, none⟩) r3.length c6) ∧ W.cell? ⟨B, 0, none⟩ = some (.int .i64 x.told) ∧ W.cell? ⟨b6, o6 + j, none⟩ = some (.slice Aq q3.length cq)) (some 25)
                [(0, true), (1, true), (2, true), (3, true), (4, true), (5, true), (6, true), (7, true), (8, true), (9, true), (10, true), (11, true), (12, true), (13, true), (14, true), (15, true), (16, true), (17, true), (18, true), (19, true), (20, true), (21, true), (22, false), (23, false), (24, true), (25, false)]
                (by kernel_rfl) rfl (by kernel_rfl) (by kernel_rfl) (by repeat (first | exact PanicOk.body _ _ _ | refine PanicOk.thn ?_ | refine PanicOk.blk ?_)) ?_
              have Hfacts := hid facts
              clear facts g1 g2 g4 g5 g6 g7
              repeat
                (refine txt_quiet ?_ hS rfl rfl (fun W hW => ?_) ?_
                 rotate_left 1
                 · obtain ⟨hW1, hW2, hW3, hW4⟩ := hW
                   go_simp
                   exact rfl
                 simp only [Act.put, List.setIfInBounds_toArray, List.set_cons_zero, List.set_cons_succ])
              refine txt_op rfl rfl ?_
              refine op_run (.slice (some ⟨wr.heap.size, 0, none⟩) 1 1) (wr.drew.alloc (.cells #[.int .i64 x.told] 3)) (by go_simp) ?_
              have H8 := H7.alloc (.cells #[.int .i64 x.told] 3)
              obtain ⟨h81, h82, h83⟩ := Hfacts.out _ (pts wr.heap.size (.cells #[.int .i64 x.told] 3)) _ _ (H8.eq (by rw [MS.zero_add]; rfl))
              have h84 := (H8.eq (b := blk b6 cur6 22 + (pts wr.heap.size (.cells #[.int .i64 x.told] 3) + (mq + G6 + (Pl + (blk B #[.int .i64 x.told, .slice (some ⟨bm, offm, none⟩) x.clock.length cm] 96 + F))))) (by rw [MS.zero_add]; show pts wr.heap.size _ + _ = _; ac_rfl)).at_ e6
              refine ⟨fun _ => ⟨h81, h82, h83, h84⟩, ?_⟩
              clear h81 h82 h83 h84
              simp only [Act.put, List.setIfInBounds_toArray, List.set_cons_zero, List.set_cons_succ]
              refine txt_op rfl rfl ?_
              refine op_append_sl (.tmp 109) (.tmp 112) 22 rfl 3 _ 1 8 Try.underlying22 info3 rfl (.slice Aq q3.length cq) rfl (some ⟨wr.heap.size, 0, none⟩) 1 1 rfl q3.length (q3.map (Value.int .i64)) mq _ (Ints.cells hqi)
                (H8.right.eq (b := mq + (blk b6 cur6 22 + (G6 + (Pl + (blk B #[.int .i64 x.told, .slice (some ⟨bm, offm, none⟩) x.clock.length cm] 96 + F))))) (by rw [MS.zero_add]; ac_rfl))
                [.int .i64 x.told] rfl (by simp) (fun a ha => by injection ha with ha; subst ha; exact World.news_of_block (heap_alloc_new _ _)) (by simp [Value.oneCell']) (by simp only [maxLen]; omega) (by omega) ?_
              intro v9 w9 m9 h91 H9 E9
              obtain ⟨A9, c9, rfl, hA9, hc9, hm9⟩ := h91.form
              obtain ⟨h81, h82, h83⟩ := Hfacts.out w9 0 cur6 m9 (H9.eq (by rw [MS.zero_add]; ac_rfl))
              have h84 := (H9.eq (b := blk b6 cur6 22 + (m9 + G6 + (Pl + (blk B #[.int .i64 x.told, .slice (some ⟨bm, offm, none⟩) x.clock.length cm] 96 + F)))) (by ac_rfl)).at_ e6
              have hS9 := And.intro h81 (And.intro h82 (And.intro h83 h84))
              refine ⟨fun _ => hS9, ?_⟩
              clear h81 h82 h83 h84 hS
              simp only [Act.put, List.setIfInBounds_toArray, List.set_cons_zero, List.set_cons_succ]
              repeat
                (refine txt_quiet ?_ hS9 rfl rfl (fun W hW => ?_) ?_
                 rotate_left 1
                 · obtain ⟨hW1, hW2, hW3, hW4⟩ := hW
                   go_simp
                   exact rfl
                 simp only [Act.put, List.setIfInBounds_toArray, List.set_cons_zero, List.set_cons_succ])
              refine txt_op rfl rfl ?_
              refine op_store_blk (.tmp 114) (.tmp 113) 22 rfl size22 b6 (o6 + j) (.slice A9 (q3.length + 1) c9) rfl rfl rfl cur6 22 _ (H9.eq (b := blk b6 cur6 22 + (m9 + G6 + (Pl + (blk B #[.int .i64 x.told, .slice (some ⟨bm, offm, none⟩) x.clock.length cm] 96 + F)))) (by ac_rfl)) (arr_lt e6) ?_
              intro w10 H10 E10
              refine ⟨fun h => absurd rfl h, ?_⟩
              simp only [Act.put]
              refine txt_done ?_
              clear hS9
              have hfin := Hput6.out (q3 ++ [x.told]) (.slice A9 (q3.length + 1) c9) m9 (Ints.of (by simpa using h91))
              rw [← Hσ.out] at hfin
              have Hfin := hid hfin
              have H11 := hid (H10.eq (b := blk b6 (cur6.setIfInBounds (o6 + j) (.slice A9 (q3.length + 1) c9)) 22 + (m9 + G6) + (Pl + (blk B #[.int .i64 x.told, .slice (some ⟨bm, offm, none⟩) x.clock.length cm] 96 + F))) (by ac_rfl))
              have E11 := hid ((((HE6.out.trans (Ext.drew _)).trans (Ext.alloc _ _)).trans E9).trans E10)
              have f11 := (Hf6.out w10 _ _ _ H11.out).1
              clear hfin H10 H9 H8 H7 H6 h91 E9 E10
              go_wp2
              go_roundw
              case rel => exact ⟨t + 1, Hlt.out, by go_num, f11.trans HVe.out.symm, _, H11.out, E11.out, Hfin.out⟩
              case measure => have := Hlt.out; simp [intOf]; omega
        · obtain rfl : t = σ3.shots.length := by omega
          have Hx := hid (And.intro hHt (And.intro hEt hNt))
          clear hHt hEt hNt
          go_wp2
          go_end0
          refine ⟨rfl, mt, ?_, Hx.out.2.1, by rw [Hd.out.2.2]; exact Hx.out.2.2⟩
          exact (Hx.out.1.eq (b := (mt + (Pl + F)) + blk B #[.int .i64 x.told, .slice (some ⟨bm, offm, none⟩) x.clock.length cm] 96) (by ac_rfl)).left
end Go.Proofs.Ytnkgfgkgepadhaa

/-
  The walk of record: a station records for a snapshot.
-/
import Derived.Test.YtnkgfgkgepadhaaWalk4
namespace Go.Proofs.Ytnkgfgkgepadhaa
open Go.RowKit
set_option linter.unusedVariables false
set_option linter.unusedSimpArgs false

theorem Net.push_chan {σ : Net} {i j : Nat} {r : List (List Msg)} {l : List Msg} (hr : σ.chan[i]? = some r) (hl : r[j]? = some l) (x : Msg) :
    σ.push i j x = { σ with chan := σ.chan.set i (r.set j (l ++ [x])) } := by
  simp [Net.push, hr, List.getD, hl]
/-- The markers: what stays. -/
theorem Net.mark_keeps (σ : Net) (k : Nat) (no : Int) : ∀ t, (σ.mark k no t).sta = σ.sta ∧ (σ.mark k no t).shots = σ.shots ∧ (σ.mark k no t).evs = σ.evs ∧ (σ.mark k no t).chan.length = σ.chan.length
  | 0 => ⟨rfl, rfl, rfl, rfl⟩
  | t + 1 => by
    obtain ⟨h1, h2, h3, h4⟩ := Net.mark_keeps σ k no t
    unfold Net.mark
    split
    · exact ⟨h1, h2, h3, h4⟩
    · unfold Net.push
      split <;> simp [h1, h2, h3, h4]
theorem Net.mark_row (σ : Net) (k : Nat) (no : Int) {r : List (List Msg)} (hr : σ.chan[k]? = some r) : ∀ t, t ≤ r.length → ∃ r', (σ.mark k no t).chan[k]? = some r' ∧ r'.length = r.length ∧ ∀ j, t ≤ j → r'[j]? = r[j]?
  | 0, _ => ⟨r, hr, rfl, fun _ _ => rfl⟩
  | t + 1, ht => by
    obtain ⟨r', h1, h2, h3⟩ := Net.mark_row σ k no hr t (by omega)
    unfold Net.mark
    split
    · exact ⟨r', h1, h2, fun j hj => h3 j (by omega)⟩
    · have hl : r'[t]? = some (r'[t]'(by omega)) := List.getElem?_eq_getElem (by omega)
      rw [Net.push_chan h1 hl]
      have hk := (List.getElem?_eq_some_iff.1 h1).1
      exact ⟨_, by simp [hk]; rfl, by simp [h2], fun j hj => by rw [List.getElem?_set_ne (by omega)]; exact h3 j (by omega)⟩

/-- What the loop over the channels keeps. -/
def RecInv (Pl F : MS) (w : World) (σ : Net) (ps : List Nat) (b k i : Nat) (n : Nat) (v : Value) (wr : World) : Prop :=
  ∃ t : Nat, t ≤ n ∧ v = .int .i64 t ∧ ∃ mt, Has wr (mt + (Pl + F)) ∧ Ext w wr ∧ IsNet Pl (σ.mark k (i + 1) t) ps b mt

set_option maxHeartbeats 2000000 in
set_option maxRecDepth 100000 in
theorem record_any (Pl F : MS) (σ : Net) (ps : List Nat) (b : Nat) (m : MS) (w : World) (hok : NetOk σ) (hnet : IsNet Pl σ ps b m) (hH : Has w (m + (Pl + F))) (k i p : Nat) (hk : k < σ.sta.length) (x : Shot) (hx : σ.shots[i]? = some x) (hp : ps[i]? = some p)
    (no : Int) (hno : no = i + 1) :
    Calls Try.prog 66 #[.pointer (some ⟨b, 0, none⟩), .int .i64 k, .pointer (some ⟨p, 0, none⟩), .int .i64 no] w fun e w' => e = .returned (.tuple #[]) ∧ ∃ m', Has w' (m' + (Pl + F)) ∧ Ext w w' ∧ IsNet Pl (σ.record k i) ps b m' := by
  obtain ⟨s, hs⟩ : ∃ s, σ.sta[k]? = some s := ⟨_, List.getElem?_eq_getElem hk⟩
  obtain ⟨z1, z2, z3, z4, z5, z6, z7⟩ := hok.shot x (List.mem_of_getElem? hx)
  obtain ⟨hd, b2, o2, c2, cur2, cp, v0, v1, v2, v3, v4, m0, m1, m2, m3, m4, vst, mst, R, rfl, i0, hst, i2, i2e, p0, p1, p2, p3, p4, hrec, hclo, hcut, hpie, hund, hput⟩ := hnet.shot hx hp
  obtain ⟨bs, os, cs, curs, vk, mk, R2, rfl, rfl, s0, s1, _, _⟩ := staAt hst hs
  have hn2 := hok.n2
  have hn5 := hok.n5
  obtain ⟨br, orr, cr, curr, rfl, rfl, _, hcr, hputr⟩ := (Bools.cells hrec).at_ (by omega)
  obtain ⟨bc, oc, cc, curc, rfl, rfl, _, hcc, hputc⟩ := (Ints.cells hcut).at_ (by omega)
  obtain ⟨bp, op, cpp, curp, rfl, rfl, _, hcp, hputp⟩ := (Ints.cells hpie).at_ (by omega)
  obtain ⟨qb1, qb2, qb3⟩ : 0 ≤ i ∧ i < 8 ∧ σ.sta.length ≤ 5 := ⟨by omega, by have := (List.getElem?_eq_some_iff.1 hx).1; have := hok.shots; omega, hn5⟩
  have facts : ∀ (W : World) (X Yr Yc Yp : MS), Has W (X + (blk b hd 84 + (blk b2 cur2 101 + (blk p cp 109 + ((Yr + (m1 + (Yc + (Yp + m4)))) + ((blk bs curs 107 + (mk + R2)) + R)))) + (Pl + F))) →
      W.cell? ⟨b, 0, none⟩ = some (.slice (some ⟨bs, os, none⟩) σ.sta.length cs) ∧ W.cell? ⟨p, 2, none⟩ = some (.slice (some ⟨bc, oc, none⟩) x.cut.length cc) ∧ W.cell? ⟨p, 3, none⟩ = some (.slice (some ⟨bp, op, none⟩) x.pieces.length cpp) ∧
      W.cell? ⟨bs, os + k * 3, none⟩ = some (.int .i64 s.pieces) ∧ W.cell? ⟨bs, os + k * 3 + 1, none⟩ = some (.int .i64 s.events) := fun W X Yr Yc Yp h =>
    ⟨(h.eq (b := blk b hd 84 + (X + (blk b2 cur2 101 + (blk p cp 109 + ((Yr + (m1 + (Yc + (Yp + m4)))) + ((blk bs curs 107 + (mk + R2)) + R)))) + (Pl + F))) (by ac_rfl)).at_ i0,
     (h.eq (b := blk p cp 109 + (X + (blk b hd 84 + (blk b2 cur2 101 + ((Yr + (m1 + (Yc + (Yp + m4)))) + ((blk bs curs 107 + (mk + R2)) + R)))) + (Pl + F))) (by ac_rfl)).at_ p2,
     (h.eq (b := blk p cp 109 + (X + (blk b hd 84 + (blk b2 cur2 101 + ((Yr + (m1 + (Yc + (Yp + m4)))) + ((blk bs curs 107 + (mk + R2)) + R)))) + (Pl + F))) (by ac_rfl)).at_ p3,
     (h.eq (b := blk bs curs 107 + (X + (blk b hd 84 + (blk b2 cur2 101 + (blk p cp 109 + ((Yr + (m1 + (Yc + (Yp + m4)))) + ((mk + R2) + R))))) + (Pl + F))) (by ac_rfl)).at_ s0,
     (h.eq (b := blk bs curs 107 + (X + (blk b hd 84 + (blk b2 cur2 101 + (blk p cp 109 + ((Yr + (m1 + (Yc + (Yp + m4)))) + ((mk + R2) + R))))) + (Pl + F))) (by ac_rfl)).at_ s1⟩
  have f1 : w.cell? ⟨p, 0, none⟩ = some (.slice (some ⟨br, orr, none⟩) x.recorded.length cr) := (hH.eq (b := blk p cp 109 + (blk b hd 84 + (blk b2 cur2 101 + ((blk br curr 4 + (m1 + (blk bc curc 3 + (blk bp curp 3 + m4)))) + ((blk bs curs 107 + (mk + R2)) + R))) + (Pl + F))) (by ac_rfl)).at_ p0
  have HR : Has w (blk br curr 4 + (blk b hd 84 + (blk b2 cur2 101 + (blk p cp 109 + ((m1 + (blk bc curc 3 + (blk bp curp 3 + m4))) + ((blk bs curs 107 + (mk + R2)) + R)))) + (Pl + F))) := hH.eq (by ac_rfl)
  have kr : (k : Int) < x.recorded.length := by omega
  have kc : (k : Int) < x.cut.length := by omega
  have kp : (k : Int) < x.pieces.length := by omega
  have lr : orr + k < curr.size := by have := hcr k (by omega); rw [List.getElem?_map, List.getElem?_eq_getElem (by omega)] at this; exact arr_lt this
  have lc : oc + k < curc.size := by have := hcc k (by omega); rw [List.getElem?_map, List.getElem?_eq_getElem (by omega)] at this; exact arr_lt this
  have lp : op + k < curp.size := by have := hcp k (by omega); rw [List.getElem?_map, List.getElem?_eq_getElem (by omega)] at this; exact arr_lt this
  -- what is behind the stores
  have hrec2 : Bools (x.recorded.set k true) (.slice (some ⟨br, orr, none⟩) x.recorded.length cr) (blk br (curr.setIfInBounds (orr + k) (.bool true)) 4) := by
    refine Bools.of ?_
    have := Sl.set_ (sz := 1) hputr hcr (by simp) (i := k) (by omega) (.bool true)
    rw [List.map_set, List.length_set]
    exact this
  have hcut2 : Ints (x.cut.set k s.events) (.slice (some ⟨bc, oc, none⟩) x.cut.length cc) (blk bc (curc.setIfInBounds (oc + k) (.int .i64 s.events)) 3) := by
    refine Ints.of ?_
    have := Sl.set_ (sz := 1) hputc hcc (by simp) (i := k) (by omega) (.int .i64 s.events)
    rw [List.map_set, List.length_set]
    exact this
  have hpie2 : Ints (x.pieces.set k s.pieces) (.slice (some ⟨bp, op, none⟩) x.pieces.length cpp) (blk bp (curp.setIfInBounds (op + k) (.int .i64 s.pieces)) 3) := by
    refine Ints.of ?_
    have := Sl.set_ (sz := 1) hputp hcp (by simp) (i := k) (by omega) (.int .i64 s.pieces)
    rw [List.map_set, List.length_set]
    exact this
  have hnet2 := hput { x with recorded := x.recorded.set k true, cut := x.cut.set k s.events, pieces := x.pieces.set k s.pieces } _ _ _ _ _ hrec2 hclo hcut2 hpie2 hund
  have hσ1 : σ.record k i = ({ σ with shots := σ.shots.set i { x with recorded := x.recorded.set k true, pieces := x.pieces.set k s.pieces, cut := x.cut.set k s.events } } : Net).mark k (i + 1) σ.sta.length := by simp only [Net.record, hs, hx]
  rw [hσ1]
  clear hσ1
  obtain ⟨σ1, hσ1⟩ : ∃ σ1 : Net, σ1 = { σ with shots := σ.shots.set i { x with recorded := x.recorded.set k true, pieces := x.pieces.set k s.pieces, cut := x.cut.set k s.events } } := ⟨_, rfl⟩
  have hsort : ({ x with recorded := x.recorded.set k true, pieces := x.pieces.set k s.pieces, cut := x.cut.set k s.events } : Shot) = { x with recorded := x.recorded.set k true, cut := x.cut.set k s.events, pieces := x.pieces.set k s.pieces } := rfl
  rw [hsort] at hσ1 ⊢
  rw [← hσ1] at hnet2 ⊢
  have hH1 := hid hσ1
  have hok0 := hid hok
  have Hok := hid hok
  have Hnet2 := hid hnet2
  have Hfacts := hid facts
  clear hrec2 hcut2 hpie2 hnet2 hσ1 hsort hput hputr hputc hputp hcr hcc hcp hrec hclo hcut hpie hund hst hok hn2 facts hnet i0 p0 p1 p2 p3 p4 i2 i2e s0 s1 z2 z3 z6 z7
  go_enter Try.func66, Try.ntmps66
  go_wp2_with (refine wpList_store_blk rfl (.tmp 14) (.const (.bool true)) 4 rfl size4 br (orr + k) (.bool true) rfl rfl rfl curr 4 _ HR lr ?_; intro w1 H1 E1)
  simp only [Act.put]
  have H1' : Has w1.drew (0 + (blk b hd 84 + (blk b2 cur2 101 + (blk p cp 109 + ((blk br (curr.setIfInBounds (orr + k) (.bool true)) 4 + (m1 + (blk bc curc 3 + (blk bp curp 3 + m4)))) + ((blk bs curs 107 + (mk + R2)) + R)))) + (Pl + F))) := by rw [MS.zero_add]; exact H1.drew.eq (by ac_rfl)
  have hS := Hfacts.out _ _ _ _ _ H1'
  refine wp_region_txt (fun W => W.cell? ⟨b, 0, none⟩ = some (.slice (some ⟨bs, os, none⟩) σ.sta.length cs) ∧ W.cell? ⟨p, 2, none⟩ = some (.slice (some ⟨bc, oc, none⟩) x.cut.length cc) ∧ W.cell? ⟨p, 3, none⟩ = some (.slice (some ⟨bp, op, none⟩) x.pieces.length cpp) ∧
      W.cell? ⟨bs, os + k * 3, none⟩ = some (.int .i64 s.pieces) ∧ W.cell? ⟨bs, os + k * 3 + 1, none⟩ = some (.int .i64 s.events)) (some 30)
    [(0, true), (1, true), (2, true), (3, true), (4, true), (5, true), (6, true), (7, true), (8, true), (9, true), (10, true), (11, true), (12, true), (13, true), (14, true), (15, true), (16, true), (17, true), (18, true), (19, true), (20, true), (21, true), (22, true), (23, true), (24, true), (25, true), (26, true), (27, true), (28, false), (29, true), (30, false)]
    (by kernel_rfl) rfl (by kernel_rfl) (by kernel_rfl) (by repeat (first | exact PanicOk.body _ _ _ | refine PanicOk.thn ?_ | refine PanicOk.blk ?_)) ?_
  repeat
    (refine txt_quiet ?_ hS rfl rfl (fun W hW => ?_) ?_
     rotate_left 1
     · obtain ⟨hW1, hW2, hW3, hW4, hW5⟩ := hW
       go_simp
       exact rfl
     simp only [Act.put, List.setIfInBounds_toArray, List.set_cons_zero, List.set_cons_succ])
  refine txt_op rfl rfl ?_
  refine op_store_blk (.tmp 42) (.tmp 33) 3 rfl size3 bp (op + k) (.int .i64 s.pieces) rfl rfl rfl curp 3 _ (H1'.eq (b := blk bp curp 3 + (blk b hd 84 + (blk b2 cur2 101 + (blk p cp 109 + ((blk br (curr.setIfInBounds (orr + k) (.bool true)) 4 + (m1 + (blk bc curc 3 + m4))) + ((blk bs curs 107 + (mk + R2)) + R)))) + (Pl + F))) (by rw [MS.zero_add]; ac_rfl)) lp ?_
  intro w2 H2 E2
  have hS2 := Hfacts.out w2 0 (blk br (curr.setIfInBounds (orr + k) (.bool true)) 4) (blk bc curc 3) (blk bp (curp.setIfInBounds (op + k) (.int .i64 s.pieces)) 3) (H2.eq (by rw [MS.zero_add]; ac_rfl))
  refine ⟨fun _ => hS2, ?_⟩
  simp only [Act.put, List.setIfInBounds_toArray, List.set_cons_zero, List.set_cons_succ]
  clear hS
  repeat
    (refine txt_quiet ?_ hS2 rfl rfl (fun W hW => ?_) ?_
     rotate_left 1
     · obtain ⟨hW1, hW2, hW3, hW4, hW5⟩ := hW
       go_simp
       exact rfl
     simp only [Act.put, List.setIfInBounds_toArray, List.set_cons_zero, List.set_cons_succ])
  refine txt_op rfl rfl ?_
  refine op_store_blk (.tmp 43) (.tmp 41) 3 rfl size3 bc (oc + k) (.int .i64 s.events) rfl rfl rfl curc 3 _ (H2.eq (b := blk bc curc 3 + (blk bp (curp.setIfInBounds (op + k) (.int .i64 s.pieces)) 3 + (blk b hd 84 + (blk b2 cur2 101 + (blk p cp 109 + ((blk br (curr.setIfInBounds (orr + k) (.bool true)) 4 + (m1 + m4)) + ((blk bs curs 107 + (mk + R2)) + R)))) + (Pl + F)))) (by ac_rfl)) lc ?_
  intro w3 H3 E3
  refine ⟨fun h => absurd rfl h, ?_⟩
  simp only [Act.put]
  refine txt_done ?_
  clear hS2
  -- the net behind the stores
  have Hn := Hnet2.out
  have H4 := H3.eq (b := blk b hd 84 + (blk b2 cur2 101 + (blk p cp 109 + ((blk br (curr.setIfInBounds (orr + k) (.bool true)) 4 + (m1 + (blk bc (curc.setIfInBounds (oc + k) (.int .i64 s.events)) 3 + (blk bp (curp.setIfInBounds (op + k) (.int .i64 s.pieces)) 3 + m4)))) + ((blk bs curs 107 + (mk + R2)) + R)))) + (Pl + F)) (by ac_rfl)
  generalize blk b hd 84 + (blk b2 cur2 101 + (blk p cp 109 + ((blk br (curr.setIfInBounds (orr + k) (.bool true)) 4 + (m1 + (blk bc (curc.setIfInBounds (oc + k) (.int .i64 s.events)) 3 + (blk bp (curp.setIfInBounds (op + k) (.int .i64 s.pieces)) 3 + m4)))) + ((blk bs curs 107 + (mk + R2)) + R)))) = mm at H4 Hn
  have E : Ext w w3 := ((E1.trans (Ext.drew _)).trans E2).trans E3
  have hok2 := Hok.out
  obtain ⟨r, hr⟩ : ∃ r, σ.chan[k]? = some r := ⟨_, List.getElem?_eq_getElem (by rw [hok2.rows]; exact hk)⟩
  have hrl := hok2.cols r (List.mem_of_getElem? hr)
  have hline := fun (l : List Msg) (hl : l ∈ r) => hok2.line k r l hr hl
  have hcp : (σ.shots.countP fun x => x.recorded.getD k false) ≤ 8 := Nat.le_trans List.countP_le_length hok2.shots
  have hevs := hok2.evs
  have hrows := hok2.rows
  have hσ1 := hH1.out
  have e1 : σ1.sta = σ.sta := by rw [hσ1]
  have e2 : σ1.chan = σ.chan := by rw [hσ1]
  obtain ⟨hd5, R5, hm5, _, ⟨A5, c5, h50, _, _⟩, _⟩ := Hn.heads
  have f5 : w3.cell? ⟨b, 0, none⟩ = some (.slice A5 σ.sta.length c5) := by rw [← e1]; exact (H4.eq (b := blk b hd5 84 + (R5 + (Pl + F))) (by rw [hm5]; ac_rfl)).at_ h50
  have hE := hid (And.intro e1 e2)
  have HN5 := hid Hn
  have HH5 := hid H4
  have HE5 := hid E
  have Hline := hid hline
  have Hr := hid hr
  clear Hn hσ1 e1 e2 H4 E hm5 h50 hline hr hok2 hs hx hp f1 HR hH H1 H1' H2 H3
  go_wp2
  go_loopw [49] (fun v wr => RecInv Pl F w σ1 ps b k i σ.sta.length v wr) (fun v _ => σ.sta.length - (intOf v).toNat)
  case atStart => exact ⟨0, Nat.zero_le _, rfl, mm, HH5.out, HE5.out, HN5.out⟩
  case round =>
    obtain ⟨t, ht, rfl, mt, hHt, hEt, hNt⟩ := hrel
    by_cases hlt : t < σ.sta.length
    · by_cases htk : t = k
      · subst htk
        have hNt' := hid hNt
        have hHt' := hid hHt
        clear hNt hHt
        have hq : ((t : Int) != (t : Int)) = false := by simp
        go_wp2
        go_roundw
        case rel => exact ⟨t + 1, by omega, by go_num, mt, hHt'.out, hEt, by unfold Net.mark; rw [if_pos rfl]; exact hNt'.out⟩
        case measure => simp [intOf]; omega
      · have hq : ((t : Int) != (k : Int)) = true := by simp; omega
        go_wp2
        obtain ⟨e1, e2⟩ := hE.out
        obtain ⟨r', hr', hrl', hrt'⟩ := Net.mark_row σ1 k (i + 1) (r := r) (by rw [e2]; exact Hr.out) t (by omega)
        have hrt := hrt' t (Nat.le_refl _)
        obtain ⟨l, hl⟩ : ∃ l, r[t]? = some l := ⟨_, List.getElem?_eq_getElem (by omega)⟩
        have hll := Hline.out l (List.mem_of_getElem? hl)
        rw [hl] at hrt
        have hkeeps := Net.mark_keeps σ1 k (i + 1) t
        have hcl : (k : Int) < (σ1.mark k (i + 1) t).chan.length := by rw [hkeeps.2.2.2, e2, hrows]; omega
        have htl : (t : Int) < r'.length := by omega
        obtain ⟨hd1, b1, o1, cc1, cur1, b3, o3, cc3, cur3, vl, ml, vs1, ms1, R1, hm1, _, _, k0, k1, k2, hln, hput1⟩ := hNt.line hr' hrt
        obtain ⟨Al, cl, rfl, hAl, hcl2, _⟩ := SlR.form hln
        obtain ⟨xs, ms, mr, hsl, hrw, rfl⟩ := hln
        have facts : ∀ (W : World) (X Y : MS), Has W (X + (blk b hd1 84 + (blk b1 cur1 92 + (blk b3 cur3 91 + (Y + (ms1 + R1)))) + (Pl + F))) → W.cell? ⟨b, 1, none⟩ = some (.slice (some ⟨b1, o1, none⟩) (σ1.mark k (i + 1) t).chan.length cc1) ∧ W.cell? ⟨b1, o1 + k, none⟩ = some (.slice (some ⟨b3, o3, none⟩) r'.length cc3) ∧
            W.cell? ⟨b3, o3 + t, none⟩ = some (.slice Al l.length cl) := fun W X Y h =>
          ⟨(h.eq (b := blk b hd1 84 + (X + (blk b1 cur1 92 + (blk b3 cur3 91 + (Y + (ms1 + R1)))) + (Pl + F))) (by ac_rfl)).at_ k0,
           (h.eq (b := blk b1 cur1 92 + (X + (blk b hd1 84 + (blk b3 cur3 91 + (Y + (ms1 + R1)))) + (Pl + F))) (by ac_rfl)).at_ k1,
           (h.eq (b := blk b3 cur3 91 + (X + (blk b hd1 84 + (blk b1 cur1 92 + (Y + (ms1 + R1)))) + (Pl + F))) (by ac_rfl)).at_ k2⟩
        have H5 : Has wr.drew (0 + (blk b hd1 84 + (blk b1 cur1 92 + (blk b3 cur3 91 + ((ms + mr) + (ms1 + R1)))) + (Pl + F))) := by rw [MS.zero_add, ← hm1]; exact hHt.drew
        have hS := facts _ _ _ H5
        refine wp_region_txt (fun W => W.cell? ⟨b, 1, none⟩ = some (.slice (some ⟨b1, o1, none⟩) (σ1.mark k (i + 1) t).chan.length cc1) ∧ W.cell? ⟨b1, o1 + k, none⟩ = some (.slice (some ⟨b3, o3, none⟩) r'.length cc3) ∧
            W.cell? ⟨b3, o3 + t, none⟩ = some (.slice Al l.length cl)) (some 23)
          [(0, true), (1, true), (2, true), (3, true), (4, true), (5, true), (6, true), (7, true), (8, true), (9, true), (10, true), (11, true), (12, true), (13, true), (14, true), (15, true), (16, true), (17, true), (18, true), (19, true), (20, false), (21, false), (22, true), (23, false)]
          (by kernel_rfl) rfl (by kernel_rfl) (by kernel_rfl) (by repeat (first | exact PanicOk.body _ _ _ | refine PanicOk.thn ?_ | refine PanicOk.blk ?_)) ?_
        have Hfacts := hid facts
        have Hput := hid hput1
        have Hk := hid (And.intro k0 (And.intro k1 k2))
        have Hx := hid (And.intro hr' (And.intro hrl' (And.intro hrt (And.intro hkeeps e2))))
        have HNt := hid hNt
        have Hm1 := hid hm1
        have Hxs := hid (And.intro hsl hrw)
        clear facts hput1 k0 k1 k2 hr' hrl' hrt' hrt hkeeps hNt hHt hm1 hsl hrw e1 e2 hl
        repeat
          (refine txt_quiet ?_ hS rfl rfl (fun W hW => ?_) ?_
           rotate_left 1
           · obtain ⟨hW1, hW2, hW3⟩ := hW
             go_simp
             exact rfl
           simp only [Act.put, List.setIfInBounds_toArray, List.set_cons_zero, List.set_cons_succ])
        -- the row of one marker
        refine txt_op rfl rfl ?_
        refine op_run (.slice (some ⟨wr.heap.size, 0, none⟩) 1 1) (wr.drew.alloc (.cells #[.iface 99 (.int .i64 no)] 94)) (by go_simp) ?_
        have H7 := H5.alloc (.cells #[.iface 99 (.int .i64 no)] 94)
        have hS4 := Hfacts.out _ (pts wr.heap.size (.cells #[.iface 99 (.int .i64 no)] 94)) (ms + mr) (H7.eq (by rw [MS.zero_add]; rfl))
        refine ⟨fun _ => hS4, ?_⟩
        simp only [Act.put, List.setIfInBounds_toArray, List.set_cons_zero, List.set_cons_succ]
        clear hS
        -- append
        obtain ⟨hsl, hrw⟩ := Hxs.out
        refine txt_op rfl rfl ?_
        refine op_append_sl (.tmp 72) (.tmp 75) 91 rfl 94 _ 1 16 Try.underlying91 info94 rfl (.slice Al l.length cl) rfl (some ⟨wr.heap.size, 0, none⟩) 1 1 rfl l.length xs ms _ hsl
          (H7.right.eq (b := ms + (blk b hd1 84 + (blk b1 cur1 92 + (blk b3 cur3 91 + (mr + (ms1 + R1)))) + (Pl + F))) (by rw [MS.zero_add]; ac_rfl))
          [.iface 99 (.int .i64 no)] rfl (by simp) (fun a ha => by injection ha with ha; subst ha; exact World.news_of_block (heap_alloc_new _ _)) (by simp [Value.oneCell']) (by simp only [maxLen]; omega) (by omega) ?_
        intro v4 w4 m4' h41 H8 E4
        obtain ⟨A4, c4, rfl, hA4, hc4, hm4⟩ := h41.form
        have hS5 := Hfacts.out w4 0 (m4' + mr) (H8.eq (by rw [MS.zero_add]; ac_rfl))
        refine ⟨fun _ => hS5, ?_⟩
        simp only [Act.put, List.setIfInBounds_toArray, List.set_cons_zero, List.set_cons_succ]
        clear hS4
        repeat
          (refine txt_quiet ?_ hS5 rfl rfl (fun W hW => ?_) ?_
           rotate_left 1
           · obtain ⟨hW1, hW2, hW3⟩ := hW
             go_simp
             exact rfl
           simp only [Act.put, List.setIfInBounds_toArray, List.set_cons_zero, List.set_cons_succ])
        -- the store
        obtain ⟨k0, k1, k2⟩ := Hk.out
        refine txt_op rfl rfl ?_
        refine op_store_blk (.tmp 77) (.tmp 76) 91 rfl size91 b3 (o3 + t) (.slice A4 (l.length + 1) c4) rfl rfl rfl cur3 91 _ (H8.eq (b := blk b3 cur3 91 + (blk b hd1 84 + (blk b1 cur1 92 + (m4' + mr + (ms1 + R1))) + (Pl + F))) (by ac_rfl)) (arr_lt k2) ?_
        intro w5 H10 E5
        refine ⟨fun h => absurd rfl h, ?_⟩
        simp only [Act.put]
        refine txt_done ?_
        clear hS5
        have hline2 : Line (0 + Pl) (l ++ [⟨-(i + 1), []⟩]) (.slice A4 (l.length + 1) c4) (m4' + (mr + 0)) := by
          refine SlR.of (by simpa using h41) ((hrw.mono (El.mono (MsgV.pool 0))).append (RowsR.one ⟨_, rfl, ⟨rfl, .inr ⟨by show -((i : Int) + 1) < 0; omega, ?_, rfl⟩⟩, rfl⟩))
          show Value.iface 99 (.int .i64 no) = Value.iface 99 (.int .i64 (- -((i : Int) + 1)))
          rw [hno, Int.neg_neg]
        have hfin := Hput.out 0 _ _ _ hline2
        rw [MS.zero_add] at hfin
        obtain ⟨hr', hrl', hrt, hkeeps, e2⟩ := Hx.out
        rw [show ({ σ1.mark k (i + 1) t with chan := (σ1.mark k (i + 1) t).chan.set k (r'.set t (l ++ [⟨-(i + 1), []⟩])) } : Net) = (σ1.mark k (i + 1) t).push k t ⟨-(i + 1), []⟩ from (Net.push_chan hr' hrt _).symm] at hfin
        have hfin2 := hid hfin
        have H11 := hid (H10.eq (b := (blk b hd1 84 + (blk b1 cur1 92 + (blk b3 (cur3.setIfInBounds (o3 + t) (.slice A4 (l.length + 1) c4)) 91 + ((m4' + (mr + 0)) + (ms1 + R1))))) + (Pl + F)) (by rw [MS.add_zero]; ac_rfl))
        have E11 := hid ((((hEt.trans (Ext.drew _)).trans (Ext.alloc _ _)).trans E4).trans E5)
        clear hfin H10 hline2 hr' hrl' hrt hkeeps e2 H8 h41 H7 H5 hEt E4 E5
        go_wp2
        go_roundw
        case rel => exact ⟨t + 1, by omega, by go_num, _, H11.out, E11.out, by unfold Net.mark; rw [if_neg htk]; exact hfin2.out⟩
        case measure => simp [intOf]; omega
    · obtain rfl : t = σ.sta.length := by omega
      have hNt' := hid hNt
      have hHt' := hid hHt
      clear hNt hHt
      go_wp2
      go_end0
      exact ⟨rfl, mt, hHt'.out, hEt, hNt'.out⟩
end Go.Proofs.Ytnkgfgkgepadhaa

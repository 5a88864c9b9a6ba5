/-
  The walk of the reference's spread.
-/
import Derived.Test.YteibbnmlmbhkpaaDoorRW6
namespace Go.Proofs.YteibbnmlmbhkpaaDoor
open Go.RowKit
set_option linter.unusedVariables false
set_option linter.unusedSimpArgs false
set_option maxHeartbeats 2000000
set_option maxRecDepth 100000

/-- Does a symmetry of a class stand at these offsets? -/
def spC (g : Gd) (m : Mv) (e f : Int) : Bool := decide ((e - m.e).tmod g.A = 0 ∧ (f - m.f - (e - m.e).tdiv g.A * g.B).tmod g.D = 0)
def spF (g : Gd) (m : Mv) (e f : Int) : Option Mv := if spC g m e f then some { m with e := e, f := f } else none
def spRow (g : Gd) (m : Mv) (e : Int) (n : Nat) : List Mv := (List.range n).filterMap fun (j : Nat) => spF g m e (-14 + j)
def spMv (g : Gd) (m : Mv) (n : Nat) : List Mv := (List.range n).flatMap fun (i : Nat) => spRow g m (-14 + i) 29
def spL (g : Gd) (l : List Mv) : List Mv := l.flatMap fun m => spMv g m 29
def spP (g : Gd) (l : List Mv) (m : Mv) (i t u : Nat) : List Mv := spL g (l.take i) ++ (spMv g m t ++ spRow g m (-14 + t) u)
theorem spP_hit {g : Gd} {l : List Mv} {m : Mv} {i t u : Nat} (h : spC g m (-14 + t) (-14 + u) = true) : spP g l m i t (u + 1) = spP g l m i t u ++ [{ m with e := -14 + t, f := -14 + u }] := by
  unfold spP
  rw [show spRow g m (-14 + t) (u + 1) = spRow g m (-14 + t) u ++ [{ m with e := -14 + t, f := -14 + u }] by
    unfold spRow; rw [List.range_succ (n := u), List.filterMap_append]; simp [spF, h]]
  simp
theorem spP_miss {g : Gd} {l : List Mv} {m : Mv} {i t u : Nat} (h : spC g m (-14 + t) (-14 + u) = false) : spP g l m i t (u + 1) = spP g l m i t u := by
  unfold spP
  rw [show spRow g m (-14 + t) (u + 1) = spRow g m (-14 + t) u by
    unfold spRow; rw [List.range_succ (n := u), List.filterMap_append]; simp [spF, h]]
theorem spP_endU (g : Gd) (l : List Mv) (m : Mv) (i t : Nat) : spP g l m i t 29 = spP g l m i (t + 1) 0 := by
  unfold spP
  rw [show spMv g m (t + 1) = spMv g m t ++ spRow g m (-14 + t) 29 by unfold spMv; rw [List.range_succ (n := t), List.flatMap_append]; simp]
  simp [spRow]
theorem spP_endT {g : Gd} {l : List Mv} {m : Mv} {i : Nat} (h : l[i]? = some m) : spP g l m i 29 0 = spL g (l.take (i + 1)) := by
  unfold spP
  rw [take_more h]
  unfold spL
  rw [List.flatMap_append]
  simp [spRow]
theorem spP_start (g : Gd) (l : List Mv) (m : Mv) (i : Nat) : spP g l m i 0 0 = spL g (l.take i) := by
  unfold spP
  simp [spRow, spMv]
theorem spP_len {g : Gd} {l : List Mv} {m : Mv} {i t u : Nat} (hi : i ≤ 400) (ht : t ≤ 29) (hu : u ≤ 29) : (spP g l m i t u).length ≤ 900000 := by
  have h1 : ∀ m e n, (spRow g m e n).length ≤ n := fun m e n => by
    have := List.length_filterMap_le (fun (j : Nat) => spF g m e (-14 + j)) (List.range n)
    rw [List.length_range] at this
    exact this
  have h2 : ∀ m n, (spMv g m n).length ≤ n * 29 := fun m n => by
    have := flat_len (fun (i : Nat) => spRow g m (-14 + i) 29) 29 (fun x => h1 m _ 29) (List.range n)
    rw [List.length_range] at this
    exact this
  have h3 := flat_len (fun m => spMv g m 29) (29 * 29) (fun m => h2 m 29) (l.take i)
  have h4 := List.length_take_le i l
  have h5 := h1 m (-14 + t) u
  have h6 := h2 m t
  have h7 : (l.take i).length * (29 * 29) ≤ 400 * (29 * 29) := Nat.mul_le_mul_right _ (by omega)
  unfold spP
  rw [List.length_append, List.length_append]
  unfold spL
  omega
theorem spL_len {g : Gd} {l : List Mv} (h : l.length ≤ 400) : (spL g l).length ≤ 900000 := by
  have h1 : ∀ m e n, (spRow g m e n).length ≤ n := fun m e n => by
    have := List.length_filterMap_le (fun (j : Nat) => spF g m e (-14 + j)) (List.range n)
    rw [List.length_range] at this
    exact this
  have h2 : ∀ m n, (spMv g m n).length ≤ n * 29 := fun m n => by
    have := flat_len (fun (i : Nat) => spRow g m (-14 + i) 29) 29 (fun x => h1 m _ 29) (List.range n)
    rw [List.length_range] at this
    exact this
  have h3 := flat_len (fun m => spMv g m 29) (29 * 29) (fun m => h2 m 29) l
  have h7 : l.length * (29 * 29) ≤ 400 * (29 * 29) := Nat.mul_le_mul_right _ h
  unfold spL
  omega
theorem symL_off {p : List ByteArray} {g : Gd} (hA : g.A ≤ 6) (hD : g.D ≤ 6) {m : Mv} (h : m ∈ symL p g) : (0 ≤ m.e ∧ m.e ≤ 6) ∧ (0 ≤ m.f ∧ m.f ≤ 6) := by
  unfold symL at h
  simp only [List.mem_flatMap, List.mem_filterMap, List.mem_range] at h
  obtain ⟨k, hk, e, he, f, hf, h1⟩ := h
  split at h1
  · injection h1 with h1
    subst h1
    simp only [knd]
    omega
  · cases h1
theorem spread_any {F : MS} {p : List ByteArray} {A : Option Addr} {c : Nat} {w : World} (hr : RdS F RT.str p (.slice A p.length c)) (hp : PatOk p) (hH : Has w F) :
    Calls Tryd.prog 70 #[.slice A p.length c] w fun e w' => ∃ g A' c' X, e = .returned (.slice A' (spL g (symL p g)).length c') ∧ IsLat p g ∧ RdS X RT.mv (spL g (symL p g)) (.slice A' (spL g (symL p g)).length c') ∧ Has w' X ∧ Kp w w' := by
  have Hlat := hid (refLattice_any hr hp hH)
  have Hsym := hid (fun (W : World) (hW : Has W F) => symmetries_any hr hp hW)
  have HH := hid hH
  have Hp := hid hp
  clear hr hp hH
  go_enter Tryd.func70, Tryd.ntmps70
  go_wp2_with (first
    | (go_at_call 35; refine Hlat.out.mono ?_; rintro e1 w1 ⟨g, hg, rfl, k1⟩; have Hg := hid hg; have K1 := hid k1; have KA := hid (show Has (w1.alloc (.cells #[.int .i64 g.A, .int .i64 g.B, .int .i64 g.D] 26)) (blk w1.heap.size #[.int .i64 g.A, .int .i64 g.B, .int .i64 g.D] 26 + MS.all w1) from (Has.all w1).alloc _); clear hg k1)
    | (go_at_call 37; refine (Hsym.out _ ((K1.out.1 _ HH.out).of_all KA.out)).mono ?_; rintro e2 w2 ⟨g', B0, d0, X0, rfl, hg', hr0, hX0, k2⟩; obtain rfl := Hg.out.uniq hg'; have Hr0 := hid (show RdS (MS.all w2) RT.mv (symL p g) (.slice B0 (symL p g).length d0) from rd_all (F := X0) (T := RT.mv) (fun _ _ h => h) hr0 hX0); have K2 := hid (k2.1 _ KA.out); have E2 := hid ((K1.out.2.trans (Ext.alloc w1 _)).trans k2.2); have KK := hid (show Kp w w2 from ⟨fun M hM => k2.1 M ((K1.out.1 M hM).of_all KA.out), E2.out⟩); clear hg' hr0 hX0 k2))
  obtain ⟨bg, hbg⟩ : ∃ bg, bg = w1.heap.size := ⟨_, rfl⟩
  rw [← hbg] at K2 ⊢
  clear hbg KA
  obtain ⟨gA, hgA⟩ : ∃ gA : Int, gA = g.A := ⟨_, rfl⟩
  obtain ⟨gB, hgB⟩ : ∃ gB : Int, gB = g.B := ⟨_, rfl⟩
  obtain ⟨gD, hgD⟩ : ∃ gD : Int, gD = g.D := ⟨_, rfl⟩
  have Hgc := hid (show ∀ W X, Has W (X + MS.all w2) → W.cell? ⟨bg, 0, none⟩ = some (.int .i64 gA) ∧ W.cell? ⟨bg, 1, none⟩ = some (.int .i64 gB) ∧ W.cell? ⟨bg, 2, none⟩ = some (.int .i64 gD) from fun W X h => by
    rw [hgA, hgB, hgD]
    have h1 := K2.out.of_all h
    exact ⟨h1.at_ rfl, h1.at_ rfl, h1.at_ rfl⟩)
  have HKp := hid (show ∀ W X, Has W (X + MS.all w2) → Ext w W → Kp w W from fun W X h hE => ⟨fun M hM => (KK.out.1 M hM).of_all h, hE⟩)
  have HG := hid (Has.all w2)
  generalize MS.all w2 = G at *
  have Hgs := hid (show (1 ≤ gA ∧ gA ≤ 6) ∧ (0 ≤ gB ∧ gB ≤ 6) ∧ (1 ≤ gD ∧ gD ≤ 6) by
    have h6 := Hg.out.a6 Hp.out; have := Hg.out.a1; have := Hg.out.d1; omega)
  have HgA := hid hgA
  have HgB := hid hgB
  have HgD := hid hgD
  obtain ⟨l, hl⟩ : ∃ l, l = symL p g := ⟨_, rfl⟩
  rw [← hl] at Hr0 ⊢
  have Hl := hid hl
  have hnc := Hr0.out.cells.2.1
  obtain ⟨N, hN⟩ : ∃ N, N = l.length := ⟨_, rfl⟩
  rw [← hN] at Hr0 hnc ⊢
  have HN := hid hN
  have hN4 := hid (show N ≤ 400 by rw [hN, hl]; exact symL_len (by have := Hg.out.a6 Hp.out; omega) (by have := Hg.out.a6 Hp.out; omega))
  have hNI : (N : Int) ≤ 400 := by have := hN4.out; omega
  clear hgA hgB hgD hl hN
  go_wp2
  go_loopw [5, 6] (fun vo v wr => ∃ i : Nat, ∃ B d ms, i ≤ N ∧ v = .int .i64 i ∧ vo = .slice B (spL g (l.take i)).length d ∧ SlR 41 6 MvR (spL g (l.take i)) (.slice B (spL g (l.take i)).length d) ms ∧ Has wr (ms + G) ∧ Ext w wr) (fun _ v _ => N - (intOf v).toNat)
  case atStart => exact ⟨0, none, 0, 0, Nat.zero_le _, rfl, rfl, ⟨[], 0, 0, Sl.nil _ _, RowsR.nil, by rw [MS.zero_add]⟩, HG.out.eq (by rw [MS.zero_add]), E2.out⟩
  case round =>
    obtain ⟨i, B, d, ms, hi, rfl, rfl, hS, hW, hE⟩ := hrel
    have HS := hid hS
    have HW := hid hW
    have HE := hid hE
    clear hS hW hE HG
    by_cases hlt : i < N
    · have hltI : (i : Int) < N := by omega
      have Hlt := hid hlt
      obtain ⟨m, hm⟩ : ∃ m, l[i]? = some m := ⟨_, List.getElem?_eq_getElem (by have := HN.out; omega)⟩
      obtain ⟨b, o, hA, hcs⟩ := Hr0.out.mvAt hm
      subst hA
      have Hm := hid hm
      have Hoff := hid (symL_off (p := p) (g := g) (by have := Hg.out.a6 Hp.out; omega) (by have := Hg.out.a6 Hp.out; omega) (show m ∈ symL p g by rw [← Hl.out]; exact List.mem_of_getElem? hm))
      have Hcs := hid (fun W X (h : Has W (X + G)) => hcs W h.right)
      have hNd : N ≤ d0 := hnc
      obtain ⟨ma, mb, mc, md, me, mf⟩ := m
      clear hlt hi hcs hm
      go_wp2
      go_loopw [5, 7] (fun vo v wq => ∃ t : Nat, ∃ B d ms, t ≤ 29 ∧ v = .int .i64 (-14 + (t : Int)) ∧ vo = .slice B (spP g l ⟨ma, mb, mc, md, me, mf⟩ i t 0).length d ∧ SlR 41 6 MvR (spP g l ⟨ma, mb, mc, md, me, mf⟩ i t 0) (.slice B (spP g l ⟨ma, mb, mc, md, me, mf⟩ i t 0).length d) ms ∧ Has wq (ms + G) ∧ Ext w wq) (fun _ v _ => (15 - intOf v).toNat)
      case atStart => exact ⟨0, B, d, ms, Nat.zero_le _, rfl, by rw [spP_start], by rw [spP_start]; exact HS.out, HW.out, HE.out⟩
      case round =>
        clear HS HW HE
        obtain ⟨t, B, d, ms, ht, rfl, rfl, hS, hW, hE⟩ := hrel
        have HS := hid hS
        have HW := hid hW
        have HE := hid hE
        clear hS hW hE
        by_cases hlt : t < 29
        · obtain ⟨e, he⟩ : ∃ e : Int, e = -14 + (t : Int) := ⟨_, rfl⟩
          rw [← he]
          have He := hid he
          have heI : e ≤ 14 := by omega
          have heL : -14 ≤ e := by omega
          have Hlt2 := hid hlt
          clear he hlt ht
          go_wp2
          go_loopw [5, 8] (fun vo v wq => ∃ u : Nat, ∃ B d ms, u ≤ 29 ∧ v = .int .i64 (-14 + (u : Int)) ∧ vo = .slice B (spP g l ⟨ma, mb, mc, md, me, mf⟩ i t u).length d ∧ SlR 41 6 MvR (spP g l ⟨ma, mb, mc, md, me, mf⟩ i t u) (.slice B (spP g l ⟨ma, mb, mc, md, me, mf⟩ i t u).length d) ms ∧ Has wq (ms + G) ∧ Ext w wq) (fun _ v _ => (15 - intOf v).toNat)
          case atStart => exact ⟨0, B, d, ms, Nat.zero_le _, rfl, rfl, HS.out, HW.out, HE.out⟩
          case round =>
            clear HS HW HE
            obtain ⟨u, B, d, ms, hu, rfl, rfl, hS, hW, hE⟩ := hrel
            have HS := hid hS
            have HW := hid hW
            have HE := hid hE
            clear hS hW hE
            by_cases hlt : u < 29
            · obtain ⟨f, hf⟩ : ∃ f : Int, f = -14 + (u : Int) := ⟨_, rfl⟩
              rw [← hf]
              have Hf := hid hf
              have hfI : f ≤ 14 := by omega
              have hfL : -14 ≤ f := by omega
              have Hlt3 := hid hlt
              obtain ⟨⟨o1, o2⟩, o3, o4⟩ := Hoff.out
              try simp only at o1 o2 o3 o4
              obtain ⟨⟨s1, s2⟩, ⟨s3, s4⟩, s5, s6⟩ := Hgs.out
              obtain ⟨x, hx⟩ : ∃ x : Int, x = e - me := ⟨_, rfl⟩
              obtain ⟨y, hy⟩ : ∃ y : Int, y = f - mf := ⟨_, rfl⟩
              have hxr : -20 ≤ x ∧ x ≤ 14 := by omega
              have hyr : -20 ≤ y ∧ y ≤ 14 := by omega
              have wx : IntKind.i64.wrap (e - me) = x := by rw [IntKind.wrap_i64]; omega
              have wy : IntKind.i64.wrap (f - mf) = y := by rw [IntKind.wrap_i64]; omega
              have hA0 : ¬ gA = 0 := by omega
              have hD0 : ¬ gD = 0 := by omega
              obtain ⟨g0, g1, g2⟩ := Hgc.out wr ms HW.out
              obtain ⟨n0, n1, n2, n3, n4, n5⟩ := Hcs.out wr ms HW.out
              try simp only at n0 n1 n2 n3 n4 n5
              have Hx := hid hx
              have Hy := hid hy
              obtain ⟨q, hq⟩ : ∃ q, q = x.tdiv gA := ⟨_, rfl⟩
              obtain ⟨qb, hqb⟩ : ∃ qb, qb = q * gB := ⟨_, rfl⟩
              have Hspc := hid (show spC g ⟨ma, mb, mc, md, me, mf⟩ (-14 + t) (-14 + u) = decide (x.tmod gA = 0 ∧ (y - qb).tmod gD = 0) by
                unfold spC
                rw [hqb, hq, hx, hy, ← He.out, ← hf, HgA.out, HgB.out, HgD.out])
              have hqr : -20 ≤ q ∧ q ≤ 20 := by
                have h1 := Int.natAbs_tdiv_le_natAbs x gA
                rw [← hq] at h1
                omega
              have hqbr : -120 ≤ qb ∧ qb ≤ 120 := by
                have h6 : gB = 0 ∨ gB = 1 ∨ gB = 2 ∨ gB = 3 ∨ gB = 4 ∨ gB = 5 ∨ gB = 6 := by omega
                rw [hqb]
                rcases h6 with h | h | h | h | h | h | h <;> rw [h] <;> omega
              have wq1 : IntKind.i64.wrap (x.tdiv gA) = q := by rw [← hq, IntKind.wrap_i64]; omega
              have wq2 : IntKind.i64.wrap (q * gB) = qb := by rw [← hqb, IntKind.wrap_i64]; omega
              obtain ⟨z, hz⟩ : ∃ z, z = y - qb := ⟨_, rfl⟩
              have wq3 : IntKind.i64.wrap (y - qb) = z := by rw [hz, IntKind.wrap_i64]; omega
              rw [← hz] at Hspc
              have v1 : wrap64 q = q := by unfold wrap64; omega
              have v2 : wrap64 (q * gB) = qb := by rw [← hqb]; unfold wrap64; omega
              have v3 : wrap64 (y - qb) = z := by rw [hz]; unfold wrap64; omega
              have tdq := hq.symm
              obtain ⟨n, hn⟩ : ∃ n, n = (spP g l ⟨ma, mb, mc, md, me, mf⟩ i t u).length := ⟨_, rfl⟩
              rw [← hn] at HS ⊢
              have Hn := hid hn
              have Hn4 := hid (show n ≤ 900000 by rw [hn]; exact spP_len (by have := Hlt.out; have := hN4.out; omega) (by have := Hlt2.out; omega) (by omega))
              clear hz hf hlt hu o1 o2 o3 o4 s1 s2 s3 s4 s5 s6 hx hy hxr hyr hq hqb hqr hqbr hn
              by_cases hc1 : x.tmod gA = 0
              rotate_left
              · have Hmiss := hid (show spC g ⟨ma, mb, mc, md, me, mf⟩ (-14 + t) (-14 + u) = false by rw [Hspc.out]; simp [hc1])
                have hc1b : (x.tmod gA == 0) = false := by rw [beq_eq_false_iff_ne]; exact hc1
                clear hc1
                go_wp2
                go_quiet (fail)
                go_wp2
                go_quiet (fail)
                go_wp2
                go_roundw
                case rel => exact ⟨u + 1, B, d, ms, Hlt3.out, by rw [Hf.out]; congr 1; omega, by rw [spP_miss Hmiss.out, ← Hn.out], by rw [spP_miss Hmiss.out, ← Hn.out]; exact HS.out, HW.out.drewN _, HE.out.trans (Ext.drewN _ _)⟩
                case measure => have := Hf.out; have := Hlt3.out; simp [intOf]; omega
              by_cases hc2 : z.tmod gD = 0
              rotate_left
              · have Hmiss := hid (show spC g ⟨ma, mb, mc, md, me, mf⟩ (-14 + t) (-14 + u) = false by rw [Hspc.out]; simp [hc2])
                have hc1b : (x.tmod gA == 0) = true := by rw [beq_iff_eq]; exact hc1
                have hc2b : (z.tmod gD == 0) = false := by rw [beq_eq_false_iff_ne]; exact hc2
                clear hc1 hc2
                go_wp2
                go_quiet (fail)
                go_wp2
                go_quiet (fail)
                go_wp2
                go_roundw
                case rel => exact ⟨u + 1, B, d, ms, Hlt3.out, by rw [Hf.out]; congr 1; omega, by rw [spP_miss Hmiss.out, ← Hn.out], by rw [spP_miss Hmiss.out, ← Hn.out]; exact HS.out, HW.out.drewN _, HE.out.trans (Ext.drewN _ _)⟩
                case measure => have := Hf.out; have := Hlt3.out; simp [intOf]; omega
              · have Hhit := hid (show spC g ⟨ma, mb, mc, md, me, mf⟩ (-14 + t) (-14 + u) = true by rw [Hspc.out]; simp [hc1, hc2])
                have hc1b : (x.tmod gA == 0) = true := by rw [beq_iff_eq]; exact hc1
                have hc2b : (z.tmod gD == 0) = true := by rw [beq_iff_eq]; exact hc2
                have Hl2 := hid (show spP g l ⟨ma, mb, mc, md, me, mf⟩ i t (u + 1) = spP g l ⟨ma, mb, mc, md, me, mf⟩ i t u ++ [⟨ma, mb, mc, md, e, f⟩] by rw [spP_hit Hhit.out, He.out, Hf.out])
                clear hc1 hc2
                go_wp2
                go_quiet (fail)
                go_wp2
                go_quiet (fail)
                go_simp
                generalize hwd : wr.drewN _ = wd
                have HWd := hid (show Has wd (ms + G) by rw [← hwd]; exact HW.out.drewN _)
                have HEd := hid (show Ext w wd by rw [← hwd]; exact HE.out.trans (Ext.drewN _ _))
                clear hwd n0 n1 n2 n3 n4 n5
                obtain ⟨n0, n1, n2, n3, n4, n5⟩ := Hcs.out wd ms HWd.out
                try simp only at n0 n1 n2 n3 n4 n5
                go_wp2_with (at_builtin; refine wpList_push rfl (.tmp 72) (.tmp 74) row30 rfl (.slice B n d) rfl _ rfl (by simp) MvR MvR.one MvR.len (spP g l ⟨ma, mb, mc, md, me, mf⟩ i t u) ⟨ma, mb, mc, md, e, f⟩ ms 0 (blk wd.heap.size #[.int .i64 ma, .int .i64 mb, .int .i64 mc, .int .i64 md, .int .i64 e, .int .i64 f] 41 + G) HS.out ⟨rfl, rfl⟩ ((HWd.out.alloc _).eq (by show blk _ _ _ + _ = _; rw [MS.zero_add]; ac_rfl)) n Hn.out.symm (by have := Hn4.out; omega) (by omega) ?_; intro A8 c8 w8 m8 j4 j5 j6; have J4 := hid j4; have J5 := hid j5; have J6 := hid ((HEd.out.trans (Ext.alloc _ _)).trans j6); clear j4 j5 j6)
                go_roundw
                case rel =>
                  have hln : (spP g l ⟨ma, mb, mc, md, me, mf⟩ i t (u + 1)).length = n + 1 := by rw [Hl2.out, List.length_append, ← Hn.out]; rfl
                  exact ⟨u + 1, A8, c8, m8, Hlt3.out, by rw [Hf.out]; congr 1; omega, by rw [hln], by rw [hln, Hl2.out]; exact J4.out, (J5.out.eq (b := blk wd.heap.size #[.int .i64 ma, .int .i64 mb, .int .i64 mc, .int .i64 md, .int .i64 e, .int .i64 f] 41 + (m8 + G)) (by ac_rfl)).right, J6.out⟩
                case measure => have := Hf.out; have := Hlt3.out; simp [intOf]; omega
            · have hue : u = 29 := by omega
              subst hue
              clear hlt hu
              go_wp2
              go_roundw
              case rel => exact ⟨t + 1, B, d, ms, Hlt2.out, by rw [He.out]; congr 1; omega, by rw [← spP_endU], by rw [← spP_endU]; exact HS.out, HW.out, HE.out⟩
              case measure => have := He.out; have := Hlt2.out; simp [intOf]; omega
        · have hte : t = 29 := by omega
          subst hte
          clear hlt ht
          go_wp2
          go_roundw
          case rel => exact ⟨i + 1, B, d, ms, Hlt.out, by go_num, by rw [spP_endT Hm.out], by rw [← spP_endT Hm.out]; exact HS.out, HW.out, HE.out⟩
          case measure => have := Hlt.out; simp [intOf]; omega
    · have hie : i = N := by omega
      subst hie
      clear hlt hi
      have hl := hid (show spL g (l.take i) = spL g l by rw [HN.out, List.take_length])
      go_wp2
      go_ret
      exact ⟨g, B, d, ms, by rw [← Hl.out, ← hl.out]; rfl, Hg.out, by rw [← Hl.out, ← hl.out]; exact HS.out.rd (fun a cs m h => h.1), HW.out.left, HKp.out _ _ HW.out HE.out⟩
end Go.Proofs.YteibbnmlmbhkpaaDoor

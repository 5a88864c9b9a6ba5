/-
  Owned numbers; what taken computes. The walk of taken.
-/
import Derived.Test.YteibbnmlmbhkpaaDoorBW6
namespace Go.Proofs.YteibbnmlmbhkpaaDoor
open Go.RowKit
set_option linter.unusedVariables false
set_option linter.unusedSimpArgs false
set_option maxRecDepth 100000

/-- Cells of an array that hold numbers. -/
def NumA (off n : Nat) (f : Nat → Nat) (cur : Array Value) : Prop := off + n ≤ cur.size ∧ ∀ j, j < n → cur[off + j]? = some (.int .i64 (f j))
theorem NumA.set {off n : Nat} {f : Nat → Nat} {cur : Array Value} (h : NumA off n f cur) {a : Nat} (ha : a < n) (x : Nat) : NumA off n (fun j => if j = a then x else f j) (cur.setIfInBounds (off + a) (.int .i64 x)) := by
  refine ⟨by rw [Array.size_setIfInBounds]; exact h.1, fun j hj => ?_⟩
  by_cases hc : j = a
  · rw [hc, Array.getElem?_setIfInBounds_self_of_lt (by have := h.1; omega)]; simp
  · rw [Array.getElem?_setIfInBounds_ne (by omega), h.2 j hj]; simp [hc]
theorem nums_made {n : Nat} {v : Value} {m : MS} (hn : 1 ≤ n) (h : Sl 3 1 v n (madeCells (Value.int .i64 0).cells (n * 1)).toList m) : ∃ b off c cur, v = .slice (some ⟨b, off, none⟩) n c ∧ m = blk b cur 3 ∧ n ≤ c ∧ c ≤ maxLen ∧ NumA off n (fun _ => 0) cur := by
  obtain ⟨h0, h1⟩ := h
  rcases h1 with ⟨_, h2, _⟩ | ⟨b, off, c, cur, h2, h3, h4, h5, h6, h7⟩
  · omega
  · refine ⟨b, off, c, cur, h2, h3, h4, h5, by omega, fun j hj => ?_⟩
    rw [h7 j (by omega)]
    have e : (madeCells (Value.int .i64 0).cells (n * 1)).toList = List.replicate n (.int .i64 0) := by
      rw [Nat.mul_one]; exact toList_madeCells_one (.int .i64 0) n
    rw [e, List.getElem?_replicate, if_pos hj]; rfl
theorem NumA.cell {W : World} {F : MS} {b off n : Nat} {f : Nat → Nat} {cur : Array Value} (h : NumA off n f cur) (hW : Has W (blk b cur 3 + F)) {j : Nat} (hj : j < n) : W.cell? ⟨b, off + j, none⟩ = some (.int .i64 (f j)) := hW.at_ (h.2 j hj)
theorem info3 : (Tryd.prog.info? 3).map (fun i => (i.zero, i.size, i.bytes)) = some (some (.int .i64 0), 1, 8) := by kernel_rfl
theorem und55 : Tryd.prog.underlying 55 = some (.slice 3) := by kernel_rfl
theorem valD_head {k : Nat} {c : Nat → Nat} : ∀ n : Nat, valD k c (n + 1) = c 0 + k * valD k (fun j => c (j + 1)) n
  | 0 => by simp [valD]
  | n + 1 => by
    show valD k c (n + 1) + c (n + 1) * k ^ (n + 1) = _
    rw [valD_head n]
    show _ = c 0 + k * (valD k (fun j => c (j + 1)) n + c (n + 1) * k ^ n)
    rw [Nat.mul_add, Nat.pow_succ, show k * (c (n + 1) * k ^ n) = c (n + 1) * (k ^ n * k) by rw [Nat.mul_left_comm, Nat.mul_comm k]]
    omega
theorem dig_next (k i x : Nat) : x / k ^ i / k = x / k ^ (i + 1) := by rw [Nat.pow_succ, Nat.div_div_eq_div_mul]
/-- After i cells. -/
def Half (σ : Nat → Nat) (k n x i : Nat) (f : Nat → Nat) : Prop := (∀ j, j < n → f j < k) ∧ ∀ j, j < i → f (σ j) = dig k j x
theorem Half.step {σ τ : Nat → Nat} {k n x i : Nat} {f : Nat → Nat} (h : Half σ k n x i f) (hp : Perm σ τ n) (hk : 1 ≤ k) (hi : i < n) : Half σ k n x (i + 1) (fun j => if j = σ i then dig k i x else f j) := by
  refine ⟨fun j hj => ?_, fun j hj => ?_⟩
  · show (if j = σ i then dig k i x else f j) < k
    split
    · exact dig_lt hk _ _
    · exact h.1 j hj
  · show (if σ j = σ i then dig k i x else f (σ j)) = dig k j x
    by_cases hc : j = i
    · subst hc; rw [if_pos rfl]
    · rw [if_neg, h.2 j (by omega)]
      intro he
      apply hc
      rw [← hp.ts j (by omega), ← hp.ts i hi, he]
theorem Half.mvd {σ τ : Nat → Nat} {k n x : Nat} {f : Nat → Nat} (h : Half σ k n x n f) (hp : Perm σ τ n) (hk : 1 ≤ k) : Mvd σ k n x (valD k f n) :=
  ⟨valD_lt hk h.1, fun i hi => by rw [dig_valD hk h.1 (hp.s i hi), h.2 i hi]⟩
theorem least_nat {P : Nat → Prop} : ∀ n : Nat, P n → ∃ m, m ≤ n ∧ P m ∧ ∀ j, j < m → ¬ P j := by
  intro n
  induction n using Nat.strongRecOn with
  | ind n ih =>
    intro hn
    by_cases hx : ∃ j, j < n ∧ P j
    · obtain ⟨j, hj, hP⟩ := hx
      obtain ⟨m, h1, h2, h3⟩ := ih j hj hP
      exact ⟨m, by omega, h2, h3⟩
    · exact ⟨n, Nat.le_refl _, hn, fun j hj hP => hx ⟨j, hj, hP⟩⟩
/-- A pattern has a lattice. -/
theorem IsLat.ex {p : List ByteArray} (hp : PatOk p) : ∃ g, IsLat p g := by
  obtain ⟨D, hD1, ⟨hD2, hD3⟩, hD4⟩ := least_nat (P := fun d => 1 ≤ d ∧ (d < p.length → shB p 0 d = true)) p.length ⟨hp.h1, fun h => absurd h (Nat.lt_irrefl _)⟩
  obtain ⟨A, hA1, ⟨hA2, hA3⟩, hA4⟩ := least_nat (P := fun a => 1 ≤ a ∧ (a < wd p → ∃ y, y < D ∧ shB p a y = true)) (wd p) ⟨hp.w1, fun h => absurd h (Nat.lt_irrefl _)⟩
  have hDm : ∀ y, 1 ≤ y → y < D → shB p 0 y = false := fun y h1 h2 => by
    cases h : shB p 0 y with
    | false => rfl
    | true => exact absurd ⟨h1, fun _ => h⟩ (hD4 y h2)
  have hAm : ∀ x, 1 ≤ x → x < A → ∀ y, y < D → shB p x y = false := fun x h1 h2 y hy => by
    cases h : shB p x y with
    | false => rfl
    | true => exact absurd ⟨h1, fun _ => ⟨y, hy, h⟩⟩ (hA4 x h2)
  by_cases hw : A = wd p
  · exact ⟨⟨A, 0, D⟩, hD2, hD1, hDm, hD3, hA2, hA1, by show 0 < D; omega, hAm, fun h => absurd hw (Nat.ne_of_lt h), fun _ => rfl⟩
  · obtain ⟨y, hy, hs⟩ := hA3 (by omega)
    obtain ⟨B, hB1, hB2, hB3⟩ := least_nat (P := fun b => shB p A b = true) y hs
    exact ⟨⟨A, B, D⟩, hD2, hD1, hDm, hD3, hA2, hA1, by show B < D; omega, hAm, fun _ => ⟨hB2, fun j hj => by
      cases h : shB p A j with
      | false => rfl
      | true => exact absurd h (hB3 j hj)⟩, fun h => absurd h hw⟩
/-- Go's reduced cell. -/
theorem go_red {A B D : Nat} (hA : 1 ≤ A ∧ A ≤ 6) (hD : 1 ≤ D ∧ D ≤ 6) (hB : B < D) {x y : Int} (hx : -1000 ≤ x ∧ x ≤ 1000) (hy : -1000 ≤ y ∧ y ≤ 1000) :
    ∃ r q qb s t : Int, r = redX ⟨A, B, D⟩ x ∧ s = redY ⟨A, B, D⟩ x y ∧ (0 ≤ r ∧ r < A) ∧ (0 ≤ s ∧ s < D) ∧ (-6 ≤ x.tmod A ∧ x.tmod A ≤ 6) ∧ (x.tmod A + A).tmod A = r ∧ (x - r).tdiv A = q ∧ (-1000 ≤ q ∧ q ≤ 1000) ∧ q * B = qb ∧ (-6000 ≤ qb ∧ qb ≤ 6000) ∧ y - qb = t ∧ (-6 ≤ t.tmod D ∧ t.tmod D ≤ 6) ∧ (t.tmod D + D).tmod D = s := by
  have hxq : x - x % (A : Int) = (A : Int) * (x / A) := by have := Int.emod_add_mul_ediv x A; omega
  have hA0 : ¬ (A : Int) = 0 := by omega
  obtain ⟨a1, a2, a3⟩ := mod_go (n := x) (m := (A : Int)) (by omega)
  obtain ⟨b1, b2, b3⟩ := mod_go (n := y - x / A * B) (m := (D : Int)) (by omega)
  have hq1 : -1000 ≤ x / (A : Int) ∧ x / (A : Int) ≤ 1000 := by
    have h6 : A = 1 ∨ A = 2 ∨ A = 3 ∨ A = 4 ∨ A = 5 ∨ A = 6 := by omega
    rcases h6 with rfl | rfl | rfl | rfl | rfl | rfl <;> omega
  refine ⟨x % (A : Int), x / (A : Int), x / (A : Int) * B, (y - x / A * B) % (D : Int), y - x / A * B, rfl, rfl, ⟨Int.emod_nonneg _ hA0, Int.emod_lt_of_pos _ (by omega)⟩, ⟨Int.emod_nonneg _ (by omega), Int.emod_lt_of_pos _ (by omega)⟩, by omega, a3, ?_, hq1, rfl, ?_, rfl, by omega, b3⟩
  · rw [hxq, Int.mul_tdiv_cancel_left _ hA0]
  · have hB0 : (0 : Int) ≤ B := by omega
    constructor
    · have h1 : -1000 * (B : Int) ≤ x / (A : Int) * B := Int.mul_le_mul_of_nonneg_right hq1.1 hB0
      omega
    · have h1 : x / (A : Int) * (B : Int) ≤ 1000 * B := Int.mul_le_mul_of_nonneg_right hq1.2 hB0
      omega
end Go.Proofs.YteibbnmlmbhkpaaDoor

namespace Go.Proofs.YteibbnmlmbhkpaaDoor
open Go.RowKit
set_option linter.unusedVariables false
set_option linter.unusedSimpArgs false
set_option maxHeartbeats 4000000
set_option maxRecDepth 100000

theorem wr_nat {z : Nat} (h : z ≤ 17179869200) : IntKind.i64.wrap (z : Int) = z ∧ wrap64 (z : Int) = z := by
  constructor
  · rw [IntKind.wrap_i64]; omega
  · unfold wrap64; omega
theorem taken_any {p : List ByteArray} {g : Gd} (hp : PatOk p) (hl : IsLat p g) {m : Mv} (hm : m ∈ symL p g) {k x : Nat} (h1 : 1 ≤ k) (h4 : k ≤ 4) (h16 : g.A * g.D ≤ 16) (hx4 : x ≤ 4096) (w : World) :
    Calls Tryd.prog 19 #[.agg #[.int .i64 g.A, .int .i64 g.B, .int .i64 g.D], m.v, .int .i64 k, .int .i64 x] w fun e w' => ∃ y : Nat, e = .returned (.int .i64 y) ∧ Mvd (sig g (kd m) m.e m.f) k (g.A * g.D) x y ∧ Kp w w' := by
  have h6 := hl.a6 hp
  have hA := hl.a1
  have hD := hl.d1
  have hB := hl.bd
  have hkm : kd m < 8 ∧ Sy p (kd m) m.e m.f := by
    obtain ⟨k', e, f, hk', _, _, rfl, hs⟩ := (mem_symL hp hl m).1 hm
    rw [kd_knd hk']
    exact ⟨hk', hs⟩
  obtain ⟨τ, hτ⟩ := sig_perm hp hl hkm.1 hkm.2
  have Hto := hid (fun (i : Nat) (hi : i < g.A * g.D) => sig_to hp hl hm hi)
  have hn1 : 1 ≤ g.A * g.D := Nat.mul_pos (by omega) (by omega)
  obtain ⟨σ, hσ⟩ : ∃ σ, σ = sig g (kd m) m.e m.f := ⟨_, rfl⟩
  rw [← hσ] at hτ Hto ⊢
  obtain ⟨gA, gB, gD⟩ := g
  simp only at h6 hA hD hB h16 hn1 hτ Hto ⊢
  obtain ⟨n, hn⟩ : ∃ n, n = gA * gD := ⟨_, rfl⟩
  rw [← hn] at hτ Hto h16 hn1 ⊢
  have Hτ := hid hτ
  have Hmv := hid (fun (x y : Int) (W : World) => refTo_any m x y W)
  have Hred := hid (fun (x y : Int) (hx : -1000 ≤ x ∧ x ≤ 1000) (hy : -1000 ≤ y ∧ y ≤ 1000) => go_red (A := gA) (B := gB) (D := gD) ⟨hA, h6.1⟩ ⟨hD, h6.2.1⟩ hB hx hy)
  have Hnum := hid (show ∀ x y : Int, (num ⟨gA, gB, gD⟩ x y : Int) = redX ⟨gA, gB, gD⟩ x * gD + redY ⟨gA, gB, gD⟩ x y from fun x y => by
    have hrr := red_range (g := ⟨gA, gB, gD⟩) hA hD x y
    unfold num
    rw [Int.natCast_add, Int.natCast_mul]
    rw [show ((redX ⟨gA, gB, gD⟩ x).toNat : Int) = redX ⟨gA, gB, gD⟩ x by omega, show ((redY ⟨gA, gB, gD⟩ x y).toNat : Int) = redY ⟨gA, gB, gD⟩ x y by omega])
  obtain ⟨ma, mb, mc, md, me, mf⟩ := m
  obtain ⟨GA, hGA⟩ : ∃ GA : Int, GA = (gA : Int) := ⟨_, rfl⟩
  obtain ⟨GB, hGB⟩ : ∃ GB : Int, GB = (gB : Int) := ⟨_, rfl⟩
  obtain ⟨GD, hGD⟩ : ∃ GD : Int, GD = (gD : Int) := ⟨_, rfl⟩
  show Calls Tryd.prog 19 #[.agg #[.int .i64 (gA : Int), .int .i64 (gB : Int), .int .i64 (gD : Int)], .agg #[.int .i64 ma, .int .i64 mb, .int .i64 mc, .int .i64 md, .int .i64 me, .int .i64 mf], .int .i64 k, .int .i64 x] w _
  have hGn : GA * GD = (n : Int) := by rw [hGA, hGD, hn, Int.natCast_mul]
  have HdD := hid (show ∀ i : Nat, (i : Int).tdiv GD = ((i / gD : Nat) : Int) ∧ (i : Int).tmod GD = ((i % gD : Nat) : Int) from fun i => by
    rw [hGD, Int.tdiv_eq_ediv_of_nonneg (Int.natCast_nonneg i), Int.tmod_eq_emod_of_nonneg (Int.natCast_nonneg i)]
    exact ⟨rfl, rfl⟩)
  have HdK := hid (show ∀ i : Nat, (i : Int).tdiv (k : Int) = ((i / k : Nat) : Int) ∧ (i : Int).tmod (k : Int) = ((i % k : Nat) : Int) from fun i => by
    rw [Int.tdiv_eq_ediv_of_nonneg (Int.natCast_nonneg i), Int.tmod_eq_emod_of_nonneg (Int.natCast_nonneg i)]
    exact ⟨rfl, rfl⟩)
  obtain ⟨KK, hKK⟩ : ∃ KK : Int, KK = (k : Int) := ⟨_, rfl⟩
  rw [← hGA, ← hGB, ← hGD, ← hKK]
  rw [← hKK] at HdK
  have HKK := hid hKK
  rw [← hGA, ← hGB, ← hGD] at Hred
  rw [← hGD] at Hnum
  have HgA := hid (show 1 ≤ GA ∧ GA ≤ 6 by omega)
  have HgD := hid (show 1 ≤ GD ∧ GD ≤ 6 by omega)
  have hA0 : ¬ (GA = 0) := by omega
  have hD0 : ¬ (GD = 0) := by omega
  have hK0 : ¬ (KK = 0) := by omega
  have hnI : (n : Int) ≤ 16 := by omega
  have un1 : IntKind.i64.wrap (GA * GD) = (n : Int) := by rw [hGn, IntKind.wrap_i64]; omega
  have un2 : wrap64 (GA * GD) = (n : Int) := by rw [hGn]; unfold wrap64; omega
  have H16 := hid h16
  have HN1 := hid hn1
  have HK1 := hid h1
  have HK4 := hid h4
  have HX := hid hx4
  obtain ⟨b1, hb1⟩ : ∃ b1, b1 = w.heap.size := ⟨_, rfl⟩
  obtain ⟨W2, hW2⟩ : ∃ W2, W2 = (w.alloc (.cells #[.int .i64 GA, .int .i64 GB, .int .i64 GD] 26)).alloc (.cells #[.int .i64 ma, .int .i64 mb, .int .i64 mc, .int .i64 md, .int .i64 me, .int .i64 mf] 41) := ⟨_, rfl⟩
  have HA := hid (((Has.all w).alloc (.cells #[.int .i64 GA, .int .i64 GB, .int .i64 GD] 26)).alloc (.cells #[.int .i64 ma, .int .i64 mb, .int .i64 mc, .int .i64 md, .int .i64 me, .int .i64 mf] 41))
  have HE := hid ((Ext.alloc w (.cells #[.int .i64 GA, .int .i64 GB, .int .i64 GD] 26)).trans (Ext.alloc _ (.cells #[.int .i64 ma, .int .i64 mb, .int .i64 mc, .int .i64 md, .int .i64 me, .int .i64 mf] 41)))
  rw [show (w.alloc (.cells #[.int .i64 GA, .int .i64 GB, .int .i64 GD] 26)).heap.size = b1 + 1 by rw [hb1]; simp, ← hb1] at HA
  rw [← hW2] at HA HE
  have H2 := hid (show Has W2 (blk (b1 + 1) #[.int .i64 ma, .int .i64 mb, .int .i64 mc, .int .i64 md, .int .i64 me, .int .i64 mf] 41 + (blk b1 #[.int .i64 GA, .int .i64 GB, .int .i64 GD] 26 + MS.all w)) from HA.out)
  have HF := hid (show ∀ W, Has W (blk (b1 + 1) #[.int .i64 ma, .int .i64 mb, .int .i64 mc, .int .i64 md, .int .i64 me, .int .i64 mf] 41 + (blk b1 #[.int .i64 GA, .int .i64 GB, .int .i64 GD] 26 + MS.all w)) → ∀ N, Has w N → Has W N from fun W h => by
    have h' : Has W ((blk (b1 + 1) #[.int .i64 ma, .int .i64 mb, .int .i64 mc, .int .i64 md, .int .i64 me, .int .i64 mf] 41 + blk b1 #[.int .i64 GA, .int .i64 GB, .int .i64 GD] 26) + MS.all w) := h.eq (by ac_rfl)
    exact fun N hN => hN.of_all h')
  have Keep := hid (show ∀ W, Has W (blk (b1 + 1) #[.int .i64 ma, .int .i64 mb, .int .i64 mc, .int .i64 md, .int .i64 me, .int .i64 mf] 41 + (blk b1 #[.int .i64 GA, .int .i64 GB, .int .i64 GD] 26 + MS.all w)) → (W.cell? ⟨b1 + 1, 0, none⟩ = some (.int .i64 ma) ∧ W.cell? ⟨b1 + 1, 1, none⟩ = some (.int .i64 mb) ∧ W.cell? ⟨b1 + 1, 2, none⟩ = some (.int .i64 mc) ∧ W.cell? ⟨b1 + 1, 3, none⟩ = some (.int .i64 md) ∧ W.cell? ⟨b1 + 1, 4, none⟩ = some (.int .i64 me) ∧ W.cell? ⟨b1 + 1, 5, none⟩ = some (.int .i64 mf) ∧ W.cell? ⟨b1, 0, none⟩ = some (.int .i64 GA) ∧ W.cell? ⟨b1, 1, none⟩ = some (.int .i64 GB) ∧ W.cell? ⟨b1, 2, none⟩ = some (.int .i64 GD)) from fun W h => by
    have h' : Has W (blk b1 #[.int .i64 GA, .int .i64 GB, .int .i64 GD] 26 + (blk (b1 + 1) #[.int .i64 ma, .int .i64 mb, .int .i64 mc, .int .i64 md, .int .i64 me, .int .i64 mf] 41 + MS.all w)) := h.eq (by ac_rfl)
    exact ⟨h.at_ rfl, h.at_ rfl, h.at_ rfl, h.at_ rfl, h.at_ rfl, h.at_ rfl, h'.at_ rfl, h'.at_ rfl, h'.at_ rfl⟩)
  clear HA
  generalize (blk (b1 + 1) #[.int .i64 ma, .int .i64 mb, .int .i64 mc, .int .i64 md, .int .i64 me, .int .i64 mf] 41 + (blk b1 #[.int .i64 GA, .int .i64 GB, .int .i64 GD] 26 + MS.all w)) = M2 at *
  have G0 := (Keep.out _ H2.out).2.2.2.2.2.2.1
  have G2 := (Keep.out _ H2.out).2.2.2.2.2.2.2.2
  rw [hW2] at G0 G2
  clear hp hl hm h1 h4 h16 hx4 h6 hA hD hB hkm hτ hσ hn1 hn hGn hGA hGB hGD hKK
  go_enter Tryd.func19, Tryd.ntmps19
  go_wp2_with (rw [← hW2, ← hb1]; refine wpList_make_sl rfl (.tmp 21) (.tmp 21) 55 rfl 3 _ 1 8 und55 info3 .i64 .i64 n rfl rfl (by have := H16.out; omega) (by have := H16.out; simp only [maxLen]; omega) M2 H2.out ?_; intro v' w3 m3 j1 j2 j3 _; obtain ⟨b, off, c3, cur, rfl, rfl, hc1, hc2, hfl⟩ := nums_made HN1.out j1; have HFl := hid hfl; have J3 := hid j2; have E3 := hid (HE.out.trans j3); clear j1 j2 j3 hfl hW2 hb1 G0 G2 un1 un2)
  have KA := hid (show ∀ W cur', Has W (blk b cur' 3 + M2) → (W.cell? ⟨b1 + 1, 0, none⟩ = some (.int .i64 ma) ∧ W.cell? ⟨b1 + 1, 1, none⟩ = some (.int .i64 mb) ∧ W.cell? ⟨b1 + 1, 2, none⟩ = some (.int .i64 mc) ∧ W.cell? ⟨b1 + 1, 3, none⟩ = some (.int .i64 md) ∧ W.cell? ⟨b1 + 1, 4, none⟩ = some (.int .i64 me) ∧ W.cell? ⟨b1 + 1, 5, none⟩ = some (.int .i64 mf) ∧ W.cell? ⟨b1, 0, none⟩ = some (.int .i64 GA) ∧ W.cell? ⟨b1, 1, none⟩ = some (.int .i64 GB) ∧ W.cell? ⟨b1, 2, none⟩ = some (.int .i64 GD)) from fun W cur' h => Keep.out W h.right)
  clear Keep HE H2
  go_loopw [3, 10] (fun vc v wr => ∃ i : Nat, ∃ cur f, i ≤ n ∧ v = .int .i64 i ∧ vc = .int .i64 ((x / k ^ i : Nat) : Int) ∧ Half σ k n x i f ∧ NumA off n f cur ∧ Has wr (blk b cur 3 + M2) ∧ Ext w wr) (fun _ v _ => n - (intOf v).toNat)
  case atStart => exact ⟨0, cur, _, Nat.zero_le _, rfl, by rw [Nat.pow_zero, Nat.div_one], ⟨fun j _ => HK1.out, fun j hj => absurd hj (Nat.not_lt_zero _)⟩, HFl.out, J3.out, E3.out⟩
  case round =>
    clear HFl J3 E3
    obtain ⟨i, cur, f, hi, rfl, rfl, hh, hfl, hW, hE⟩ := hrel
    have HH := hid hh
    have HFl := hid hfl
    have HW := hid hW
    have HE := hid hE
    clear hh hfl hW hE
    by_cases hlt : i < n
    · have hltI : (i : Int) < n := by omega
      have Hlt := hid hlt
      obtain ⟨hs1, hs2, hs3⟩ := Hto.out i hlt
      have hsl := Hτ.out.s i hlt
      obtain ⟨d1, d2⟩ := HdD.out i
      have hi1 : i / gD ≤ i := Nat.div_le_self _ _
      have hi2 : i % gD ≤ i := Nat.mod_le _ _
      obtain ⟨U, hU⟩ : ∃ U : Int, U = ((i / gD : Nat) : Int) := ⟨_, rfl⟩
      obtain ⟨V, hV⟩ : ∃ V : Int, V = ((i % gD : Nat) : Int) := ⟨_, rfl⟩
      have hUr : 0 ≤ U ∧ U ≤ 16 := by rw [hU]; exact ⟨Int.natCast_nonneg _, by have := H16.out; have := Int.ofNat_le.2 hi1; omega⟩
      have e1 : IntKind.i64.wrap U = U := by rw [IntKind.wrap_i64]; omega
      have e2 : wrap64 U = U := by unfold wrap64; omega
      rw [← hU, ← hV] at hs1 hs2 hs3
      rw [← hU] at d1
      rw [← hV] at d2
      have Hmvv := hid (fun W => show Calls Tryd.prog 41 #[.agg #[.int .i64 ma, .int .i64 mb, .int .i64 mc, .int .i64 md, .int .i64 me, .int .i64 mf], .int .i64 U, .int .i64 V] W fun e w' => e = .returned (.tuple #[.int .i64 ((⟨ma, mb, mc, md, me, mf⟩ : Mv).toX U V), .int .i64 ((⟨ma, mb, mc, md, me, mf⟩ : Mv).toY U V)]) ∧ Kp W w' from Hmv.out U V W)
      clear hU hV hi1 hi2 hUr hlt hi
      generalize (⟨ma, mb, mc, md, me, mf⟩ : Mv).toX U V = tx at *
      generalize (⟨ma, mb, mc, md, me, mf⟩ : Mv).toY U V = ty at *
      have hnm := Hnum.out tx ty
      rw [← hs1] at hnm
      obtain ⟨r, q, qb, s, t, r1, r2, r3, r4, r5, r6, r7, r8, r9, r10, r11, r12, r13⟩ := Hred.out tx ty hs2 hs3
      rw [← r1, ← r2] at hnm
      obtain ⟨x1, hx1⟩ : ∃ x1, x1 = tx.tmod GA := ⟨_, rfl⟩
      obtain ⟨y1, hy1⟩ : ∃ y1, y1 = t.tmod GD := ⟨_, rfl⟩
      rw [← hx1] at r5 r6
      rw [← hy1] at r12 r13
      obtain ⟨x2, hx2⟩ : ∃ x2, x2 = x1 + GA := ⟨_, rfl⟩
      obtain ⟨y2, hy2⟩ : ∃ y2, y2 = y1 + GD := ⟨_, rfl⟩
      obtain ⟨x3, hx3⟩ : ∃ x3, x3 = tx - r := ⟨_, rfl⟩
      obtain ⟨rd, hrd⟩ : ∃ rd, rd = r * GD := ⟨_, rfl⟩
      rw [← hx2] at r6
      rw [← hy2] at r13
      rw [← hx3] at r7
      rw [← hrd] at hnm
      have hga := HgA.out
      have hgd := HgD.out
      have f1 := hx1.symm
      have f2 := hy1.symm
      have a1 : IntKind.i64.wrap (x1 + GA) = x2 := by rw [IntKind.wrap_i64]; omega
      have a2 : wrap64 (x1 + GA) = x2 := by unfold wrap64; omega
      have a3 : IntKind.i64.wrap (tx - r) = x3 := by rw [IntKind.wrap_i64]; omega
      have a4 : wrap64 (tx - r) = x3 := by unfold wrap64; omega
      have a5 : IntKind.i64.wrap q = q := by rw [IntKind.wrap_i64]; omega
      have a6 : wrap64 q = q := by unfold wrap64; omega
      have a7 : IntKind.i64.wrap (q * GB) = qb := by rw [r9, IntKind.wrap_i64]; omega
      have a8 : wrap64 (q * GB) = qb := by rw [r9]; unfold wrap64; omega
      have a9 : IntKind.i64.wrap (ty - qb) = t := by rw [IntKind.wrap_i64]; omega
      have b1' : wrap64 (ty - qb) = t := by unfold wrap64; omega
      have b2 : IntKind.i64.wrap (y1 + GD) = y2 := by rw [IntKind.wrap_i64]; omega
      have b3 : wrap64 (y1 + GD) = y2 := by unfold wrap64; omega
      have hrs : -6 ≤ rd ∧ rd ≤ 16 := by have := H16.out; clear hrd; omega
      have b4 : IntKind.i64.wrap (r * GD) = rd := by rw [← hrd, IntKind.wrap_i64]; omega
      have b5 : wrap64 (r * GD) = rd := by rw [← hrd]; unfold wrap64; omega
      have hcl := Nat.div_le_self x (k ^ i)
      have hcx := HX.out
      have hnx := dig_next k i x
      have hd3 := HdK.out (x / k ^ i)
      rw [hnx] at hd3
      have hdg : x / k ^ i % k = dig k i x := rfl
      rw [hdg] at hd3
      have hcl2 := Nat.div_le_self x (k ^ (i + 1))
      have Hst := hid (HH.out.step Hτ.out HK1.out Hlt.out)
      obtain ⟨a, ha⟩ : ∃ a, a = σ i := ⟨_, rfl⟩
      rw [← ha] at hnm hsl Hst
      have b6 : IntKind.i64.wrap (rd + s) = (a : Int) := by rw [← hnm, IntKind.wrap_i64]; omega
      have b7 : wrap64 (rd + s) = (a : Int) := by rw [← hnm]; unfold wrap64; omega
      have haI : (a : Int) < n := by omega
      have Hal := hid hsl
      obtain ⟨c0', hc0'⟩ : ∃ c0' : Int, c0' = ((x / k ^ i : Nat) : Int) := ⟨_, rfl⟩
      obtain ⟨c1', hc1'⟩ : ∃ c1' : Int, c1' = ((x / k ^ (i + 1) : Nat) : Int) := ⟨_, rfl⟩
      rw [← hc0', ← hc1'] at hd3
      have hc1r : 0 ≤ c1' ∧ c1' ≤ 4096 := by rw [hc1']; exact ⟨Int.natCast_nonneg _, by have := Int.ofNat_le.2 hcl2; omega⟩
      rw [← hc0']
      have Hc1 := hid hc1'
      obtain ⟨dg, hdg2⟩ : ∃ dg, dg = dig k i x := ⟨_, rfl⟩
      rw [← hdg2] at hd3 Hst
      obtain ⟨t1, t2⟩ := hd3
      have b8 : IntKind.i64.wrap c1' = c1' := by rw [IntKind.wrap_i64]; omega
      have b9 : wrap64 c1' = c1' := by unfold wrap64; omega
      clear hs1 hs2 hs3 hsl hnm r1 r2 r3 r4 r5 r8 r9 r10 r11 r12 hx1 hy1 hx2 hy2 hx3 hrd hga hgd hrs hcl hcx hnx hdg hcl2 ha hc0' hc1' hc1r hdg2
      go_wp2
      have hS := KA.out wr.drew _ HW.out.drew
      refine wp_region_txt (fun W => W.cell? ⟨b1 + 1, 0, none⟩ = some (.int .i64 ma) ∧ W.cell? ⟨b1 + 1, 1, none⟩ = some (.int .i64 mb) ∧ W.cell? ⟨b1 + 1, 2, none⟩ = some (.int .i64 mc) ∧ W.cell? ⟨b1 + 1, 3, none⟩ = some (.int .i64 md) ∧ W.cell? ⟨b1 + 1, 4, none⟩ = some (.int .i64 me) ∧ W.cell? ⟨b1 + 1, 5, none⟩ = some (.int .i64 mf) ∧ W.cell? ⟨b1, 0, none⟩ = some (.int .i64 GA) ∧ W.cell? ⟨b1, 1, none⟩ = some (.int .i64 GB) ∧ W.cell? ⟨b1, 2, none⟩ = some (.int .i64 GD)) none
        [(0, true), (1, true), (2, true), (3, true), (4, true), (5, true), (6, true), (7, true), (8, true), (9, false), (10, true), (11, true), (12, true), (13, true), (14, true)] (by kernel_rfl) rfl (by kernel_rfl) (by kernel_rfl) (by repeat (first | with_reducible refine PanicOk.thn ?_ | with_reducible refine PanicOk.blk ?_ | exact PanicOk.body _ _ _)) ?_
      repeat
        (refine txt_quiet ?_ hS rfl rfl (fun W hW => ?_) ?_
         rotate_left 1
         · obtain ⟨hW1, hW2, hW3, hW4, hW5, hW6, hW7, hW8, hW9⟩ := hW
           go_simp
           exact rfl
         simp only [Act.put, List.setIfInBounds_toArray, List.set_cons_zero, List.set_cons_succ])
      refine txt_op rfl rfl ?_
      refine op_call 41 #[.agg #[.int .i64 ma, .int .i64 mb, .int .i64 mc, .int .i64 md, .int .i64 me, .int .i64 mf], .int .i64 U, .int .i64 V] wr.drew (by go_simp) _ (Hmvv.out wr.drew) ?_
      rintro e1 w7 ⟨rfl, q1⟩
      have Ww7 := hid (q1.1 _ HW.out.drew)
      have Ew7 := hid ((HE.out.trans (Ext.drew _)).trans q1.2)
      refine ⟨_, rfl, fun _ => KA.out w7 _ Ww7.out, ?_⟩
      clear hS q1
      simp only [Act.put, List.setIfInBounds_toArray, List.set_cons_zero, List.set_cons_succ]
      have hS := KA.out w7 _ Ww7.out
      repeat
        (refine txt_quiet ?_ hS rfl rfl (fun W hW => ?_) ?_
         rotate_left 1
         · obtain ⟨hW1, hW2, hW3, hW4, hW5, hW6, hW7, hW8, hW9⟩ := hW
           go_simp
           exact rfl
         simp only [Act.put, List.setIfInBounds_toArray, List.set_cons_zero, List.set_cons_succ])
      refine txt_done ?_
      clear hS
      obtain ⟨c0, c1, c2, c3, c4, c5, k0, k1, k2⟩ := KA.out w7 _ Ww7.out
      go_wp2
      go_quiet (fail)
      go_simp
      generalize hwd : World.drewN _ _ = wa
      have Wwa := hid (show Has wa (blk b cur 3 + M2) by rw [← hwd]; exact Ww7.out.drewN _)
      have Ewa := hid (show Ext w wa by rw [← hwd]; exact Ew7.out.trans (Ext.drewN _ _))
      clear hwd c0 c1 c2 c3 c4 c5 k0 k1 k2
      obtain ⟨c0, c1, c2, c3, c4, c5, k0, k1, k2⟩ := KA.out wa _ Wwa.out
      go_wp2
      go_quiet (fail)
      go_simp
      generalize hwd : World.drewN _ _ = wb
      have Wwb := hid (show Has wb (blk b cur 3 + M2) by rw [← hwd]; exact Wwa.out.drewN _)
      have Ewb := hid (show Ext w wb by rw [← hwd]; exact Ewa.out.trans (Ext.drewN _ _))
      clear hwd c0 c1 c2 c3 c4 c5 k0 k1 k2
      obtain ⟨c0, c1, c2, c3, c4, c5, k0, k1, k2⟩ := KA.out wb _ Wwb.out
      go_wp2
      have hS := KA.out wb.drew _ Wwb.out.drew
      refine wp_region_txt (fun W => W.cell? ⟨b1 + 1, 0, none⟩ = some (.int .i64 ma) ∧ W.cell? ⟨b1 + 1, 1, none⟩ = some (.int .i64 mb) ∧ W.cell? ⟨b1 + 1, 2, none⟩ = some (.int .i64 mc) ∧ W.cell? ⟨b1 + 1, 3, none⟩ = some (.int .i64 md) ∧ W.cell? ⟨b1 + 1, 4, none⟩ = some (.int .i64 me) ∧ W.cell? ⟨b1 + 1, 5, none⟩ = some (.int .i64 mf) ∧ W.cell? ⟨b1, 0, none⟩ = some (.int .i64 GA) ∧ W.cell? ⟨b1, 1, none⟩ = some (.int .i64 GB) ∧ W.cell? ⟨b1, 2, none⟩ = some (.int .i64 GD)) none
        [(0, true), (1, true), (2, true), (3, true), (4, true), (5, true), (6, true), (7, true), (8, true), (9, true), (10, true), (11, false)] (by kernel_rfl) rfl (by kernel_rfl) (by kernel_rfl) (by repeat (first | with_reducible refine PanicOk.thn ?_ | with_reducible refine PanicOk.blk ?_ | exact PanicOk.body _ _ _)) ?_
      repeat
        (refine txt_quiet ?_ hS rfl rfl (fun W hW => ?_) ?_
         rotate_left 1
         · obtain ⟨hW1, hW2, hW3, hW4, hW5, hW6, hW7, hW8, hW9⟩ := hW
           go_simp
           exact rfl
         simp only [Act.put, List.setIfInBounds_toArray, List.set_cons_zero, List.set_cons_succ])
      refine txt_op rfl rfl ?_
      refine op_store_blk (.tmp 82) (.tmp 81) 3 rfl size3 b (off + a) (.int .i64 dg) rfl rfl rfl cur 3 M2 Wwb.out.drew (by have := HFl.out.1; have := Hal.out; omega) ?_
      intro w9 q1 q2
      have W9 := hid q1
      have E9 := hid ((Ewb.out.trans (Ext.drew _)).trans q2)
      refine ⟨fun _ => KA.out w9 _ W9.out, ?_⟩
      simp only [Act.put, List.setIfInBounds_toArray, List.set_cons_zero, List.set_cons_succ]
      refine txt_done ?_
      clear hS q1 q2
      go_wp2
      go_roundw
      case rel => exact ⟨i + 1, _, _, Hlt.out, by go_num, by rw [Hc1.out], Hst.out, HFl.out.set Hal.out dg, W9.out, E9.out⟩
      case measure => have := Hlt.out; simp [intOf]; omega
    · have hie : i = n := by omega
      subst hie
      clear hlt hi
      have Hmd := hid (HH.out.mvd Hτ.out HK1.out)
      have Hfk := hid HH.out.1
      have Hpw := hid (show ∀ j, valD k (fun t => f (j + t)) (i - j) ≤ 4294967296 from fun j => by
        by_cases hj : j ≤ i
        · have h1 := valD_lt (k := k) HK1.out (c := fun t => f (j + t)) (n := i - j) fun t ht => HH.out.1 (j + t) (by omega)
          have h2 := pow_small (c := i - j) HK4.out (by have := H16.out; omega)
          omega
        · rw [show i - j = 0 by omega]; simp [valD])
      go_wp2
      go_loopw [15, 16] (fun vo v wr => ∃ j : Nat, j ≤ i ∧ v = .int .i64 ((j : Int) - 1) ∧ vo = .int .i64 (valD k (fun t => f (j + t)) (i - j) : Nat) ∧ Has wr (blk b cur 3 + M2) ∧ Ext w wr) (fun _ v _ => (intOf v + 1).toNat)
      case atStart => exact ⟨i, Nat.le_refl _, by go_num, by rw [Nat.sub_self]; rfl, HW.out, HE.out⟩
      case round =>
        clear HW HE
        obtain ⟨j, hj, rfl, rfl, hW, hE⟩ := hrel
        have HW := hid hW
        have HE := hid hE
        clear hW hE
        cases j with
        | zero =>
          have Hz := hid (show valD k (fun t => f (0 + t)) (i - 0) = valD k f i by simp only [Nat.zero_add, Nat.sub_zero])
          rw [Hz.out]
          generalize valD k f i = y at *
          clear hj
          go_wp2
          go_ret
          exact ⟨y, rfl, Hmd.out, HF.out _ HW.out.right, HE.out⟩
        | succ j =>
          have f0 := HFl.out.cell HW.out (j := j) (by omega)
          have hfk := Hfk.out j (by omega)
          have hp1 := Hpw.out (j + 1)
          have hhd : valD k (fun t => f (j + t)) (i - j) = f j + k * valD k (fun t => f (j + 1 + t)) (i - (j + 1)) := by
            rw [show i - j = (i - (j + 1)) + 1 by omega, valD_head]
            simp only [Nat.add_zero]
            congr 2
            congr 1
            funext t
            rw [show j + (t + 1) = j + 1 + t by omega]
          obtain ⟨y, hy⟩ : ∃ y, y = valD k (fun t => f (j + 1 + t)) (i - (j + 1)) := ⟨_, rfl⟩
          rw [← hy] at hhd hp1 ⊢
          have Hhd := hid hhd
          obtain ⟨z, hz⟩ : ∃ z, z = k * y := ⟨_, rfl⟩
          have hz2 : KK * y = z := by rw [hz, HKK.out, Int.natCast_mul]
          have hz3 : z ≤ 17179869184 := by rw [hz]; exact Nat.le_trans (Nat.mul_le_mul HK4.out hp1) (by decide)
          rw [← hz] at Hhd
          have hkk := HK4.out
          obtain ⟨fj, hfj⟩ : ∃ fj, fj = f j := ⟨_, rfl⟩
          rw [← hfj] at f0 hfk Hhd
          have hjI : (0 : Int) ≤ ((j + 1 : Nat) : Int) - 1 := by omega
          have hjn : ((j + 1 : Nat) : Int) - 1 = (j : Int) := by omega
          have hjl : (j : Int) < i := by omega
          obtain ⟨a1, a2⟩ := wr_nat (z := z) (Nat.le_trans hz3 (by decide))
          have a5 : IntKind.i64.wrap (KK * y) = z := by rw [hz2]; exact a1
          have a6 : wrap64 (KK * y) = z := by rw [hz2]; exact a2
          have hzf : z + fj ≤ 17179869200 := Nat.le_trans (Nat.add_le_add hz3 (show fj ≤ 16 by clear hz3 hp1; omega)) (by decide)
          obtain ⟨a3, a4⟩ := wr_nat hzf
          rw [Int.natCast_add] at a3 a4
          have Hj := hid hj
          rw [hjn]
          clear hhd hp1 hy hz hz2 hz3 hzf hkk hfj hfk hjI hjn hj
          go_wp2
          go_roundw
          case rel => exact ⟨j, by have := Hj.out; omega, by go_num, by rw [Hhd.out, Nat.add_comm, Int.natCast_add], HW.out, HE.out⟩
          case measure => simp [intOf]
end Go.Proofs.YteibbnmlmbhkpaaDoor

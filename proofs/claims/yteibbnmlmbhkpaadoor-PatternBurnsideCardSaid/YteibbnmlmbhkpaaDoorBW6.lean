/-
  The walks of the number of a cell, and of cells. The walk of cells. Plain: what the walk of cycles needs. Owned flags. The walk of cycles. The walk of Colourings. The walk of Colourings, its main case.
-/
import Derived.Test.YteibbnmlmbhkpaaDoorBurn5
namespace Go.Proofs.YteibbnmlmbhkpaaDoor
open Go.RowKit
set_option linter.unusedVariables false
set_option linter.unusedSimpArgs false
set_option maxHeartbeats 2000000
set_option maxRecDepth 100000

theorem number_any {F : MS} {p : List ByteArray} {g : Gd} {gb bx : Nat} {w : World} (h : PGr F p g gb) (hx : F.at bx 0 (.pointer (some ⟨gb, 0, none⟩))) (hH : Has w F) (x y : Int) (hxs : -1000 ≤ x ∧ x ≤ 1000) (hys : -1000 ≤ y ∧ y ≤ 1000) :
    Calls Tryd.prog 78 #[.int .i64 x, .int .i64 y, .pointer (some ⟨bx, 0, none⟩)] w fun e w' => e = .returned (.int .i64 (num g x y)) ∧ Kp w w' := by
  have h6 := h.lat.a6 h.pok
  have hA := h.lat.a1
  have hD := h.lat.d1
  have Hred := hid (fun (W : World) => reduced_any g hA h6.1 hD h6.2.1 h.lat.bd x y hxs hys W)
  have hrr := red_range hA hD x y
  obtain ⟨z, hz⟩ : ∃ z : Int, z = (num g x y : Int) := ⟨_, rfl⟩
  have hz2 : z = redX g x * g.D + redY g x y := by
    rw [hz]; unfold num
    rw [Int.natCast_add, Int.natCast_mul]
    rw [show ((redX g x).toNat : Int) = redX g x by omega, show ((redY g x y).toNat : Int) = redY g x y by omega]
  rw [← hz]
  clear hz
  have f0 := hx.c0 hH
  have f1 := h.c0.c0 hH
  have f2 := h.c1.c0 hH
  have f3 := h.c2.c0 hH
  have Hf := hid (show ∀ W, Kp w W → (W.cell? ⟨bx, 0, none⟩ = some (.pointer (some ⟨gb, 0, none⟩)) ∧ W.cell? ⟨gb, 2, none⟩ = some (.int .i64 g.D)) from fun W hW => ⟨hx.c0 (hW.1 _ hH), h.c2.c0 (hW.1 _ hH)⟩)
  obtain ⟨gA, gB, gD⟩ := g
  generalize redX ⟨gA, gB, gD⟩ x = rx at *
  generalize redY ⟨gA, gB, gD⟩ x y = ry at *
  simp only at h6 hA hD hrr hz2 f1 f2 f3 Hf
  obtain ⟨md, hmd⟩ : ∃ md, md = rx * (gD : Int) := ⟨_, rfl⟩
  have hmr : 0 ≤ md ∧ md ≤ 36 := by
    have h7 : gD = 1 ∨ gD = 2 ∨ gD = 3 ∨ gD = 4 ∨ gD = 5 ∨ gD = 6 := by omega
    rw [hmd]
    rcases h7 with rfl | rfl | rfl | rfl | rfl | rfl <;> omega
  rw [← hmd] at hz2
  have u1 : IntKind.i64.wrap (rx * (gD : Int)) = md := by rw [← hmd, IntKind.wrap_i64]; omega
  have u2 : wrap64 (rx * (gD : Int)) = md := by rw [← hmd]; unfold wrap64; omega
  have u3 : IntKind.i64.wrap (md + ry) = z := by rw [hz2, IntKind.wrap_i64]; omega
  have u4 : wrap64 (md + ry) = z := by rw [hz2]; unfold wrap64; omega
  clear h hx hH hxs hys h6 hA hD hrr hz2 hmd hmr
  go_enter Tryd.func78, Tryd.ntmps78
  go_wp2_with (go_at_call 79; refine (Hred.out _).mono ?_; rintro e1 w1 ⟨rfl, k1⟩; have K1 := hid k1; obtain ⟨g0, g1⟩ := Hf.out w1 k1; clear k1)
  go_ret
  exact ⟨rfl, K1.out⟩
end Go.Proofs.YteibbnmlmbhkpaaDoor

namespace Go.Proofs.YteibbnmlmbhkpaaDoor
open Go.RowKit
set_option linter.unusedVariables false
set_option linter.unusedSimpArgs false
set_option maxHeartbeats 2000000
set_option maxRecDepth 100000

def CelR : Nat × Nat → List Value → MS → Prop := fun c cs ms => cs = [.int .i64 c.1, .int .i64 c.2] ∧ ms = 0
theorem CelR.len : ∀ a cs m, CelR a cs m → cs.length = 2 := fun a cs m h => by rw [h.1]; rfl
theorem CelR.one : ∀ a cs m, CelR a cs m → ∀ u ∈ cs, u.oneCell' = true := fun a cs m h u hu => by
  rw [h.1] at hu; simp at hu; rcases hu with rfl | rfl <;> rfl
def RT.cel : RT (Nat × Nat) := ⟨2, fun _ c cs => cs = [.int .i64 c.1, .int .i64 c.2], fun _ _ _ h => by rw [h]; rfl, fun _ _ _ _ h => h⟩
theorem row92 : RowTy Tryd.prog 92 121 (.agg #[.int .i64 0, .int .i64 0]) 2 16 := ⟨by kernel_rfl, by kernel_rfl, rfl⟩
/-- The first cells of a period. -/
def celL (D n : Nat) : List (Nat × Nat) := (List.range n).map fun i => (i / D, i % D)
theorem celL_len (D n : Nat) : (celL D n).length = n := by simp [celL]
theorem celL_succ {D x y : Nat} (hy : y < D) : celL D (x * D + (y + 1)) = celL D (x * D + y) ++ [(x, y)] := by
  unfold celL
  rw [show x * D + (y + 1) = x * D + y + 1 by omega, List.range_succ, List.map_append]
  congr 1
  show [((x * D + y) / D, (x * D + y) % D)] = _
  rw [Nat.mul_comm, Nat.mul_add_div (by omega), Nat.div_eq_of_lt hy, Nat.mul_add_mod, Nat.mod_eq_of_lt hy]
  rfl
theorem cells_any {F : MS} {p : List ByteArray} {g : Gd} {gb : Nat} {w : World} (h : PGr F p g gb) (hH : Has w F) :
    Calls Tryd.prog 55 #[.pointer (some ⟨gb, 0, none⟩)] w fun e w' => ∃ bx A c X, e = .returned (.tuple #[.slice A (g.A * g.D : Nat) c, .func (.func 78) #[] #[.pointer (some ⟨bx, 0, none⟩)]]) ∧ Kp w w' ∧ Has w' X ∧ X.at bx 0 (.pointer (some ⟨gb, 0, none⟩)) ∧ RdS X RT.cel (celL g.D (g.A * g.D)) (.slice A (g.A * g.D) c) := by
  have h6 := h.lat.a6 h.pok
  have hA := h.lat.a1
  have hD := h.lat.d1
  obtain ⟨bx, hbx⟩ : ∃ bx, bx = w.heap.size := ⟨_, rfl⟩
  obtain ⟨W1, hW1⟩ : ∃ W1, W1 = w.alloc (.cells #[.pointer (some ⟨gb, 0, none⟩)] 70) := ⟨_, rfl⟩
  have HA := hid (show Has W1 (blk bx #[.pointer (some ⟨gb, 0, none⟩)] 70 + MS.all w) by rw [hW1, hbx]; exact (Has.all w).alloc _)
  have HE := hid (show Ext w W1 by rw [hW1]; exact Ext.alloc w _)
  have Hat := hid (show (blk bx #[.pointer (some ⟨gb, 0, none⟩)] 70 + MS.all w).at bx 0 (.pointer (some ⟨gb, 0, none⟩)) from (blk_at (cs := #[.pointer (some ⟨gb, 0, none⟩)]) (e := 70) (i := 0) rfl).less (MS.all w))
  have HK := hid (show ∀ W Y, Has W (Y + (blk bx #[.pointer (some ⟨gb, 0, none⟩)] 70 + MS.all w)) → Ext W1 W → Kp w W from fun W Y hW hE => ⟨fun M hM => hM.of_all (X := Y + blk bx #[.pointer (some ⟨gb, 0, none⟩)] 70) (hW.eq (by ac_rfl)), HE.out.trans hE⟩)
  have Hf := hid (show ∀ W Y, Has W (Y + (blk bx #[.pointer (some ⟨gb, 0, none⟩)] 70 + MS.all w)) → (W.cell? ⟨bx, 0, none⟩ = some (.pointer (some ⟨gb, 0, none⟩)) ∧ W.cell? ⟨gb, 0, none⟩ = some (.int .i64 g.A) ∧ W.cell? ⟨gb, 2, none⟩ = some (.int .i64 g.D)) from fun W Y hW => by
    have hF : Has W F := hH.of_all (X := Y + blk bx #[.pointer (some ⟨gb, 0, none⟩)] 70) (hW.eq (by ac_rfl))
    exact ⟨Hat.out.c0 hW.right, h.c0.c0 hF, h.c2.c0 hF⟩)
  generalize blk bx #[.pointer (some ⟨gb, 0, none⟩)] 70 + MS.all w = G at *
  obtain ⟨gA, gB, gD⟩ := g
  simp only at h6 hA hD Hf ⊢
  have hA6 : (gA : Int) ≤ 6 := by omega
  have hD6 : (gD : Int) ≤ 6 := by omega
  have H6 := hid h6
  obtain ⟨f0, f1, f2⟩ := Hf.out W1 0 (HA.out.eq (by rw [MS.zero_add]))
  clear h hH h6 hA hD HE
  rw [hW1] at f0 f1 f2
  go_enter Tryd.func55, Tryd.ntmps55
  rw [hbx] at f0
  go_wp2
  rw [← hW1, ← hbx]
  clear f0 f1 f2 hW1 hbx
  go_loopw [4, 12] (fun vo v wr => ∃ x : Nat, ∃ B dd ms, x ≤ gA ∧ v = .int .i64 x ∧ vo = .slice B (x * gD : Nat) dd ∧ SlR 121 2 CelR (celL gD (x * gD)) (.slice B (x * gD) dd) ms ∧ Has wr (ms + G) ∧ Ext W1 wr) (fun _ v _ => gA - (intOf v).toNat)
  case atStart => exact ⟨0, none, 0, 0, Nat.zero_le _, rfl, by rw [Nat.zero_mul], by rw [Nat.zero_mul]; exact ⟨[], 0, 0, Sl.nil _ _, RowsR.nil, by rw [MS.zero_add]⟩, HA.out.eq (by rw [MS.zero_add]), Ext.refl _⟩
  case round =>
    obtain ⟨x, B, dd, ms, hx, rfl, rfl, hS, hW, hE⟩ := hrel
    have HS := hid hS
    have HW := hid hW
    have HE := hid hE
    clear hS hW hE HA
    obtain ⟨f0, f1, f2⟩ := Hf.out wr ms HW.out
    by_cases hlt : x < gA
    · have hltI : (x : Int) < gA := by omega
      have Hlt := hid hlt
      clear hlt hx
      obtain ⟨xd, hxd⟩ : ∃ xd, xd = x * gD := ⟨_, rfl⟩
      rw [← hxd] at HS ⊢
      have Hxd := hid hxd
      clear hxd
      go_wp2
      clear f0 f1 f2
      go_loopw [4, 20] (fun vo v wr => ∃ y : Nat, ∃ B dd ms, y ≤ gD ∧ v = .int .i64 y ∧ vo = .slice B (xd + y : Nat) dd ∧ SlR 121 2 CelR (celL gD (xd + y)) (.slice B (xd + y) dd) ms ∧ Has wr (ms + G) ∧ Ext W1 wr) (fun _ v _ => gD - (intOf v).toNat)
      case atStart => exact ⟨0, B, dd, ms, Nat.zero_le _, rfl, rfl, HS.out, HW.out, HE.out⟩
      case round =>
        clear HS HW HE
        obtain ⟨y, B2, d2, m2, hy, rfl, rfl, hS, hW, hE⟩ := hrel
        have HS := hid hS
        have HW := hid hW
        have HE := hid hE
        clear hS hW hE
        by_cases hly : y < gD
        · have hlyI : (y : Int) < gD := by omega
          have Hly := hid hly
          obtain ⟨n, hn⟩ : ∃ n, n = xd + y := ⟨_, rfl⟩
          rw [← hn] at HS ⊢
          have Hn6 := hid (show n ≤ 100 by
            have h1 := H6.out
            have h2 := Hlt.out
            have h3 : x * gD ≤ 6 * 6 := Nat.mul_le_mul (by omega) (by omega)
            have h4 := Hxd.out
            omega)
          have Hsu := hid (show celL gD (xd + (y + 1)) = celL gD n ++ [(x, y)] by rw [Hxd.out, celL_succ hly, hn, Hxd.out])
          have Hn := hid hn
          clear hly hy hn
          go_wp2_with (at_builtin; refine wpList_push rfl (.tmp 23) (.tmp 27) row92 rfl (.slice B2 n d2) rfl _ rfl (by simp) CelR CelR.one CelR.len (celL gD n) (x, y) m2 0 _ HS.out ⟨rfl, rfl⟩ ((HW.out).eq (by rw [MS.zero_add])) n (celL_len _ _) (by have := Hn6.out; omega) (by omega) ?_; intro A8 c8 w8 m8 j4 j5 j6; have J4 := hid j4; have J5 := hid j5; have J6 := hid (HE.out.trans j6); clear j4 j5 j6)
          go_roundw
          case rel => exact ⟨y + 1, A8, c8, m8, Hly.out, by go_num, by rw [Hn.out]; rfl, by rw [Hsu.out, show xd + (y + 1) = n + 1 by have := Hn.out; omega]; exact J4.out, J5.out, J6.out⟩
          case measure => have := Hly.out; simp [intOf]; omega
        · have hye : y = gD := by omega
          subst hye
          clear hly hy
          go_wp2
          go_roundw
          case rel => exact ⟨x + 1, B2, d2, m2, Hlt.out, by go_num, by rw [Hxd.out, Nat.succ_mul], by rw [Nat.succ_mul, ← Hxd.out]; exact HS.out, HW.out, HE.out⟩
          case measure => have := Hlt.out; simp [intOf]; omega
    · have hxe : x = gA := by omega
      subst hxe
      clear hlt hx
      go_wp2
      go_ret2
      refine ⟨bx, B, dd, ms + G, rfl, HK.out _ _ HW.out HE.out, HW.out, Hat.out.more ms, ?_⟩
      have h1 := SlR.rd (R := CelR) (T := RT.cel) (fun a cs m h => h.1) HS.out
      exact h1.less _
end Go.Proofs.YteibbnmlmbhkpaaDoor

namespace Go.Proofs.YteibbnmlmbhkpaaDoor
set_option linter.unusedVariables false

/-- The cells that are marked: the cycles of all cells ahead of i, and the first t cells of that of i. -/
def Seen (σ : Nat → Nat) (i t : Nat) (f : Nat → Bool) (n : Nat) : Prop := ∀ j, j < n → (f j = true ↔ (∃ i', i' < i ∧ Cyc σ i' j) ∨ ∃ s, s < t ∧ iterN σ s i = j)
theorem Seen.none (σ : Nat → Nat) (n : Nat) : Seen σ 0 0 (fun _ => false) n := fun j _ => by
  constructor
  · intro h; cases h
  · rintro (⟨i', h, _⟩ | ⟨s, h, _⟩) <;> omega
theorem Seen.mark {σ : Nat → Nat} {i t : Nat} {f : Nat → Bool} {n : Nat} (h : Seen σ i t f n) : Seen σ i (t + 1) (fun j => if j = iterN σ t i then true else f j) n := fun j hj => by
  constructor
  · intro hf
    by_cases hc : j = iterN σ t i
    · exact .inr ⟨t, Nat.lt_succ_self t, hc.symm⟩
    · simp only [hc, if_false] at hf
      rcases (h j hj).1 hf with h1 | ⟨s, h1, h2⟩
      · exact .inl h1
      · exact .inr ⟨s, by omega, h2⟩
  · intro hd
    show (if j = iterN σ t i then true else f j) = true
    by_cases hc : j = iterN σ t i
    · rw [if_pos hc]
    · rw [if_neg hc]
      rcases hd with h1 | ⟨s, h1, h2⟩
      · exact (h j hj).2 (.inl h1)
      · refine (h j hj).2 (.inr ⟨s, ?_, h2⟩)
        have : s ≠ t := fun e => hc (by rw [← h2, e])
        omega
/-- A cell is marked when its turn comes just if it is not the least of its cycle. -/
theorem Seen.turn {σ τ : Nat → Nat} {n : Nat} {r : Nat → Nat} {i : Nat} {f : Nat → Bool} (h : Seen σ i 0 f n) (hp : Perm σ τ n) (hr : Leasts σ n r) (hi : i < n) : f i = !(r i == i) := by
  have h1 : f i = true ↔ r i ≠ i := by
    rw [h i hi]
    constructor
    · rintro (⟨i', h2, h3⟩ | ⟨s, h2, _⟩)
      · have := hr.le i hi i' (hp.cyc_symm (by omega) h3); omega
      · omega
    · intro hne
      have h2 := hr.self hi
      exact .inl ⟨r i, by omega, hp.cyc_symm hi (hr.cyc i hi)⟩
  cases hf : f i with
  | true => have := h1.1 hf; simp [this]
  | false =>
    have : ¬ r i ≠ i := fun hc => by rw [h1.2 hc] at hf; cases hf
    have : r i = i := Classical.byContradiction this
    simp [this]
/-- A cell that was marked already changes nothing. -/
theorem Seen.skip {σ τ : Nat → Nat} {n : Nat} {i : Nat} {f : Nat → Bool} (h : Seen σ i 0 f n) (hp : Perm σ τ n) (hi : i < n) (hf : f i = true) : Seen σ (i + 1) 0 f n := fun j hj => by
  have hq : ∃ i', i' < i ∧ Cyc σ i' i := by
    rcases (h i hi).1 hf with h1 | ⟨s, h1, _⟩
    · exact h1
    · omega
  rw [h j hj]
  constructor
  · rintro (⟨i', h1, h2⟩ | ⟨s, h1, _⟩)
    · exact .inl ⟨i', by omega, h2⟩
    · omega
  · rintro (⟨i', h1, h2⟩ | ⟨s, h1, _⟩)
    · by_cases hc : i' = i
      · obtain ⟨i0, h3, h4⟩ := hq
        exact .inl ⟨i0, h3, h4.trans (by rw [← hc]; exact h2)⟩
      · exact .inl ⟨i', by omega, h2⟩
    · omega
/-- One who goes round comes back to where he began. -/
theorem Seen.round {σ τ : Nat → Nat} {n : Nat} {i t : Nat} {f : Nat → Bool} (h : Seen σ i t f n) (hp : Perm σ τ n) (hi : i < n) (hno : ¬ ∃ i', i' < i ∧ Cyc σ i' i) (hf : f (iterN σ t i) = true) : Seen σ (i + 1) 0 f n := by
  have hs : ∃ s, s < t ∧ iterN σ s i = iterN σ t i := by
    rcases (h _ (hp.iter_lt hi t)).1 hf with ⟨i', h1, h2⟩ | h1
    · exact absurd ⟨i', h1, h2.trans (hp.cyc_symm hi ⟨t, rfl⟩)⟩ hno
    · exact h1
  obtain ⟨s, hst, he⟩ := hs
  have hb : iterN σ (t - s) i = i := hp.iter_inj hi s (t - s) (by rw [show s + (t - s) = t by omega]; exact he.symm)
  obtain ⟨q, hq⟩ : ∃ q, q = t - s := ⟨_, rfl⟩
  rw [← hq] at hb
  have hm : ∀ c, iterN σ (c * q) i = i := fun c => by
    induction c with
    | zero => rw [Nat.zero_mul]; rfl
    | succ c ih => rw [Nat.succ_mul, iterN_add, hb, ih]
  intro j hj
  rw [h j hj]
  constructor
  · rintro (⟨i', h1, h2⟩ | ⟨u, h1, h2⟩)
    · exact .inl ⟨i', by omega, h2⟩
    · exact .inl ⟨i, by omega, ⟨u, h2⟩⟩
  · rintro (⟨i', h1, h2⟩ | ⟨u, h1, _⟩)
    · by_cases hc : i' = i
      · obtain ⟨u, h3⟩ := h2
        rw [hc] at h3
        refine .inr ⟨u % q, Nat.lt_of_lt_of_le (Nat.mod_lt _ (by omega)) (by omega), ?_⟩
        rw [← h3]
        have h4 := Nat.mod_add_div u q
        rw [Nat.mul_comm] at h4
        calc iterN σ (u % q) i = iterN σ (u % q) (iterN σ (u / q * q) i) := by rw [hm]
          _ = iterN σ (u % q + u / q * q) i := (iterN_add σ _ i _).symm
          _ = iterN σ u i := by rw [h4]
      · exact .inl ⟨i', by omega, h2⟩
    · omega
/-- There are no more steps than cells. -/
theorem Seen.few {σ τ : Nat → Nat} {n : Nat} {i t : Nat} (hp : Perm σ τ n) (hi : i < n) (hd : ∀ a b, a < b → b < t → iterN σ a i ≠ iterN σ b i) : t ≤ n := by
  have h1 : ((List.range t).map fun t => iterN σ t i).Nodup := map_nodup List.nodup_range fun x hx y hy he => by
    rw [List.mem_range] at hx hy
    rcases Nat.lt_trichotomy x y with hl | hl | hl
    · exact absurd he (hd x y hl hy)
    · exact hl
    · exact absurd he.symm (hd y x hl hx)
  have h2 := List.Nodup.length_le_of_subset (l₂ := List.range n) h1 fun y hy => by
    obtain ⟨t, _, rfl⟩ := List.mem_map.1 hy
    exact List.mem_range.2 (hp.iter_lt hi t)
  simpa using h2
theorem Seen.fresh {σ τ : Nat → Nat} {n : Nat} {i t : Nat} {f : Nat → Bool} (h : Seen σ i t f n) (hp : Perm σ τ n) (hi : i < n) (hf : f (iterN σ t i) = false) (hd : ∀ a b, a < b → b < t → iterN σ a i ≠ iterN σ b i) : ∀ a b, a < b → b < t + 1 → iterN σ a i ≠ iterN σ b i := fun a b hab hb he => by
  by_cases hc : b = t
  · rw [hc] at he
    have := (h _ (hp.iter_lt hi t)).2 (.inr ⟨a, by omega, he⟩)
    rw [hf] at this; cases this
  · exact hd a b hab (by omega) he
end Go.Proofs.YteibbnmlmbhkpaaDoor

namespace Go.Proofs.YteibbnmlmbhkpaaDoor
open Go.RowKit
set_option linter.unusedVariables false
set_option linter.unusedSimpArgs false
set_option maxRecDepth 100000

/-- Cells of an array that hold flags. -/
def FlgA (off n : Nat) (f : Nat → Bool) (cur : Array Value) : Prop := off + n ≤ cur.size ∧ ∀ j, j < n → cur[off + j]? = some (.bool (f j))
theorem FlgA.set {off n : Nat} {f : Nat → Bool} {cur : Array Value} (h : FlgA off n f cur) {a : Nat} (ha : a < n) : FlgA off n (fun j => if j = a then true else f j) (cur.setIfInBounds (off + a) (.bool true)) := by
  refine ⟨by rw [Array.size_setIfInBounds]; exact h.1, fun j hj => ?_⟩
  by_cases hc : j = a
  · rw [hc, Array.getElem?_setIfInBounds_self_of_lt (by have := h.1; omega)]; simp
  · rw [Array.getElem?_setIfInBounds_ne (by omega), h.2 j hj]; simp [hc]
theorem flags_made {n : Nat} {v : Value} {m : MS} (hn : 1 ≤ n) (h : Sl 4 1 v n (madeCells (Value.bool false).cells (n * 1)).toList m) : ∃ b off c cur, v = .slice (some ⟨b, off, none⟩) n c ∧ m = blk b cur 4 ∧ n ≤ c ∧ c ≤ maxLen ∧ FlgA off n (fun _ => false) cur := by
  obtain ⟨h0, h1⟩ := h
  rcases h1 with ⟨_, h2, _⟩ | ⟨b, off, c, cur, h2, h3, h4, h5, h6, h7⟩
  · omega
  · refine ⟨b, off, c, cur, h2, h3, h4, h5, by omega, fun j hj => ?_⟩
    rw [h7 j (by omega)]
    have e : (madeCells (Value.bool false).cells (n * 1)).toList = List.replicate n (.bool false) := by
      rw [Nat.mul_one]; exact toList_madeCells_one (.bool false) n
    rw [e, List.getElem?_replicate, if_pos hj]
theorem FlgA.cell {W : World} {F : MS} {b off n : Nat} {f : Nat → Bool} {cur : Array Value} (h : FlgA off n f cur) (hW : Has W (blk b cur 4 + F)) {j : Nat} (hj : j < n) : W.cell? ⟨b, off + j, none⟩ = some (.bool (f j)) := hW.at_ (h.2 j hj)
def isT : Option Value → Bool
  | some (.bool q) => q
  | _ => false
/-- The flags that are up can be counted in the world. -/
theorem flags_count (b off n : Nat) (M : MS) : ∃ cnt : World → Nat, ∀ W f cur, FlgA off n f cur → Has W (blk b cur 4 + M) → cnt W = (List.range n).countP f :=
  ⟨fun W => (List.range n).countP fun j => isT (W.cell? ⟨b, off + j, none⟩), fun W f cur hf hW => by
    apply List.countP_congr
    intro j hj
    rw [List.mem_range] at hj
    rw [hf.cell hW hj]
    exact Iff.rfl⟩
theorem count_mark {n a : Nat} {f : Nat → Bool} (ha : a < n) (hf : f a = false) : (List.range n).countP (fun j => if j = a then true else f j) = (List.range n).countP f + 1 := by
  have key : ∀ n, (List.range n).countP (fun j => if j = a then true else f j) = (List.range n).countP f + if a < n then 1 else 0 := fun n => by
    induction n with
    | zero => simp
    | succ n ih =>
      rw [List.range_succ, List.countP_append, List.countP_append, ih]
      by_cases hc : n = a
      · subst hc
        rw [if_neg (by omega), if_pos (by omega)]
        simp [List.countP_cons, hf]
      · by_cases hlt : a < n
        · rw [if_pos hlt, if_pos (by omega)]
          simp [List.countP_cons, hc]; omega
        · rw [if_neg hlt, if_neg (by omega)]
          simp [List.countP_cons, hc]
  rw [key n, if_pos ha]
theorem info4 : (Tryd.prog.info? 4).map (fun i => (i.zero, i.size, i.bytes)) = some (some (.bool false), 1, 1) := by kernel_rfl
theorem und119 : Tryd.prog.underlying 119 = some (.slice 4) := by kernel_rfl
/-- Where a symmetry takes a cell. -/
theorem sig_to {p : List ByteArray} {g : Gd} (hp : PatOk p) (h : IsLat p g) {m : Mv} (hm : m ∈ symL p g) {i : Nat} (hi : i < g.A * g.D) :
    sig g (kd m) m.e m.f i = num g (m.toX ((i / g.D : Nat) : Int) ((i % g.D : Nat) : Int)) (m.toY ((i / g.D : Nat) : Int) ((i % g.D : Nat) : Int)) ∧ (-1000 ≤ m.toX ((i / g.D : Nat) : Int) ((i % g.D : Nat) : Int) ∧ m.toX ((i / g.D : Nat) : Int) ((i % g.D : Nat) : Int) ≤ 1000) ∧ (-1000 ≤ m.toY ((i / g.D : Nat) : Int) ((i % g.D : Nat) : Int) ∧ m.toY ((i / g.D : Nat) : Int) ((i % g.D : Nat) : Int) ≤ 1000) := by
  obtain ⟨k, e, f, hk, he, hf, rfl, hs⟩ := (mem_symL hp h _).1 hm
  have h6 := h.a6 hp
  have hD := h.d1
  have h1 : i / g.D < g.A := by rw [Nat.div_lt_iff_lt_mul (by omega)]; exact hi
  have h2 : i % g.D < g.D := Nat.mod_lt _ (by omega)
  unfold sig
  rw [kd_knd hk]
  generalize i / g.D = u at *
  generalize i % g.D = v at *
  rw [knd_toX hk _ _ _ _ (by omega) (by omega) (by omega), knd_toY hk _ _ _ _ (by omega) (by omega) (by omega)]
  have hl := lXY_small (k := k) (e := (u : Int)) (f := (v : Int)) (by omega) (by omega)
  refine ⟨rfl, ?_, ?_⟩ <;> omega
end Go.Proofs.YteibbnmlmbhkpaaDoor

namespace Go.Proofs.YteibbnmlmbhkpaaDoor
open Go.RowKit
set_option linter.unusedVariables false
set_option linter.unusedSimpArgs false
set_option maxHeartbeats 4000000
set_option maxRecDepth 100000

theorem cycles_any {F : MS} {p : List ByteArray} {g : Gd} {gb : Nat} {w : World} (h : PGr F p g gb) (hH : Has w F) {m : Mv} (hm : m ∈ symL p g) :
    Calls Tryd.prog 40 #[.pointer (some ⟨gb, 0, none⟩), m.v] w fun e w' => ∃ c : Nat, e = .returned (.int .i64 c) ∧ CycN g m c ∧ Kp w w' := by
  have hp := h.pok
  have hl := h.lat
  have h6 := hl.a6 hp
  have hA := hl.a1
  have hD := hl.d1
  obtain ⟨r, hr⟩ := Leasts.ex (sig g (kd m) m.e m.f) (g.A * g.D)
  have hkm : kd m < 8 ∧ Sy p (kd m) m.e m.f := by
    obtain ⟨k', e, f, hk', _, _, rfl, hs⟩ := (mem_symL hp hl m).1 hm
    rw [kd_knd hk']
    exact ⟨hk', hs⟩
  obtain ⟨τ, hτ⟩ := sig_perm hp hl hkm.1 hkm.2
  have Hto := hid (fun (i : Nat) (hi : i < g.A * g.D) => sig_to hp hl hm hi)
  have HC := hid (show ∀ c, c = (List.range (g.A * g.D)).countP (fun i => r i == i) → CycN g m c from fun c hc => ⟨r, hr, hc⟩)
  have Hce := hid (fun (W : World) (hW : Has W F) => cells_any h hW)
  have hn36 : g.A * g.D ≤ 6 * 6 := Nat.mul_le_mul h6.1 h6.2.1
  have hn1 : 1 ≤ g.A * g.D := Nat.mul_pos (by omega) (by omega)
  obtain ⟨σ, hσ⟩ : ∃ σ, σ = sig g (kd m) m.e m.f := ⟨_, rfl⟩
  obtain ⟨n, hn⟩ : ∃ n, n = g.A * g.D := ⟨_, rfl⟩
  rw [← hσ] at hr hτ Hto
  rw [← hn] at hr hτ Hto HC Hce hn36 hn1
  have Hr := hid hr
  have Hτ := hid hτ
  have Hmv := hid (fun (x y : Int) (W : World) => to_any m x y W)
  obtain ⟨ma, mb, mc, md, me, mf⟩ := m
  obtain ⟨bm, hbm⟩ : ∃ bm, bm = w.heap.size := ⟨_, rfl⟩
  obtain ⟨W1, hW1⟩ : ∃ W1, W1 = w.alloc (.cells #[.int .i64 ma, .int .i64 mb, .int .i64 mc, .int .i64 md, .int .i64 me, .int .i64 mf] 41) := ⟨_, rfl⟩
  have HB := hid (show Has W1 (blk bm #[.int .i64 ma, .int .i64 mb, .int .i64 mc, .int .i64 md, .int .i64 me, .int .i64 mf] 41 + MS.all w) by rw [hW1, hbm]; exact (Has.all w).alloc _)
  have HE := hid (show Ext w W1 by rw [hW1]; exact Ext.alloc w _)
  have HF1 := hid (hH.of_all HB.out)
  have H := hid h
  have HK1 := hid (show Kp w W1 from ⟨fun M hM => hM.of_all HB.out, HE.out⟩)
  have hnI : (n : Int) ≤ 36 := by omega
  clear hp hl h6 hA hD hr hkm hτ hσ hn h hH hm
  show Calls Tryd.prog 40 #[.pointer (some ⟨gb, 0, none⟩), .agg #[.int .i64 ma, .int .i64 mb, .int .i64 mc, .int .i64 md, .int .i64 me, .int .i64 mf]] w _
  go_enter Tryd.func40, Tryd.ntmps40
  go_wp2_with (first
    | (go_at_call 55; rw [← hW1, ← hbm]; clear hW1 hbm; refine (Hce.out W1 HF1.out).mono ?_; rintro e2 w2 ⟨bx, A, c, X, rfl, k2, hX, hx, hr⟩; have HM := hid (H.out.all' (k2.1 _ HF1.out)); have HX := hid (at_all hx hX); have Hcl := hid (rd_all (F := X) (T := RT.cel) (fun _ _ h => h) hr hX); have K2 := hid (HK1.out.trans k2); have B2 := hid (k2.1 _ HB.out); clear k2 hX hx hr)
    | (refine wpList_make_sl rfl (.tmp 17) (.tmp 17) 119 rfl 4 _ 1 1 und119 info4 .i64 .i64 n rfl rfl (by omega) (by simp only [maxLen]; omega) (MS.all w2) (Has.all w2) ?_; intro v' w3 m3 j1 j2 j3 _; obtain ⟨b, off, c3, cur, rfl, rfl, hc1, hc2, hfl⟩ := flags_made (by omega) j1; have HFl := hid hfl; have J3 := hid j2; have E3 := hid j3; clear j1 j2 j3 hfl))
  have HKp := hid (show ∀ W Y, Has W (Y + MS.all w2) → Ext w2 W → Kp w W from fun W Y hW hE => K2.out.trans ⟨fun M hM => hM.of_all hW, hE⟩)
  have Hmc := hid (show ∀ W Y, Has W (Y + MS.all w2) → (W.cell? ⟨bm, 0, none⟩ = some (.int .i64 ma) ∧ W.cell? ⟨bm, 1, none⟩ = some (.int .i64 mb) ∧ W.cell? ⟨bm, 2, none⟩ = some (.int .i64 mc) ∧ W.cell? ⟨bm, 3, none⟩ = some (.int .i64 md) ∧ W.cell? ⟨bm, 4, none⟩ = some (.int .i64 me) ∧ W.cell? ⟨bm, 5, none⟩ = some (.int .i64 mf)) from fun W Y hW => by
    have hb := B2.out.of_all hW
    exact ⟨hb.at_ rfl, hb.at_ rfl, hb.at_ rfl, hb.at_ rfl, hb.at_ rfl, hb.at_ rfl⟩)
  have Hnum := hid (fun (W : World) (Y : MS) (hW : Has W (Y + MS.all w2)) (x y : Int) (hx : -1000 ≤ x ∧ x ≤ 1000) (hy : -1000 ≤ y ∧ y ≤ 1000) => number_any HM.out HX.out hW.right x y hx hy)
  clear HM HX K2 B2 HB HE HF1 Hce H HK1
  generalize MS.all w2 = M2 at *
  go_loopw [8, 21] (fun vc v wr => ∃ i : Nat, ∃ cur f, i ≤ n ∧ v = .int .i64 i ∧ vc = .int .i64 ((List.range i).countP (fun i => r i == i) : Nat) ∧ Seen σ i 0 f n ∧ FlgA off n f cur ∧ Has wr (blk b cur 4 + M2) ∧ Ext w2 wr) (fun _ v _ => n - (intOf v).toNat)
  case atStart => exact ⟨0, cur, _, Nat.zero_le _, rfl, rfl, Seen.none σ n, HFl.out, J3.out, E3.out⟩
  case round =>
    obtain ⟨i, cur, f, hi, rfl, rfl, hsn, hfl, hW, hE⟩ := hrel
    have HS := hid hsn
    have HFl := hid hfl
    have HW := hid hW
    have HE := hid hE
    clear hsn hfl hW hE
    by_cases hlt : i < n
    · have hltI : (i : Int) < n := by omega
      have Hlt := hid hlt
      have f0 := HFl.out.cell HW.out hlt
      have hturn := HS.out.turn Hτ.out Hr.out hlt
      have Hcs := hid (show (List.range (i + 1)).countP (fun i => r i == i) = (List.range i).countP (fun i => r i == i) + if (r i == i) = true then 1 else 0 by rw [List.range_succ, List.countP_append]; simp [List.countP_cons])
      have hcn : (List.range i).countP (fun i => r i == i) ≤ 36 := by have := List.countP_le_length (p := fun i => r i == i) (l := List.range i); rw [List.length_range] at this; omega
      generalize (List.range i).countP (fun i => r i == i) = cn at *
      have hcnI : (cn : Int) ≤ 36 := by omega
      clear hlt hi
      cases hfi : f i with
      | true =>
        rw [hfi] at f0 hturn
        have Hfi := hid hfi
        have hri : (r i == i) = false := by
          cases hc : (r i == i) with
          | false => rfl
          | true => rw [hc] at hturn; cases hturn
        rw [hri] at Hcs
        clear hfi hturn hri
        go_wp2
        go_roundw
        case rel => exact ⟨i + 1, cur, f, Hlt.out, by go_num, by rw [Hcs.out]; rfl, HS.out.skip Hτ.out Hlt.out Hfi.out, HFl.out, HW.out, HE.out⟩
        case measure => have := Hlt.out; simp [intOf]; omega
      | false =>
        rw [hfi] at f0 hturn
        have hri : (r i == i) = true := by
          cases hc : (r i == i) with
          | true => rfl
          | false => rw [hc] at hturn; cases hturn
        rw [hri] at Hcs
        have Hno := hid (show ¬ ∃ i', i' < i ∧ Cyc σ i' i from fun hc => by
          have := (HS.out i Hlt.out).2 (.inl hc); rw [hfi] at this; cases this)
        clear hfi hturn hri
        obtain ⟨cnt, hcnt⟩ := flags_count b off n M2
        have Hcnt := hid hcnt
        clear hcnt
        go_wp2
        go_loopw [10] (fun v wr => ∃ t : Nat, ∃ cur f, v = .int .i64 (iterN σ t i : Nat) ∧ Seen σ i t f n ∧ (∀ a b, a < b → b < t → iterN σ a i ≠ iterN σ b i) ∧ FlgA off n f cur ∧ Has wr (blk b cur 4 + M2) ∧ Ext w2 wr) (fun _ wr => n - cnt wr)
        case atStart => exact ⟨0, cur, f, rfl, HS.out, fun a b h1 h2 => by omega, HFl.out, HW.out, HE.out⟩
        case round =>
          clear HS HFl HW HE f0
          obtain ⟨t, cur, f, rfl, hsn, hdi, hfl, hW, hE⟩ := hrel
          have HS := hid hsn
          have Hdi := hid hdi
          have HFl := hid hfl
          have HW := hid hW
          have HE := hid hE
          clear hsn hfl hW hE hdi
          have hat : iterN σ t i < n := Hτ.out.iter_lt Hlt.out t
          have Hat := hid hat
          have Hit := hid (show iterN σ (t + 1) i = σ (iterN σ t i) from rfl)
          have HSm := hid HS.out.mark
          have HSr := hid (fun hf => HS.out.round Hτ.out Hlt.out Hno.out hf)
          have HSf := hid (fun hf => HS.out.fresh Hτ.out Hlt.out hf Hdi.out)
          generalize iterN σ t i = a at *
          have haI : (a : Int) < n := by omega
          have f0 := HFl.out.cell HW.out hat
          clear hat
          cases hfa : f a with
          | true =>
            rw [hfa] at f0
            have Hr2 := hid (HSr.out hfa)
            clear hfa
            go_wp2
            go_roundw
            case rel => exact ⟨i + 1, cur, f, Hlt.out, by go_num, by rw [Hcs.out]; go_num, Hr2.out, HFl.out, HW.out, HE.out⟩
            case measure => have := Hlt.out; simp [intOf]; omega
          | false =>
            rw [hfa] at f0
            have Hfa := hid hfa
            have Hdn := hid (HSf.out hfa)
            clear hfa
            have hcel : (celL g.D n)[a]? = some (a / g.D, a % g.D) := by
              unfold celL
              rw [List.getElem?_map, List.getElem?_range Hat.out]; rfl
            obtain ⟨bA, oA, cs, hA', hcs', hcat⟩ := Hcl.out.get hcel (by decide)
            obtain rfl : cs = [.int .i64 (a / g.D : Nat), .int .i64 (a % g.D : Nat)] := hcs'
            subst hA'
            have hto := Hto.out a Hat.out
            obtain ⟨u, hu⟩ : ∃ u : Int, u = ((a / g.D : Nat) : Int) := ⟨_, rfl⟩
            obtain ⟨v, hv⟩ : ∃ v : Int, v = ((a % g.D : Nat) : Int) := ⟨_, rfl⟩
            rw [← hu, ← hv] at hto hcat
            have Hmvv := hid (fun W => show Calls Tryd.prog 42 #[.agg #[.int .i64 ma, .int .i64 mb, .int .i64 mc, .int .i64 md, .int .i64 me, .int .i64 mf], .int .i64 u, .int .i64 v] W fun e w' => e = .returned (.tuple #[.int .i64 ((⟨ma, mb, mc, md, me, mf⟩ : Mv).toX u v), .int .i64 ((⟨ma, mb, mc, md, me, mf⟩ : Mv).toY u v)]) ∧ Kp W w' from Hmv.out u v W)
            have KA := hid (show ∀ W cur', Has W (blk b cur' 4 + M2) → (W.cell? ⟨bm, 0, none⟩ = some (.int .i64 ma) ∧ W.cell? ⟨bm, 1, none⟩ = some (.int .i64 mb) ∧ W.cell? ⟨bm, 2, none⟩ = some (.int .i64 mc) ∧ W.cell? ⟨bm, 3, none⟩ = some (.int .i64 md) ∧ W.cell? ⟨bm, 4, none⟩ = some (.int .i64 me) ∧ W.cell? ⟨bm, 5, none⟩ = some (.int .i64 mf) ∧ W.cell? ⟨bA, oA + a * 2, none⟩ = some (.int .i64 u) ∧ W.cell? ⟨bA, oA + a * 2 + 1, none⟩ = some (.int .i64 v)) from fun W cur' hW => by
              obtain ⟨c0, c1, c2, c3, c4, c5⟩ := Hmc.out W _ hW
              refine ⟨c0, c1, c2, c3, c4, c5, ?_, ?_⟩
              · exact (hcat 0 _ rfl).c0 hW.right
              · exact (hcat 1 _ rfl).c0 hW.right)
            have Hnx := hid hto
            clear hcel hcat hto hu hv
            generalize (⟨ma, mb, mc, md, me, mf⟩ : Mv).toX u v = tx at *
            generalize (⟨ma, mb, mc, md, me, mf⟩ : Mv).toY u v = ty at *
            go_wp2_with (refine wpList_store_blk rfl (.tmp 54) (.const (.bool true)) 4 rfl size4 b (off + a) (.bool true) rfl rfl rfl cur 4 M2 HW.out (by have := HFl.out.1; have := Hat.out; omega) ?_; intro w6 k1 k2; have J6 := hid k1; have E6 := hid (HE.out.trans k2); clear k1 k2)
            have hS := KA.out w6.drew _ J6.out.drew
            refine wp_region_txt (fun W => W.cell? ⟨bm, 0, none⟩ = some (.int .i64 ma) ∧ W.cell? ⟨bm, 1, none⟩ = some (.int .i64 mb) ∧ W.cell? ⟨bm, 2, none⟩ = some (.int .i64 mc) ∧ W.cell? ⟨bm, 3, none⟩ = some (.int .i64 md) ∧ W.cell? ⟨bm, 4, none⟩ = some (.int .i64 me) ∧ W.cell? ⟨bm, 5, none⟩ = some (.int .i64 mf) ∧ W.cell? ⟨bA, oA + a * 2, none⟩ = some (.int .i64 u) ∧ W.cell? ⟨bA, oA + a * 2 + 1, none⟩ = some (.int .i64 v)) none
              [(0, true), (1, true), (2, true), (3, true), (4, true), (5, true), (6, true), (7, true), (8, true), (9, true), (10, true), (11, true), (12, false), (13, true), (14, true), (15, false), (16, true)] (by kernel_rfl) rfl (by kernel_rfl) (by kernel_rfl) (by repeat (first | with_reducible refine PanicOk.thn ?_ | with_reducible refine PanicOk.blk ?_ | exact PanicOk.body _ _ _)) ?_
            repeat
              (refine txt_quiet ?_ hS rfl rfl (fun W hW => ?_) ?_
               rotate_left 1
               · obtain ⟨hW1, hW2, hW3, hW4, hW5, hW6, hW7, hW8⟩ := hW
                 go_simp
                 exact rfl
               simp only [Act.put, List.setIfInBounds_toArray, List.set_cons_zero, List.set_cons_succ])
            refine txt_op rfl rfl ?_
            refine op_call 42 #[.agg #[.int .i64 ma, .int .i64 mb, .int .i64 mc, .int .i64 md, .int .i64 me, .int .i64 mf], .int .i64 u, .int .i64 v] w6.drew (by go_simp) _ (Hmvv.out w6.drew) ?_
            rintro e1 w7 ⟨rfl, k1⟩
            have J7 := hid (k1.1 _ J6.out.drew)
            have E7 := hid ((E6.out.trans (Ext.drew _)).trans k1.2)
            refine ⟨_, rfl, fun _ => KA.out w7 _ J7.out, ?_⟩
            clear hS k1
            simp only [Act.put, List.setIfInBounds_toArray, List.set_cons_zero, List.set_cons_succ]
            have hS := KA.out w7 _ J7.out
            repeat
              (refine txt_quiet ?_ hS rfl rfl (fun W hW => ?_) ?_
               rotate_left 1
               · obtain ⟨hW1, hW2, hW3, hW4, hW5, hW6, hW7, hW8⟩ := hW
                 go_simp
                 exact rfl
               simp only [Act.put, List.setIfInBounds_toArray, List.set_cons_zero, List.set_cons_succ])
            refine txt_op rfl rfl ?_
            refine op_call 78 #[.int .i64 tx, .int .i64 ty, .pointer (some ⟨bx, 0, none⟩)] w7 (by go_simp) _ (Hnum.out w7 _ J7.out tx ty Hnx.out.2.1 Hnx.out.2.2) ?_
            rintro e2 w8 ⟨rfl, k1⟩
            have J8 := hid (k1.1 _ J7.out)
            have E8 := hid (E7.out.trans k1.2)
            refine ⟨_, rfl, fun _ => KA.out w8 _ J8.out, ?_⟩
            clear hS k1
            simp only [Act.put, List.setIfInBounds_toArray, List.set_cons_zero, List.set_cons_succ]
            have hS := KA.out w8 _ J8.out
            repeat
              (refine txt_quiet ?_ hS rfl rfl (fun W hW => ?_) ?_
               rotate_left 1
               · obtain ⟨hW1, hW2, hW3, hW4, hW5, hW6, hW7, hW8⟩ := hW
                 go_simp
                 exact rfl
               simp only [Act.put, List.setIfInBounds_toArray, List.set_cons_zero, List.set_cons_succ])
            refine txt_done ?_
            go_wp2
            go_roundw
            case rel => exact ⟨t + 1, _, _, by rw [Hit.out, Hnx.out.1], HSm.out, Hdn.out, HFl.out.set Hat.out, J8.out, E8.out⟩
            case measure =>
              have h1 := Hcnt.out _ _ _ HFl.out HW.out
              have h2 := Hcnt.out _ _ _ (HFl.out.set Hat.out) J8.out
              rw [count_mark Hat.out Hfa.out] at h2
              have h3 := List.countP_le_length (p := fun j => if j = a then true else f j) (l := List.range n)
              rw [count_mark Hat.out Hfa.out, List.length_range] at h3
              omega
    · have hie : i = n := by omega
      subst hie
      clear hlt hi
      go_wp2
      go_ret
      exact ⟨_, rfl, HC.out _ rfl, HKp.out _ _ HW.out HE.out⟩
end Go.Proofs.YteibbnmlmbhkpaaDoor

namespace Go.Proofs.YteibbnmlmbhkpaaDoor
open Go.RowKit
set_option linter.unusedVariables false
set_option linter.unusedSimpArgs false
set_option maxHeartbeats 4000000
set_option maxRecDepth 100000

/-- What Colourings hands back. -/
def ColRes (p : List ByteArray) (k : Nat) (w : World) (e : Ending) (w' : World) : Prop :=
  ∃ a er : Int, e = .returned (.tuple #[.int .i64 a, .int .i64 er]) ∧ Kp w w' ∧ (isPat p = false → a = 0 ∧ er = 2) ∧
    (isPat p = true → ∃ g, IsLat p g ∧ (16 < g.A * g.D → a = 0 ∧ er = 8) ∧ (g.A * g.D ≤ 16 → er = 0 ∧ ∃ cyc : Mv → Nat, (∀ m ∈ symL p g, CycN g m (cyc m)) ∧ a = ((sumL (fun m => k ^ cyc m) (symL p g) / (symL p g).length : Nat) : Int)))
theorem colourings_no {F : MS} {p : List ByteArray} {A : Option Addr} {c : Nat} {w : World} (h : Giv F p A c) (hH : Has w F) (k : Nat) (hp : isPat p = false) :
    Calls Tryd.prog 18 #[.slice A p.length c, .int .i64 k] w (ColRes p k w) := by
  have Hof := hid (of_any h.rd h.l h.s hH)
  have Hq := hid hp
  rw [hp] at Hof
  clear h hH hp
  go_enter Tryd.func18, Tryd.ntmps18
  go_wp2_with (go_at_call 33; refine Hof.out.mono ?_; rintro e1 w1 ⟨r, rfl, k1, _⟩; have K1 := hid k1; clear k1)
  go_ret2
  exact ⟨0, 2, rfl, K1.out, fun _ => ⟨rfl, rfl⟩, fun h => by rw [Hq.out] at h; cases h⟩
theorem colourings_big {F : MS} {p : List ByteArray} {A : Option Addr} {c : Nat} {w : World} (h : Giv F p A c) (hk : KinOk F) (hH : Has w F) (k : Nat) (h1 : 1 ≤ k) (h4 : k ≤ 4) (hp : isPat p = true) (hbig : ∀ g, IsLat p g → 16 < g.A * g.D) :
    Calls Tryd.prog 18 #[.slice A p.length c, .int .i64 k] w (ColRes p k w) := by
  have Hof := hid (of_any h.rd h.l h.s hH)
  have Hq := hid hp
  have Hk := hid hk
  have HH := hid hH
  have Hbig := hid hbig
  rw [hp] at Hof
  have Hgr := hid (fun (W : World) (X : MS) (fb : Nat) (hf : Flo X p fb) (hW : Has W X) (hF : Has W F) => group_any (hf.all hW) (isPat.ok hp).1 (Hk.out.all hF) (Has.all W))
  have h1I : ¬ ((k : Int) < 1) := by omega
  have h4I : ¬ (4 < (k : Int)) := by omega
  clear h hH hp hk h1 h4 hbig
  go_enter Tryd.func18, Tryd.ntmps18
  go_wp2_with (first
    | (go_at_call 33; refine Hof.out.mono ?_; rintro e1 w1 ⟨r, rfl, k1, kf⟩; obtain ⟨fb, X, rfl, kX, kF⟩ := kf rfl; have K1 := hid k1; have KX := hid kX; have KF := hid kF; clear k1 kX kF kf)
    | (go_at_call 36; refine (Hgr.out _ X fb KF.out KX.out (K1.out.1 _ HH.out)).mono ?_; rintro e2 w2 ⟨g, gb, Y, rfl, hg, hY, k2⟩; have Hg := hid hg; have K2 := hid (K1.out.trans k2); have f0 := hg.c0.c0 hY; have f2 := hg.c2.c0 hY; clear hg hY k2))
  have hb := Hbig.out g Hg.out.lat
  have h6 := Hg.out.lat.a6 Hg.out.pok
  have hle : g.A * g.D ≤ 6 * 6 := Nat.mul_le_mul h6.1 h6.2.1
  obtain ⟨q, hq⟩ : ∃ q : Int, q = (g.A : Int) * g.D := ⟨_, rfl⟩
  have hqr : 16 < q ∧ q ≤ 36 := by rw [hq, ← Int.natCast_mul]; omega
  have u1 : IntKind.i64.wrap ((g.A : Int) * g.D) = q := by rw [← hq, IntKind.wrap_i64]; omega
  have u2 : wrap64 ((g.A : Int) * g.D) = q := by rw [← hq]; unfold wrap64; omega
  have hq16 : 16 < q := hqr.1
  clear hb h6 hle hq hqr
  go_quiet (fail)
  go_wp2
  go_ret2
  exact ⟨0, 8, rfl, K2.out.drewN _, fun h => (by rw [Hq.out] at h; cases h), fun _ => ⟨g, Hg.out.lat, fun _ => ⟨rfl, rfl⟩, fun h => absurd (Hbig.out g Hg.out.lat) (by omega)⟩⟩
end Go.Proofs.YteibbnmlmbhkpaaDoor

namespace Go.Proofs.YteibbnmlmbhkpaaDoor
open Go.RowKit
set_option linter.unusedVariables false
set_option linter.unusedSimpArgs false
set_option maxHeartbeats 4000000
set_option maxRecDepth 100000

theorem CycN.le {g : Gd} {m : Mv} {c : Nat} (h : CycN g m c) : c ≤ g.A * g.D := by
  obtain ⟨r, hr, rfl⟩ := h
  have := List.countP_le_length (p := fun i => r i == i) (l := List.range (g.A * g.D))
  rwa [List.length_range] at this
theorem pow_small {k c : Nat} (hk : k ≤ 4) (hc : c ≤ 16) : k ^ c ≤ 4294967296 := by
  have h1 : k ^ c ≤ 4 ^ c := Nat.pow_le_pow_left hk c
  have h2 : 4 ^ c ≤ 4 ^ 16 := Nat.pow_le_pow_right (by omega) hc
  have h3 : 4 ^ 16 = 4294967296 := by decide
  omega
theorem sum_small {α : Type} {f : α → Nat} {B : Nat} : ∀ {l : List α}, (∀ x ∈ l, f x ≤ B) → sumL f l ≤ l.length * B
  | [], _ => by simp [sumL]
  | x :: l, h => by
    have h1 := h x (by simp)
    have h2 := sum_small (l := l) fun y hy => h y (by simp [hy])
    show f x + sumL f l ≤ (l.length + 1) * B
    rw [Nat.add_mul]; omega
theorem colourings_ok {F : MS} {p : List ByteArray} {A : Option Addr} {c : Nat} {w : World} (h : Giv F p A c) (hk : KinOk F) (hH : Has w F) (k : Nat) (h1 : 1 ≤ k) (h4 : k ≤ 4) (hp : isPat p = true) (hsm : ∀ g, IsLat p g → g.A * g.D ≤ 16) :
    Calls Tryd.prog 18 #[.slice A p.length c, .int .i64 k] w (ColRes p k w) := by
  have Hof := hid (of_any h.rd h.l h.s hH)
  have Hq := hid hp
  have Hk := hid hk
  have HH := hid hH
  have Hsm := hid hsm
  rw [hp] at Hof
  have Hgr := hid (fun (W : World) (X : MS) (fb : Nat) (hf : Flo X p fb) (hW : Has W X) (hF : Has W F) => group_any (hf.all hW) (isPat.ok hp).1 (Hk.out.all hF) (Has.all W))
  have h1I : ¬ ((k : Int) < 1) := by omega
  have h4I : ¬ (4 < (k : Int)) := by omega
  have H4 := hid h4
  clear h hH hp hk h1 h4 hsm
  go_enter Tryd.func18, Tryd.ntmps18
  go_wp2_with (first
    | (go_at_call 33; refine Hof.out.mono ?_; rintro e1 w1 ⟨r, rfl, k1, kf⟩; obtain ⟨fb, X, rfl, kX, kF⟩ := kf rfl; have K1 := hid k1; have KX := hid kX; have KF := hid kF; clear k1 kX kF kf)
    | (go_at_call 36; refine (Hgr.out _ X fb KF.out KX.out (K1.out.1 _ HH.out)).mono ?_; rintro e2 w2 ⟨g, gb, Y, rfl, hg, hY, k2⟩; have Hg := hid hg; have HY := hid hY; have K2 := hid (K1.out.trans k2); have f0 := hg.c0.c0 hY; have f2 := hg.c2.c0 hY; clear hg hY k2))
  have hb := Hsm.out g Hg.out.lat
  have hA := Hg.out.lat.a1
  have hD := Hg.out.lat.d1
  obtain ⟨q, hq⟩ : ∃ q : Int, q = (g.A : Int) * g.D := ⟨_, rfl⟩
  have hqr : 0 ≤ q ∧ q ≤ 16 := by rw [hq, ← Int.natCast_mul]; omega
  have u1 : IntKind.i64.wrap ((g.A : Int) * g.D) = q := by rw [← hq, IntKind.wrap_i64]; omega
  have u2 : wrap64 ((g.A : Int) * g.D) = q := by rw [← hq]; unfold wrap64; omega
  have hq16 : ¬ (16 < q) := by omega
  clear hq hqr hA hD
  go_quiet (fail)
  go_simp
  generalize hwd : w2.drewN _ = wd
  have KY := hid (show Has wd Y by rw [← hwd]; exact HY.out.drewN _)
  have K3 := hid (show Kp w wd by rw [← hwd]; exact K2.out.drewN _)
  clear hwd f0 f2 u1 u2 hq16 HY K2
  obtain ⟨cyc, hcyc⟩ := Classical.axiomOfChoice (fun m => CycN.ex g m)
  have Hcyc := hid hcyc
  obtain ⟨A', c', ha1, ha2⟩ := Hg.out.all
  have Ha2 := hid ha2
  have Hf3 := hid (show ∀ W, Kp wd W → W.cell? ⟨gb, 3, none⟩ = some (.slice A' (symL p g).length c') from fun W hW => ha1.c0 (hW.1 _ KY.out))
  have f3 := Hf3.out wd (Kp.refl _)
  have Hcy := hid (fun (W : World) (hW : Kp wd W) (m : Mv) (hm : m ∈ symL p g) => show Calls Tryd.prog 40 #[.pointer (some ⟨gb, 0, none⟩), m.v] W fun e w' => e = .returned (.int .i64 (cyc m : Nat)) ∧ Kp W w' from (cycles_any Hg.out (hW.1 _ KY.out) hm).mono fun e w' he => by
    obtain ⟨c, h1, h2, h3⟩ := he
    rw [h2.uniq (hcyc m)] at h1
    exact ⟨h1, h3⟩)
  have hN1 := symL_one Hg.out.pok Hg.out.lat
  have hN8 := symL_le Hg.out.pok Hg.out.lat
  have Hle := hid (fun m => Nat.le_trans (hcyc m).le hb)
  clear ha1 ha2 hcyc hb
  go_wp2
  generalize hl : symL p g = l at *
  have Hl := hid hl
  have hNI : (l.length : Int) ≤ 8 := by omega
  have hN0 : ¬ ((l.length : Int) = 0) := by omega
  have hnc := Ha2.out.cells.2.1
  have Hpw := hid (fun (m : Mv) => pow_small H4.out (Hle.out m))
  have Hpw2 := hid (fun (j : Nat) (hj : j ≤ 16) => pow_small H4.out hj)
  clear hl
  go_loopw [10, 50] (fun vs v wr => ∃ i : Nat, i ≤ l.length ∧ v = .int .i64 i ∧ vs = .int .i64 (sumL (fun m => k ^ cyc m) (l.take i) : Nat) ∧ Kp wd wr) (fun _ v _ => l.length - (intOf v).toNat)
  case atStart => exact ⟨0, Nat.zero_le _, rfl, rfl, Kp.refl _⟩
  case round =>
    obtain ⟨i, hi, rfl, rfl, hK⟩ := hrel
    have HK := hid hK
    have g3 := Hf3.out wr hK
    clear hK
    have hsb := sum_small (f := fun m => k ^ cyc m) (l := l.take i) (fun m _ => Hpw.out m)
    have hlen : (l.take i).length ≤ 8 := by rw [List.length_take]; omega
    have hsb2 : sumL (fun m => k ^ cyc m) (l.take i) ≤ 8 * 4294967296 := Nat.le_trans hsb (Nat.mul_le_mul_right _ hlen)
    by_cases hlt : i < l.length
    · have hltI : (i : Int) < l.length := by omega
      have Hlt := hid hlt
      obtain ⟨m, hm⟩ : ∃ m, l[i]? = some m := ⟨_, List.getElem?_eq_getElem hlt⟩
      obtain ⟨b, o, hA', hcs⟩ := Ha2.out.mvAt hm
      subst hA'
      obtain ⟨n0, n1, n2, n3, n4, n5⟩ := hcs wr (HK.out.1 _ KY.out)
      have Hsu := hid (show sumL (fun m => k ^ cyc m) (l.take (i + 1)) = sumL (fun m => k ^ cyc m) (l.take i) + k ^ cyc m by rw [take_more hm, sumL_append]; rfl)
      have Hcm := hid (fun W hW => Hcy.out W hW m (List.mem_of_getElem? hm))
      have hpm := Hpw.out m
      have hlm := Hle.out m
      generalize cyc m = cm at *
      obtain ⟨s, hs⟩ : ∃ s, s = sumL (fun m => k ^ cyc m) (l.take i) := ⟨_, rfl⟩
      rw [← hs] at Hsu hsb2 ⊢
      clear hs hsb hlen hm hlt hi hcs
      obtain ⟨ma, mb, mc, md, me, mf⟩ := m
      have HKa := hid (show Kp wd (wr.alloc (.cells #[.int .i64 ma, .int .i64 mb, .int .i64 mc, .int .i64 md, .int .i64 me, .int .i64 mf] 41)) from HK.out.trans ⟨fun M hM => hM.of_all ((Has.all wr).alloc _), Ext.alloc _ _⟩)
      go_wp2_with (go_at_call 40; refine (Hcm.out _ HKa.out).mono ?_; rintro e4 w4 ⟨rfl, k4⟩; have K4 := hid (HKa.out.trans k4); clear k4)
      have hcI : (cm : Int) ≤ 16 := by omega
      go_loopw [13, 57] (fun vf v wq => ∃ j : Nat, j ≤ cm ∧ v = .int .i64 j ∧ vf = .int .i64 (k ^ j : Nat) ∧ Kp wd wq) (fun _ v _ => cm - (intOf v).toNat)
      case atStart => exact ⟨0, Nat.zero_le _, rfl, by rw [Nat.pow_zero]; rfl, K4.out⟩
      case round =>
        clear K4
        obtain ⟨j, hj, rfl, rfl, hK4⟩ := hrel
        have K4 := hid hK4
        clear hK4
        by_cases hlj : j < cm
        · have hljI : (j : Int) < cm := by omega
          have Hlj := hid hlj
          have hp1 := Hpw2.out (j + 1) (by omega)
          obtain ⟨z, hz⟩ : ∃ z, z = k ^ (j + 1) := ⟨_, rfl⟩
          have hz2 : ((k ^ j : Nat) : Int) * k = (z : Int) := by rw [hz, Nat.pow_succ, Int.natCast_mul]
          rw [← hz] at hp1
          have Hz := hid hz
          generalize k ^ j = y at *
          have u1 : IntKind.i64.wrap ((y : Int) * k) = z := by rw [hz2, IntKind.wrap_i64]; omega
          have u2 : wrap64 ((y : Int) * k) = z := by rw [hz2]; unfold wrap64; omega
          clear hlj hj hz hz2 hp1
          go_wp2
          go_roundw
          case rel => exact ⟨j + 1, Hlj.out, by go_num, by rw [← Hz.out], K4.out⟩
          case measure => have := Hlj.out; simp [intOf]; omega
        · have hje : j = cm := by omega
          subst hje
          clear hlj hj
          obtain ⟨y, hy⟩ : ∃ y, y = k ^ j := ⟨_, rfl⟩
          rw [← hy] at Hsu hpm ⊢
          have u1 : IntKind.i64.wrap ((s : Int) + y) = ((s + y : Nat) : Int) := by rw [IntKind.wrap_i64]; omega
          have u2 : wrap64 ((s : Int) + y) = ((s + y : Nat) : Int) := by unfold wrap64; omega
          clear hy
          go_wp2
          go_roundw
          case rel => exact ⟨i + 1, Hlt.out, by go_num, by rw [Hsu.out]; go_num, K4.out⟩
          case measure => have := Hlt.out; simp [intOf]; omega
    · have hie : i = l.length := by omega
      rw [hie, List.take_length] at hsb2 ⊢
      subst hie
      clear hlt hi hsb hlen
      obtain ⟨s, hs⟩ : ∃ s, s = sumL (fun m => k ^ cyc m) l := ⟨_, rfl⟩
      rw [← hs] at hsb2 ⊢
      have Hs := hid hs
      have hdv := Nat.div_le_self s l.length
      have td0 : (s : Int).tdiv (l.length : Int) = ((s / l.length : Nat) : Int) := by rw [Int.tdiv_eq_ediv_of_nonneg (Int.natCast_nonneg s)]; rfl
      obtain ⟨q, hq⟩ : ∃ q, q = s / l.length := ⟨_, rfl⟩
      rw [← hq] at hdv td0
      have Hqq := hid hq
      have hq2 : (q : Int) ≤ 34359738368 := by omega
      have u1 : IntKind.i64.wrap (q : Int) = (q : Int) := by rw [IntKind.wrap_i64]; omega
      have u2 : wrap64 (q : Int) = (q : Int) := by unfold wrap64; omega
      clear hs hdv hq hq2
      go_wp2
      go_ret2
      exact ⟨_, 0, rfl, K3.out.trans HK.out, fun h => (by rw [Hq.out] at h; cases h), fun _ => ⟨g, Hg.out.lat, fun h => absurd (Hsm.out g Hg.out.lat) (by omega), fun _ => ⟨rfl, cyc, fun m _ => Hcyc.out m, by rw [Hl.out, ← Hs.out, ← Hqq.out]⟩⟩⟩
theorem colourings_any {F : MS} {p : List ByteArray} {A : Option Addr} {c : Nat} {w : World} (h : Giv F p A c) (hk : KinOk F) (hH : Has w F) (k : Nat) (h1 : 1 ≤ k) (h4 : k ≤ 4) :
    Calls Tryd.prog 18 #[.slice A p.length c, .int .i64 k] w (ColRes p k w) := by
  cases hp : isPat p with
  | false => exact colourings_no h hH k hp
  | true =>
    by_cases hx : ∃ g, IsLat p g ∧ g.A * g.D ≤ 16
    · obtain ⟨g, hg, hs⟩ := hx
      exact colourings_ok h hk hH k h1 h4 hp fun g' hg' => by rw [hg'.uniq hg]; exact hs
    · exact colourings_big h hk hH k h1 h4 hp fun g hg => Nat.lt_of_not_le fun hle => hx ⟨g, hg, hle⟩
end Go.Proofs.YteibbnmlmbhkpaaDoor

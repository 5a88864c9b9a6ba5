/-
  Plain: what a board gives.
-/
import Derived.Test.YtcdhimnmbpllgaaDoorBBoard
namespace Go.Proofs.YtcdhimnmbpllgaaDoor
open Go.RowKit
set_option linter.unusedVariables false
set_option linter.unusedSimpArgs false
set_option maxRecDepth 100000

theorem bRow_all : ((List.range 9).all fun W => (bRow W).size == W && (List.range W).all fun x => bt (bRow W) x == 35) = true := by kernel_rfl
theorem bReg_all : ((List.range 8).all fun w => (List.range 8).all fun h => isReg (bd (w + 1) (h + 1))) = true := by kernel_rfl
theorem bRow_size {W H : Nat} (w1 : 1 ≤ W) (w8 : W ≤ 8) (h1 : 1 ≤ H) (h8 : H ≤ 8) : (bRow W).size = W := by
  have := List.all_eq_true.1 bRow_all W (List.mem_range.2 (by omega))
  rw [Bool.and_eq_true, beq_iff_eq] at this
  exact this.1
theorem bRow_bt {W H : Nat} (w1 : 1 ≤ W) (w8 : W ≤ 8) (h1 : 1 ≤ H) (h8 : H ≤ 8) {x : Nat} (hx : x < W) : bt (bRow W) x = 35 := by
  have := List.all_eq_true.1 bRow_all W (List.mem_range.2 (by omega))
  rw [Bool.and_eq_true, List.all_eq_true] at this
  exact beq_iff_eq.1 (this.2 x (List.mem_range.2 hx))
theorem bd_reg {W H : Nat} (w1 : 1 ≤ W) (w8 : W ≤ 8) (h1 : 1 ≤ H) (h8 : H ≤ 8) : isReg (bd W H) = true := by
  obtain ⟨w, rfl⟩ : ∃ w, W = w + 1 := ⟨W - 1, by omega⟩
  obtain ⟨h, rfl⟩ : ∃ h, H = h + 1 := ⟨H - 1, by omega⟩
  exact List.all_eq_true.1 (List.all_eq_true.1 bReg_all w (List.mem_range.2 (by omega))) h (List.mem_range.2 (by omega))
theorem bd_ok {W H : Nat} (w1 : 1 ≤ W) (w8 : W ≤ 8) (h1 : 1 ≤ H) (h8 : H ≤ 8) : brdOk W H = true := by
  obtain ⟨w, rfl⟩ : ∃ w, W = w + 1 := ⟨W - 1, by omega⟩
  obtain ⟨h, rfl⟩ : ∃ h, H = h + 1 := ⟨H - 1, by omega⟩
  exact List.all_eq_true.1 (List.all_eq_true.1 brd_all w (List.mem_range.2 (by omega))) h (List.mem_range.2 (by omega))
theorem bd_len {W H : Nat} : (bd W H).length = H := by unfold bd; exact List.length_replicate
theorem bd_get {W H : Nat} (w1 : 1 ≤ W) (w8 : W ≤ 8) (h1 : 1 ≤ H) (h8 : H ≤ 8) {y : Nat} (hy : y < H) : (bd W H).getD y empty = bRow W := by
  unfold bd
  rw [List.getD_eq_getElem?_getD, List.getElem?_replicate, if_pos hy]
  rfl
theorem bd_wd {W H : Nat} (w1 : 1 ≤ W) (w8 : W ≤ 8) (h1 : 1 ≤ H) (h8 : H ≤ 8) : wd (bd W H) = W := by
  unfold wd
  rw [bd_get w1 w8 h1 h8 (by omega), bRow_size w1 w8 h1 h8]
theorem bd_hs {W H : Nat} (w1 : 1 ≤ W) (w8 : W ≤ 8) (h1 : 1 ≤ H) (h8 : H ≤ 8) : hsR (bd W H) = bH W H := by
  funext x y
  unfold hsR hsI bH
  rw [bd_wd w1 w8 h1 h8, bd_len]
  have e0 : decide ((0 : Int) ≤ (x : Int)) = true := decide_eq_true (by omega)
  have e1 : decide ((0 : Int) ≤ (y : Int)) = true := decide_eq_true (by omega)
  rw [e0, e1, Bool.true_and, Bool.true_and]
  have e2 : decide ((x : Int) < (W : Int)) = decide (x < W) := by rw [Bool.eq_iff_iff, decide_eq_true_eq, decide_eq_true_eq]; omega
  have e3 : decide ((y : Int) < (H : Int)) = decide (y < H) := by rw [Bool.eq_iff_iff, decide_eq_true_eq, decide_eq_true_eq]; omega
  rw [e2, e3]
  by_cases hx : x < W
  · by_cases hy : y < H
    · rw [decide_eq_true hx, decide_eq_true hy, Int.toNat_natCast, Int.toNat_natCast, bd_get w1 w8 h1 h8 hy, bRow_bt w1 w8 h1 h8 hx]
      rfl
    · rw [decide_eq_false hy]; simp
  · rw [decide_eq_false hx]; simp
theorem bd_cnt {W H : Nat} (w1 : 1 ≤ W) (w8 : W ≤ 8) (h1 : 1 ≤ H) (h8 : H ≤ 8) : cntV (bd W H) = cntF W (bH W H) (W * H) 0 0 := by
  unfold cntV waysV
  rw [bd_reg w1 w8 h1 h8, if_pos rfl, bd_wd w1 w8 h1 h8, bd_len, bd_hs w1 w8 h1 h8, Nat.sub_zero]
theorem bd_even {W H : Nat} (w1 : 1 ≤ W) (w8 : W ≤ 8) (h1 : 1 ≤ H) (h8 : H ≤ 8) : 0 < cntV (bd W H) ↔ W * H % 2 = 0 := by
  rw [bd_cnt w1 w8 h1 h8]
  have hok := bd_ok w1 w8 h1 h8
  unfold brdOk at hok
  by_cases ho : W * H % 2 = 1
  · rw [if_pos (by rw [ho]; rfl), beq_iff_eq] at hok
    constructor
    · intro h
      have := cnt_even (H := H) w1 (fun x y hh => by unfold bH at hh; rw [Bool.and_eq_true, decide_eq_true_eq, decide_eq_true_eq] at hh; exact hh) (W * H) 0 0 (by omega) (Nat.two_pow_pos _) h
      omega
    · intro h; omega
  · rw [if_neg (by rw [beq_iff_eq]; exact ho), Bool.and_eq_true, pF_iff, decide_eq_true_eq] at hok
    exact ⟨fun _ => by omega, fun _ => hok.1⟩
theorem bd_tile {W H : Nat} (w1 : 1 ≤ W) (w8 : W ≤ 8) (h1 : 1 ≤ H) (h8 : H ≤ 8) (he : W * H % 2 = 0) : ∃ T, T = pathF (wd (bd W H)) (hsR (bd W H)) (wd (bd W H) * (bd W H).length) 0 0 0 ∧ 2 * T.length = W * H ∧
    ∀ d ∈ T, ∃ x y : Nat, d = ((x : Int), (y : Int), d.2.2) ∧ x < W ∧ y < H ∧ usedB (bd W H) d.2.2 x y = true := by
  have hreg := bd_reg w1 w8 h1 h8
  have hok := bd_ok w1 w8 h1 h8
  unfold brdOk at hok
  rw [if_neg (by rw [beq_iff_eq]; omega), Bool.and_eq_true, Bool.and_eq_true, beq_iff_eq, List.all_eq_true] at hok
  refine ⟨_, rfl, ?_, ?_⟩
  · rw [path_b, bd_wd w1 w8 h1 h8, bd_len, bd_hs w1 w8 h1 h8]
    exact hok.2.1
  · rw [path_b, bd_wd w1 w8 h1 h8, bd_len, bd_hs w1 w8 h1 h8]
    intro d hd
    have h := hok.2.2 d hd
    unfold brdD at h
    simp only [Bool.and_eq_true, decide_eq_true_eq] at h
    obtain ⟨a1, a2, a3, a4, a5, a6, a7⟩ := h
    obtain ⟨dx, dy, dd⟩ := d
    simp only at a1 a2 a3 a4 a5 a6 a7 ⊢
    obtain ⟨x, rfl⟩ : ∃ x : Nat, dx = x := ⟨dx.toNat, by omega⟩
    obtain ⟨y, rfl⟩ : ∃ y : Nat, dy = y := ⟨dy.toNat, by omega⟩
    simp only [Int.toNat_natCast] at a3 a4 a5 a6 a7
    refine ⟨x, y, rfl, a3, a4, ?_⟩
    obtain ⟨ox, hox⟩ : ∃ ox, ox = (if dd then x else x + 1) := ⟨_, rfl⟩
    obtain ⟨oy, hoy⟩ : ∃ oy, oy = (if dd then y + 1 else y) := ⟨_, rfl⟩
    rw [← hox] at a5 a7
    rw [← hoy] at a6 a7
    have e1 : otX (x : Int) dd = (ox : Int) := by unfold otX; rw [hox]; cases dd <;> simp
    have e2 : otY (y : Int) dd = (oy : Int) := by unfold otY; rw [hoy]; cases dd <;> simp
    unfold usedB
    rw [e1, e2]
    have hh : ∀ a b : Nat, hsI (bd W H) (a : Int) (b : Int) = bH W H a b := fun a b => congrFun (congrFun (bd_hs w1 w8 h1 h8) a) b
    rw [hh, hh]
    have b1 : bH W H x y = true := by unfold bH; rw [decide_eq_true a3, decide_eq_true a4]; rfl
    have b2 : bH W H ox oy = true := by unfold bH; rw [decide_eq_true a5, decide_eq_true a6]; rfl
    rw [b1, b2, Bool.true_and, Bool.true_and, decide_eq_true_eq]
    have hp := (isReg.ok hreg).1
    have hq := drawn_reg hp (fun (x' y' : Nat) => minB (bd W H) ((x : Int), (y : Int)) ((ox : Int), (oy : Int)) ((x' : Int), (y' : Int)))
    have hqhs : hsR (drawnL (bd W H) (fun (x' y' : Nat) => minB (bd W H) ((x : Int), (y : Int)) ((ox : Int), (oy : Int)) ((x' : Int), (y' : Int)))) = rmB W H x y ox oy := by
      funext a b
      rw [hsR_drawn hp, bd_wd w1 w8 h1 h8, bd_len]
      unfold minB rmB
      rw [show hsI (bd W H) ((a : Int), (b : Int)).1 ((a : Int), (b : Int)).2 = bH W H a b from hh a b]
      by_cases ha : a < W
      · by_cases hb : b < H
        · rw [decide_eq_true ha, decide_eq_true hb]
          have : bH W H a b = true := by unfold bH; rw [decide_eq_true ha, decide_eq_true hb]; rfl
          rw [this]
          simp only [Bool.true_and, Bool.and_true, ne_eq, Prod.mk.injEq, Int.natCast_inj]
          congr 1 <;> rw [Bool.eq_iff_iff] <;> simp
        · rw [decide_eq_false hb]; simp
      · rw [decide_eq_false ha]; simp
    unfold cntV waysV
    rw [hq, if_pos rfl, drawnL_wd hp, drawnL_len, hqhs, bd_wd w1 w8 h1 h8, bd_len, Nat.sub_zero]
    rw [pF_iff, decide_eq_true_eq] at a7
    exact a7
end Go.Proofs.YtcdhimnmbpllgaaDoor

/-
  Cells: read, owned; the walks of black, Cells.
-/
import Derived.Test.YtcdhimnmbpllgaaDoorDW1
import Derived.WalkArith
namespace Go.Proofs.YtcdhimnmbpllgaaDoor
open Go.RowKit
set_option linter.unusedVariables false
set_option linter.unusedSimpArgs false
set_option maxHeartbeats 1000000
set_option maxRecDepth 100000

def ClR (q : Int × Int) (cs : List Value) (m : MS) : Prop := cs = [.int .i64 q.1, .int .i64 q.2] ∧ m = 0
theorem ClR.one : ∀ a cs m, ClR a cs m → ∀ u ∈ cs, u.oneCell' = true := fun a cs m h u hu => by
  rw [h.1] at hu
  rcases List.mem_cons.1 hu with rfl | hu
  · rfl
  · rw [List.mem_singleton.1 hu]; rfl
theorem ClR.len : ∀ a cs m, ClR a cs m → cs.length = 2 := fun a cs m h => by rw [h.1]; rfl
def RT.cl : RT (Int × Int) := ⟨2, fun _ q cs => cs = [.int .i64 q.1, .int .i64 q.2], fun _ _ _ h => by rw [h]; rfl, fun _ _ _ _ h => h⟩
theorem ClR.rd : ∀ a cs m, ClR a cs m → RT.cl.rel m a cs := fun _ _ _ h => h.1
theorem row29 : RowTy Tryd.prog 29 66 (.agg #[.int .i64 0, .int .i64 0]) 2 16 := ⟨Tryd.underlying29, by kernel_rfl, rfl⟩
theorem size66 : (Tryd.prog.info? 66).map (·.size) = some 2 := by kernel_rfl
theorem RdS.getCl {F : MS} {l : List (Int × Int)} {A : Option Addr} {n c : Nat} (h : RdS F RT.cl l (.slice A n c)) {i : Nat} {q : Int × Int} (ha : l[i]? = some q) :
    ∃ b o, A = some ⟨b, o, none⟩ ∧ F.at b (o + i * 2) (.int .i64 q.1) ∧ F.at b (o + i * 2 + 1) (.int .i64 q.2) := by
  obtain ⟨b, o, cs, h1, h2, h3⟩ := h.get ha (by show 0 < 2; omega)
  obtain rfl : cs = [.int .i64 q.1, .int .i64 q.2] := h2
  exact ⟨b, o, h1, h3 0 _ rfl, h3 1 _ rfl⟩
def Cls (l : List (Int × Int)) (v : Value) (m : MS) : Prop := SlR 66 2 ClR l v m
theorem Cls.rd {l : List (Int × Int)} {v : Value} {m : MS} (h : Cls l v m) : RdS m RT.cl l v := SlR.rd ClR.rd h
theorem Cls.nil : Cls [] (.slice none 0 0) 0 := ⟨[], 0, 0, Sl.nil 66 2, RowsR.nil, (MS.zero_add _).symm⟩
theorem wpList_runI {P : Program} {o : Oper} {ops : Array Oper} {rest : List Oper} {a : Act} {w : World} {Q : Exit → Act → World → Prop} (hgd : o.guard = none) (t : TypeId) (x y : Operand) (ho : o.op = .index t x y) (v : Value) (w' : World) (hrun : (execOp a.eval o).run P w = .ok (.value v) w') (h : wpList P ops Q rest (a.put o.dst v) w') : wpList P ops Q (o :: rest) a w :=
  wpList_plain hgd fun _ hK => by
    unfold Oper.wp
    rw [hrun]
    exact hK _ _ h
def clV (q : Int × Int) : Value := .agg #[.int .i64 q.1, .int .i64 q.2]
def blackB (q : Int × Int) : Bool := (q.1 + q.2) % 2 == 0
theorem black_any (q : Int × Int) (h1 : -1000 ≤ q.1 ∧ q.1 ≤ 1000) (h2 : -1000 ≤ q.2 ∧ q.2 ≤ 1000) (w : World) :
    Calls Tryd.prog 38 #[clV q] w fun e w' => e = .returned (.bool (blackB q)) ∧ Kp w w' := by
  obtain ⟨x, y⟩ := q
  have HA := hid ((Has.all w).alloc (.cells #[.int .i64 x, .int .i64 y] 66))
  have HE := hid (Ext.alloc w (.cells #[.int .i64 x, .int .i64 y] 66))
  have hm : ((x + y).tmod 2 == 0) = ((x + y) % 2 == 0) := by
    rw [Bool.eq_iff_iff, beq_iff_eq, beq_iff_eq]
    constructor
    · intro h
      have := Int.dvd_of_tmod_eq_zero h
      omega
    · intro h
      exact Int.tmod_eq_zero_of_dvd (by omega)
  have Hb := hid (show blackB (x, y) = ((x + y) % 2 == 0) from rfl)
  show Calls Tryd.prog 38 #[.agg #[.int .i64 x, .int .i64 y]] w _
  simp only at h1 h2
  cases hq : ((x + y) % 2 == 0) with
  | true =>
    rw [hq] at hm
    have Hq := hid hq
    clear hq
    go_enter Tryd.func38, Tryd.ntmps38
    go_wp2
    go_ret
    exact ⟨by rw [Hb.out, Hq.out]; first | rfl | simp [hm], fun M hM => hM.of_all HA.out, HE.out⟩
  | false =>
    rw [hq] at hm
    have Hq := hid hq
    clear hq
    go_enter Tryd.func38, Tryd.ntmps38
    go_wp2
    go_ret
    exact ⟨by rw [Hb.out, Hq.out]; first | rfl | simp [hm], fun M hM => hM.of_all HA.out, HE.out⟩

/-! ### The cells of a region -/
def rowCl (p : List ByteArray) (y k : Nat) : List (Int × Int) := ((List.range k).filter fun x => hsR p x y).map fun (x : Nat) => ((x : Int), (y : Int))
def cellsK (p : List ByteArray) (k : Nat) : List (Int × Int) := (List.range k).flatMap fun y => rowCl p y (wd p)
def cellsL (p : List ByteArray) : List (Int × Int) := cellsK p p.length
theorem rowCl_succ (p : List ByteArray) (y k : Nat) : rowCl p y (k + 1) = rowCl p y k ++ (if hsR p k y then [((k : Int), (y : Int))] else []) := by
  unfold rowCl
  rw [List.range_succ, List.filter_append, List.map_append]
  congr 1
  cases h : hsR p k y <;> simp [h]
theorem cellsK_succ (p : List ByteArray) (k : Nat) : cellsK p (k + 1) = cellsK p k ++ rowCl p k (wd p) := by
  unfold cellsK
  rw [List.range_succ, List.flatMap_append]
  simp
theorem rowCl_len (p : List ByteArray) (y k : Nat) : (rowCl p y k).length ≤ k := by
  unfold rowCl
  rw [List.length_map]
  have := List.length_filter_le (fun x => hsR p x y) (List.range k)
  rwa [List.length_range] at this
theorem cellsK_len (p : List ByteArray) : ∀ k, (cellsK p k).length ≤ k * wd p
  | 0 => by simp [cellsK]
  | k + 1 => by
    rw [cellsK_succ, List.length_append, Nat.succ_mul]
    exact Nat.add_le_add (cellsK_len p k) (rowCl_len p k _)
theorem cells_any {F : MS} {p : List ByteArray} {A : Option Addr} {c : Nat} {w : World} (hr : RdS F RT.str p (.slice A p.length c)) (hp : RegOk p) (hH : Has w F) :
    Calls Tryd.prog 37 #[rgV p A c] w fun e w' => ∃ v m, e = .returned v ∧ Cls (cellsL p) v m ∧ (∀ M, Has w M → Has w' (m + M)) ∧ Ext w w' := by
  have Hhas := hid (fun (W : World) (hW : Has W (MS.all w)) (x y : Nat) => show Calls Tryd.prog 47 #[.agg #[.int .i64 (wd p), .int .i64 p.length, .slice A p.length c], .int .i64 (x : Int), .int .i64 (y : Int)] W fun e w' => e = .returned (.bool (hsR p x y)) ∧ Kp W w' from has_any (rd_all_str hr hH) hp hW _ _)
  have HA := hid ((Has.all w).alloc (.cells #[.int .i64 (wd p), .int .i64 p.length, .slice A p.length c] 51))
  have HE := hid (Ext.alloc w (.cells #[.int .i64 (wd p), .int .i64 p.length, .slice A p.length c] 51))
  show Calls Tryd.prog 37 #[.agg #[.int .i64 (wd p), .int .i64 p.length, .slice A p.length c]] w _
  have hw8 := hp.w8
  have hh8 := hp.h8
  have Hend := hid (show cellsK p p.length = cellsL p from rfl)
  obtain ⟨WN, hWN⟩ : ∃ WN, WN = wd p := ⟨_, rfl⟩
  obtain ⟨HN, hHN⟩ : ∃ HN, HN = p.length := ⟨_, rfl⟩
  have Hlen := hid (fun (y x : Nat) (hy : y < HN) (hx : x ≤ WN) => show (cellsK p y ++ rowCl p y x).length ≤ 64 by
    rw [List.length_append]
    have h1 := cellsK_len p y
    have h2 := rowCl_len p y x
    have h3 : (y + 1) * wd p ≤ 8 * 8 := Nat.mul_le_mul (by omega) hw8
    rw [Nat.succ_mul] at h3
    omega)
  have HWN := hid hWN
  have Hdone := hid (fun y => show cellsK p y ++ rowCl p y WN = cellsK p (y + 1) by rw [hWN, cellsK_succ])
  have Hnone := hid (fun y => show cellsK p y ++ rowCl p y 0 = cellsK p y by unfold rowCl; simp)
  have Hmore := hid (fun y x (h : hsR p x y = true) => show cellsK p y ++ rowCl p y (x + 1) = cellsK p y ++ rowCl p y x ++ [((x : Int), (y : Int))] by rw [rowCl_succ, h]; simp)
  have Hsame := hid (fun y x (h : hsR p x y = false) => show cellsK p y ++ rowCl p y (x + 1) = cellsK p y ++ rowCl p y x by rw [rowCl_succ, h]; simp)
  rw [← hHN] at Hend HA HE Hhas ⊢
  rw [← hWN] at HA HE Hhas ⊢
  have hWI : (WN : Int) ≤ 8 := by omega
  have hHI : (HN : Int) ≤ 8 := by omega
  have HB := hid (show Has (w.alloc (.cells #[.int .i64 WN, .int .i64 HN, .slice A HN c] 51)) (0 + (blk w.heap.size #[.int .i64 WN, .int .i64 HN, .slice A HN c] 51 + MS.all w)) by rw [MS.zero_add]; exact HA.out)
  clear hr hp hH hw8 hh8 hWN hHN
  go_enter Tryd.func37, Tryd.ntmps37
  have f0 := HB.out.right.at_ (i := 1) rfl
  go_wp2
  clear f0
  go_loopw [3, 8] (fun v3 v8 wr => ∃ (y : Nat) (m : MS), y ≤ HN ∧ v8 = .int .i64 y ∧ Cls (cellsK p y) v3 m ∧ Has wr (m + (blk w.heap.size #[.int .i64 WN, .int .i64 HN, .slice A HN c] 51 + MS.all w)) ∧ Ext w wr) (fun _ v _ => HN - (intOf v).toNat)
  case atStart => exact ⟨0, 0, Nat.zero_le _, rfl, Cls.nil, HB.out, HE.out⟩
  case round =>
    obtain ⟨y, m, hy, rfl, hc, hW, hE⟩ := hrel
    obtain ⟨A3, c3, rfl, _⟩ := SlR.form hc
    have HC := hid hc
    have HW := hid hW
    have HEr := hid hE
    clear hc hW hE
    by_cases hlt : y < HN
    · have hltI : (y : Int) < HN := by omega
      have f0 := HW.out.right.at_ (i := 0) rfl
      have Hlt := hid hlt
      clear hlt hy
      go_wp2
      clear f0
      go_loopw [3, 13] (fun v3 v13 wq => ∃ (x : Nat) (m : MS), x ≤ WN ∧ v13 = .int .i64 x ∧ Cls (cellsK p y ++ rowCl p y x) v3 m ∧ Has wq (m + (blk w.heap.size #[.int .i64 WN, .int .i64 HN, .slice A HN c] 51 + MS.all w)) ∧ Ext w wq) (fun _ v _ => WN - (intOf v).toNat)
      case atStart => exact ⟨0, m, Nat.zero_le _, rfl, by rw [Hnone.out]; exact HC.out, HW.out, HEr.out⟩
      case round =>
        obtain ⟨x, m2, hx, rfl, hc2, hW2, hE2⟩ := hrel
        obtain ⟨A4, c4, rfl, _⟩ := SlR.form hc2
        have HC2 := hid hc2
        have HW2 := hid hW2
        have HE2 := hid hE2
        obtain ⟨n, hn⟩ : ∃ n, n = (cellsK p y ++ rowCl p y x).length := ⟨_, rfl⟩
        have hn64 : n ≤ 64 := by rw [hn]; exact Hlen.out y x Hlt.out hx
        rw [← hn]
        rw [← hn] at HC2
        have Hn := hid hn
        clear hc2 hW2 hE2 hn
        by_cases hxl : x < WN
        · have hxI : (x : Int) < WN := by omega
          have f0 := HW2.out.right.at_ (i := 0) rfl
          have f1 := HW2.out.right.at_ (i := 1) rfl
          have f2 := HW2.out.right.at_ (i := 2) rfl
          have Hx := hid hxl
          have hcall := hid (Hhas.out wr HW2.out.right.right x y)
          clear hxl hx
          cases hq : hsR p x y with
          | true =>
            rw [hq] at hcall
            have Hq := hid hq
            clear hq
            go_wp2_with (first
              | (go_at_call 47; refine hcall.out.mono ?_; rintro e5 w5 ⟨rfl, k5⟩; have HW5 := hid (k5.1 _ HW2.out); have HE5 := hid (HE2.out.trans k5.2); clear k5)
              | (at_builtin; refine wpList_push rfl (.tmp 20) (.tmp 24) row29 rfl (.slice A4 n c4) rfl _ rfl (by simp) ClR ClR.one ClR.len _ ((x : Int), (y : Int)) m2 0 _ HC2.out ⟨rfl, rfl⟩ ((HW5.out).eq (by rw [MS.zero_add])) n Hn.out.symm (by omega) (by omega) ?_; intro A8 c8 w8 m8 j4 j5 j6; have J4 := hid j4; have J5 := hid j5; have J6 := hid (HE5.out.trans j6); clear j4 j5 j6))
            go_roundw
            case rel => exact ⟨x + 1, m8, Hx.out, by go_num, by rw [Hmore.out y x Hq.out]; exact J4.out, J5.out, J6.out⟩
            case measure => have := Hx.out; simp [intOf]; omega
          | false =>
            rw [hq] at hcall
            have Hq := hid hq
            clear hq
            go_wp2_with (go_at_call 47; refine hcall.out.mono ?_; rintro e5 w5 ⟨rfl, k5⟩; have HW5 := hid (k5.1 _ HW2.out); have HE5 := hid (HE2.out.trans k5.2); clear k5)
            go_roundw
            case rel => exact ⟨x + 1, m2, Hx.out, by go_num, by rw [Hsame.out y x Hq.out]; exact HC2.out, HW5.out, HE5.out⟩
            case measure => have := Hx.out; simp [intOf]; omega
        · have hxe : x = WN := by omega
          subst hxe
          rw [Hdone.out] at HC2
          clear hxl hx
          go_wp2
          go_roundw
          case rel => exact ⟨y + 1, m2, Hlt.out, by go_num, HC2.out, HW2.out, HE2.out⟩
          case measure => have := Hlt.out; simp [intOf]; omega
    · have hye : y = HN := by omega
      subst hye
      rw [Hend.out] at HC ⊢
      clear hlt hy
      go_wp2
      go_ret
      exact ⟨_, m, rfl, HC.out, fun M hM => (Has.with_all hM (HW.out.eq (by ac_rfl) : Has wr (m + blk w.heap.size #[.int .i64 WN, .int .i64 y, .slice A y c] 51 + MS.all w)) |> fun h => (h.eq (by ac_rfl) : Has wr (m + M + blk w.heap.size #[.int .i64 WN, .int .i64 y, .slice A y c] 51)).left), HEr.out⟩
end Go.Proofs.YtcdhimnmbpllgaaDoor

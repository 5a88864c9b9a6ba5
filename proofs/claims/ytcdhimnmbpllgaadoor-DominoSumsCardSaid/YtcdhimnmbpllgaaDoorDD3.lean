/-
  The walk of the closure of Used that asks for one cell.
-/
import Derived.Test.YtcdhimnmbpllgaaDoorDD1
import Derived.Test.YtcdhimnmbpllgaaDoorDD2
import Derived.Test.YtcdhimnmbpllgaaDoorDW9
namespace Go.Proofs.YtcdhimnmbpllgaaDoor
open Go.RowKit Go.MapKept Go.ChangeMaps
set_option linter.unusedVariables false
set_option linter.unusedSimpArgs false
set_option maxHeartbeats 4000000
set_option maxRecDepth 100000

theorem size40d : (Tryd.prog.info? 40).map (·.size) = some 3 := by kernel_rfl
theorem drStr_size (f : Nat → Nat → Bool) (n y : Nat) : (drStr f n y).size = n := by
  show (drRow f y n).toArray.size = n
  rw [List.size_toArray, drRow_len]
theorem drawnL_len (p : List ByteArray) (f : Nat → Nat → Bool) : (drawnL p f).length = p.length := drawnK_len _ _ _
theorem drawnL_get {p : List ByteArray} {f : Nat → Nat → Bool} {y : Nat} (h : y < p.length) : (drawnL p f)[y]? = some (drStr f (wd p) y) := by
  unfold drawnL drawnK
  rw [List.getElem?_map, List.getElem?_range h]
  rfl
theorem drawnL_wd {p : List ByteArray} (hp : RegOk p) (f : Nat → Nat → Bool) : wd (drawnL p f) = wd p := by
  have h1 := hp.h1
  show ((drawnL p f).getD 0 empty).size = wd p
  rw [getD_some (drawnL_get (f := f) (show 0 < p.length by omega)), drStr_size]
theorem drawn_reg {p : List ByteArray} (hp : RegOk p) (f : Nat → Nat → Bool) : isReg (drawnL p f) = true := by
  unfold isReg
  rw [drawnL_len, drawnL_wd hp, Bool.and_eq_true, decide_eq_true_eq, Bool.not_eq_true', List.any_eq_false]
  refine ⟨⟨hp.h1, hp.h8, hp.w1, hp.w8⟩, fun s hs => ?_⟩
  unfold drawnL drawnK at hs
  rw [List.mem_map] at hs
  obtain ⟨y, _, rfl⟩ := hs
  unfold badRow
  rw [drStr_size]
  have : abB (drStr f (wd p) y) = true := by
    unfold abB
    rw [List.all_eq_true]
    intro b hb
    have hb2 : b ∈ drRow f y (wd p) := by simpa [drStr] using hb
    unfold drRow at hb2
    rw [List.mem_map] at hb2
    obtain ⟨x, _, rfl⟩ := hb2
    split <;> decide
  rw [this]
  simp
def usedB (p : List ByteArray) (d : Bool) (x y : Nat) : Bool := hsI p x y && (hsI p (otX x d) (otY y d) && decide (0 < cntV (drawnL p fun (x' y' : Nat) => minB p ((x : Int), (y : Int)) (otX x d, otY y d) ((x' : Int), (y' : Int)))))
theorem used69_any {F : MS} {p : List ByteArray} {A : Option Addr} {c b1 b2 : Nat} {d : Bool} {x y : Nat} {w : World} (hr : RdS F RT.str p (.slice A p.length c)) (hp : RegOk p) (hb : F.at b1 0 (.bool d))
    (hg : F.at b2 0 (.int .i64 (wd p)) ∧ F.at b2 1 (.int .i64 p.length) ∧ F.at b2 2 (.slice A p.length c)) (hH : Has w F) (hx : x < wd p) (hy : y < p.length) :
    Calls Tryd.prog 69 #[.agg #[.int .i64 (x : Int), .int .i64 (y : Int)], .pointer (some ⟨b1, 0, none⟩), .pointer (some ⟨b2, 0, none⟩)] w fun e w' => e = .returned (.bool (usedB p d x y)) ∧ Kp w w' := by
  have hw8 := hp.w8
  have hh8 := hp.h8
  have hra := rd_all_str hr hH
  have hg' : (MS.all w).at b2 0 (.int .i64 (wd p)) ∧ (MS.all w).at b2 1 (.int .i64 p.length) ∧ (MS.all w).at b2 2 (.slice A p.length c) := ⟨at_all hg.1 hH, at_all hg.2.1 hH, at_all hg.2.2 hH⟩
  have hb' := at_all hb hH
  obtain ⟨fm, hfm⟩ : ∃ fm : Nat → Nat → Bool, fm = fun (x' y' : Nat) => minB p ((x : Int), (y : Int)) (otX x d, otY y d) ((x' : Int), (y' : Int)) := ⟨_, rfl⟩
  have Hu := hid (show usedB p d x y = (hsI p x y && (hsI p (otX x d) (otY y d) && decide (0 < cntV (drawnL p fm)))) by rw [hfm]; rfl)
  have hreg := drawn_reg hp fm
  have hcv : cntV (drawnL p fm) = waysV (drawnL p fm) 0 0 := by unfold cntV; rw [hreg]; rfl
  have hok := (isReg.ok hreg).1
  have hwle := ways_le hok (at' := 0) (cov := 0) (Nat.zero_le _) (Nat.two_pow_pos _)
  have Hhas := hid (fun (W : World) (hW : Has W (MS.all w)) (x y : Int) => show Calls Tryd.prog 47 #[.agg #[.int .i64 (wd p), .int .i64 p.length, .slice A p.length c], .int .i64 x, .int .i64 y] W fun e w' => e = .returned (.bool (hsI p x y)) ∧ Kp W w' from has_any hra hp hW x y)
  have Hmin := hid (fun (b0 b6 : Nat) (W : World) (hW : Has W (blk b6 #[.int .i64 (otX x d), .int .i64 (otY y d)] 66 + (blk b0 #[.int .i64 (x : Int), .int .i64 (y : Int)] 66 + MS.all w))) (x' y' : Nat) => show Calls Tryd.prog 70 #[.agg #[.int .i64 (x' : Int), .int .i64 (y' : Int)], .pointer (some ⟨b0, 0, none⟩), .pointer (some ⟨b6, 0, none⟩), .pointer (some ⟨b2, 0, none⟩)] W fun e w' => e = .returned (.bool (fm x' y')) ∧ Kp W w' from by
    rw [hfm]
    exact min_any (F := blk b6 #[.int .i64 (otX x d), .int .i64 (otY y d)] 66 + (blk b0 #[.int .i64 (x : Int), .int .i64 (y : Int)] 66 + MS.all w)) ((hra.more _).more _) hp ⟨(MS.at.less (blk_at rfl) _).more _, (MS.at.less (blk_at rfl) _).more _⟩ ⟨MS.at.less (blk_at rfl) _, MS.at.less (blk_at rfl) _⟩ ⟨(hg'.1.more _).more _, (hg'.2.1.more _).more _, (hg'.2.2.more _).more _⟩ hW)
  have Hdr := hid (fun (b0 b6 : Nat) (W : World) (hW : Has W (blk b6 #[.int .i64 (otX x d), .int .i64 (otY y d)] 66 + (blk b0 #[.int .i64 (x : Int), .int .i64 (y : Int)] 66 + MS.all w))) => show Calls Tryd.prog 65 #[.agg #[.int .i64 (wd p), .int .i64 p.length, .slice A p.length c], .func (.func 70) #[] #[.pointer (some ⟨b0, 0, none⟩), .pointer (some ⟨b6, 0, none⟩), .pointer (some ⟨b2, 0, none⟩)]] W fun e w' => ∃ v m, e = .returned v ∧ SlR 9 1 StrR (drawnL p fm) v m ∧ (∀ M, Has W M → Has w' (m + M)) ∧ Ext W w' from
    drawn_70 (F := MS.all w) hp fm (fun W' hW' x' y' _ _ => Hmin.out b0 b6 W' (hW.of_all (X := 0) (by rw [MS.zero_add]; exact hW')) x' y'))
  obtain ⟨q, hq⟩ : ∃ q, q = drawnL p fm := ⟨_, rfl⟩
  rw [← hq] at Hu hreg hcv hok hwle Hdr
  have Hof := hid (fun (W : World) (m : MS) (A' : Option Addr) (c' : Nat) (hm : RdS m RT.str q (.slice A' q.length c')) (hW : Has W m) => show Calls Tryd.prog 32 #[.slice A' q.length c'] W fun e w' => e = .returned (.tuple #[.agg #[.int .i64 (wd q), .int .i64 q.length, .slice A' q.length c'], .bool true]) ∧ Kp W w' from by
    have h := of_any hm (by have := hok.h8; omega) (fun s hs => by have := hok.rows s hs; have := hok.w8; omega) hW
    rw [show regV q A' c' = rgV q A' c' by unfold regV; rw [hreg]; rfl, hreg] at h
    exact h)
  have Hcn := hid (fun (W : World) (A' : Option Addr) (c' : Nat) => show Calls Tryd.prog 33 #[.agg #[.int .i64 (wd q), .int .i64 q.length, .slice A' q.length c']] W fun e w' => ∃ g, e = .returned (.agg #[.int .i64 (wd q), .int .i64 q.length, .slice A' q.length c', .map (some g)]) ∧ (∀ M, Has W M → Has w' (pts g (.map #[] 0) + M)) ∧ Ext W w' from counter_any q A' c' W)
  have Hfr := hid (fun (g : Nat) (W : World) (m : MS) (A' : Option Addr) (c' : Nat) (hm : RdS m RT.str q (.slice A' q.length c')) (hW : Has W (pts g (.map #[] 0) + m)) => show Calls Tryd.prog 34 #[.agg #[.int .i64 (wd q), .int .i64 q.length, .slice A' q.length c', .map (some g)], .agg #[.int .i64 0, .int .i64 0]] W (FromPost q g W #[] 0 0 0) from from_any hok A' c' g (wd q * q.length) m W [] #[] 0 0 0 hm hW EntsAre.none (MemoOk.nil q) (by omega) (Nat.two_pow_pos _))
  obtain ⟨CN, hCN⟩ : ∃ CN : Int, CN = ((waysV q 0 0 : Nat) : Int) := ⟨_, rfl⟩
  have HCN := hid hCN
  have HP := hid (show (0 < cntV q) ↔ (0 < CN) by rw [hcv, hCN]; omega)
  have Hot := hid (fun (W : World) => other_any (x : Int) (y : Int) d (by omega) (by omega) W)
  obtain ⟨R, hR⟩ : ∃ R, R = usedB p d x y := ⟨_, rfl⟩
  rw [← hR]
  rw [← hR] at Hu
  have HB0 := hid (show Has (w.alloc (.cells #[.int .i64 (x : Int), .int .i64 (y : Int)] 66)) (blk w.heap.size #[.int .i64 (x : Int), .int .i64 (y : Int)] 66 + MS.all w) from (Has.all w).alloc _)
  have HA5 := hid (show Has ((w.alloc (.cells #[.int .i64 (x : Int), .int .i64 (y : Int)] 66)).alloc (.cells #[.int .i64 0, .int .i64 0, .bool false] 40)) (blk (w.heap.size + 1) #[.int .i64 0, .int .i64 0, .bool false] 40 + (blk w.heap.size #[.int .i64 (x : Int), .int .i64 (y : Int)] 66 + MS.all w)) by
    have h := HB0.out.alloc (.cells #[.int .i64 0, .int .i64 0, .bool false] 40)
    rw [show (w.alloc (.cells #[.int .i64 (x : Int), .int .i64 (y : Int)] 66)).heap.size = w.heap.size + 1 by simp] at h
    exact h)
  have HE5 := hid ((Ext.alloc w (.cells #[.int .i64 (x : Int), .int .i64 (y : Int)] 66)).trans (Ext.alloc _ (.cells #[.int .i64 0, .int .i64 0, .bool false] 40)))
  have f0 := hb'.c0 HB0.out.right
  have Hg := hid hg'
  have Hall := hid (show ∀ W, Has W (MS.all w) → (W.cell? ⟨b2, 0, none⟩ = some (.int .i64 (wd p)) ∧ W.cell? ⟨b2, 1, none⟩ = some (.int .i64 p.length) ∧ W.cell? ⟨b2, 2, none⟩ = some (.slice A p.length c)) from fun W h => ⟨hg'.1.c0 h, hg'.2.1.c0 h, hg'.2.2.c0 h⟩)
  obtain ⟨WW, hWW⟩ : ∃ WW : Int, WW = (wd p : Int) := ⟨_, rfl⟩
  obtain ⟨HHI, hHI⟩ : ∃ HHI : Int, HHI = (p.length : Int) := ⟨_, rfl⟩
  rw [← hWW, ← hHI] at Hhas Hdr Hall
  obtain ⟨WL, hWL⟩ : ∃ WL : Int, WL = (wd q : Int) := ⟨_, rfl⟩
  obtain ⟨HL, hHL⟩ : ∃ HL : Int, HL = (q.length : Int) := ⟨_, rfl⟩
  rw [← hWL, ← hHL] at Hof Hcn Hfr
  obtain ⟨ox, hox⟩ : ∃ ox, ox = otX x d := ⟨_, rfl⟩
  obtain ⟨oy, hoy⟩ : ∃ oy, oy = otY y d := ⟨_, rfl⟩
  rw [← hox, ← hoy] at Hot Hdr Hu
  obtain ⟨XI, hXI⟩ : ∃ XI : Int, XI = (x : Int) := ⟨_, rfl⟩
  obtain ⟨YI, hYI⟩ : ∃ YI : Int, YI = (y : Int) := ⟨_, rfl⟩
  rw [← hXI, ← hYI] at Hot Hdr HB0 HA5 HE5 f0 Hu ⊢
  have Hh1 := hid (fun (W : World) (hW : Has W (MS.all w)) => Hhas.out W hW XI YI)
  have Hh2 := hid (fun (W : World) (hW : Has W (MS.all w)) => Hhas.out W hW ox oy)
  clear Hhas
  generalize hsI p XI YI = q1 at *
  generalize hsI p ox oy = q2 at *
  clear hr hp hb hg hH hx hy hw8 hh8 hra hg' hb' hfm hreg hcv hok hwle Hmin hq hCN hR hWW hHI hWL hHL hox hoy hXI hYI
  cases q1 with
  | false =>
    have HR := hid (show R = false by rw [Hu.out]; rfl)
    clear Hu
    go_enter Tryd.func69, Tryd.ntmps69
    go_wp2_with (first
      | (refine wpList_store_whole rfl (.tmp 5) (.tmp 14) 40 rfl 3 size40d (w.heap.size + 1) (.agg #[.int .i64 XI, .int .i64 YI, .bool d]) rfl rfl rfl (by simp [Value.cells, Value.oneCell']) #[.int .i64 0, .int .i64 0, .bool false] 40 _ HA5.out rfl ?_; intro w5 j1 j2; have H5 := hid (show Has w5 (blk (w.heap.size + 1) #[.int .i64 XI, .int .i64 YI, .bool d] 40 + (blk w.heap.size #[.int .i64 XI, .int .i64 YI] 66 + MS.all w)) from j1); have E5 := hid (HE5.out.trans j2); have e0 := H5.out.at_ (i := 0) rfl; have e1 := H5.out.at_ (i := 1) rfl; have e2 := H5.out.at_ (i := 2) rfl; clear j1 j2 f0)
      | (go_at_call 62; refine (Hot.out w5).mono ?_; rintro e6 w6 ⟨rfl, k6⟩; have H6 := hid (k6.1 _ H5.out); have E6 := hid (E5.out.trans k6.2); obtain ⟨b6, hb6⟩ : ∃ b6, b6 = w6.heap.size := ⟨_, rfl⟩; have HA6 := hid (show Has (w6.alloc (.cells #[.int .i64 0, .int .i64 0] 66)) (blk b6 #[.int .i64 0, .int .i64 0] 66 + (blk (w.heap.size + 1) #[.int .i64 XI, .int .i64 YI, .bool d] 40 + (blk w.heap.size #[.int .i64 XI, .int .i64 YI] 66 + MS.all w))) by rw [hb6]; exact H6.out.alloc _); have Hb6 := hid hb6; clear k6 hb6 e0 e1 e2)
      | (rw [← Hb6.out]; refine wpList_store_whole rfl (.tmp 6) (.tmp 16) 66 rfl 2 size66 b6 (.agg #[.int .i64 ox, .int .i64 oy]) rfl rfl rfl (by simp [Value.cells, Value.oneCell']) #[.int .i64 0, .int .i64 0] 66 _ HA6.out rfl ?_; intro w7 j1 j2; have H7 := hid (show Has w7 (blk b6 #[.int .i64 ox, .int .i64 oy] 66 + (blk (w.heap.size + 1) #[.int .i64 XI, .int .i64 YI, .bool d] 40 + (blk w.heap.size #[.int .i64 XI, .int .i64 YI] 66 + MS.all w))) from j1); have E7 := hid ((E6.out.trans (Ext.alloc _ _)).trans j2); obtain ⟨g0, g1, g2⟩ := Hall.out w7 H7.out.right.right.right; have c0 := H7.out.right.right.at_ (i := 0) rfl; have c1 := H7.out.right.right.at_ (i := 1) rfl; clear j1 j2)
      | (go_at_call 47; refine (Hh1.out w7 H7.out.right.right.right).mono ?_; rintro e8 w8 ⟨rfl, k8⟩; have H8 := hid (k8.1 _ H7.out); have E8 := hid (E7.out.trans k8.2); obtain ⟨g0', g1', g2'⟩ := Hall.out w8 H8.out.right.right.right; have o0 := H8.out.at_ (i := 0) rfl; have o1 := H8.out.at_ (i := 1) rfl; clear k8 g0 g1 g2 c0 c1))
    go_ret
    exact ⟨by rw [HR.out]; rfl, fun M hM => hM.of_all (H8.out.eq (b := (blk b6 #[.int .i64 ox, .int .i64 oy] 66 + (blk (w.heap.size + 1) #[.int .i64 XI, .int .i64 YI, .bool d] 40 + blk w.heap.size #[.int .i64 XI, .int .i64 YI] 66)) + MS.all w) (by ac_rfl)), E8.out⟩
  | true =>
    cases q2 with
    | false =>
      have HR := hid (show R = false by rw [Hu.out]; rfl)
      clear Hu
      go_enter Tryd.func69, Tryd.ntmps69
      go_wp2_with (first
        | (go_at_call 47; have kk := H8; clear kk; refine (Hh2.out w8 H8.out.right.right.right).mono ?_; rintro e9 w9 ⟨rfl, k9⟩; have H9 := hid (k9.1 _ H8.out); have E9 := hid (E8.out.trans k9.2); obtain ⟨g0, g1, g2⟩ := Hall.out w9 H9.out.right.right.right; clear k9 g0' g1' g2' o0 o1)
        | (refine wpList_store_whole rfl (.tmp 5) (.tmp 14) 40 rfl 3 size40d (w.heap.size + 1) (.agg #[.int .i64 XI, .int .i64 YI, .bool d]) rfl rfl rfl (by simp [Value.cells, Value.oneCell']) #[.int .i64 0, .int .i64 0, .bool false] 40 _ HA5.out rfl ?_; intro w5 j1 j2; have H5 := hid (show Has w5 (blk (w.heap.size + 1) #[.int .i64 XI, .int .i64 YI, .bool d] 40 + (blk w.heap.size #[.int .i64 XI, .int .i64 YI] 66 + MS.all w)) from j1); have E5 := hid (HE5.out.trans j2); have e0 := H5.out.at_ (i := 0) rfl; have e1 := H5.out.at_ (i := 1) rfl; have e2 := H5.out.at_ (i := 2) rfl; clear j1 j2 f0)
        | (go_at_call 62; refine (Hot.out w5).mono ?_; rintro e6 w6 ⟨rfl, k6⟩; have H6 := hid (k6.1 _ H5.out); have E6 := hid (E5.out.trans k6.2); obtain ⟨b6, hb6⟩ : ∃ b6, b6 = w6.heap.size := ⟨_, rfl⟩; have HA6 := hid (show Has (w6.alloc (.cells #[.int .i64 0, .int .i64 0] 66)) (blk b6 #[.int .i64 0, .int .i64 0] 66 + (blk (w.heap.size + 1) #[.int .i64 XI, .int .i64 YI, .bool d] 40 + (blk w.heap.size #[.int .i64 XI, .int .i64 YI] 66 + MS.all w))) by rw [hb6]; exact H6.out.alloc _); have Hb6 := hid hb6; clear k6 hb6 e0 e1 e2)
        | (rw [← Hb6.out]; refine wpList_store_whole rfl (.tmp 6) (.tmp 16) 66 rfl 2 size66 b6 (.agg #[.int .i64 ox, .int .i64 oy]) rfl rfl rfl (by simp [Value.cells, Value.oneCell']) #[.int .i64 0, .int .i64 0] 66 _ HA6.out rfl ?_; intro w7 j1 j2; have H7 := hid (show Has w7 (blk b6 #[.int .i64 ox, .int .i64 oy] 66 + (blk (w.heap.size + 1) #[.int .i64 XI, .int .i64 YI, .bool d] 40 + (blk w.heap.size #[.int .i64 XI, .int .i64 YI] 66 + MS.all w))) from j1); have E7 := hid ((E6.out.trans (Ext.alloc _ _)).trans j2); obtain ⟨g0, g1, g2⟩ := Hall.out w7 H7.out.right.right.right; have c0 := H7.out.right.right.at_ (i := 0) rfl; have c1 := H7.out.right.right.at_ (i := 1) rfl; clear j1 j2)
        | (go_at_call 47; refine (Hh1.out w7 H7.out.right.right.right).mono ?_; rintro e8 w8 ⟨rfl, k8⟩; have H8 := hid (k8.1 _ H7.out); have E8 := hid (E7.out.trans k8.2); obtain ⟨g0', g1', g2'⟩ := Hall.out w8 H8.out.right.right.right; have o0 := H8.out.at_ (i := 0) rfl; have o1 := H8.out.at_ (i := 1) rfl; clear k8 g0 g1 g2 c0 c1))
      go_ret
      exact ⟨by rw [HR.out]; rfl, fun M hM => hM.of_all (H9.out.eq (b := (blk b6 #[.int .i64 ox, .int .i64 oy] 66 + (blk (w.heap.size + 1) #[.int .i64 XI, .int .i64 YI, .bool d] 40 + blk w.heap.size #[.int .i64 XI, .int .i64 YI] 66)) + MS.all w) (by ac_rfl)), E9.out⟩
    | true =>
      by_cases hcn : 0 < CN
      · have HR := hid (show R = true by rw [Hu.out, decide_eq_true (HP.out.2 hcn)]; rfl)
        clear Hu
        go_enter Tryd.func69, Tryd.ntmps69
        go_wp2_with (first
          | (go_at_call 47; have kk := H8; clear kk; refine (Hh2.out w8 H8.out.right.right.right).mono ?_; rintro e9 w9 ⟨rfl, k9⟩; have H9 := hid (k9.1 _ H8.out); have E9 := hid (E8.out.trans k9.2); obtain ⟨g0, g1, g2⟩ := Hall.out w9 H9.out.right.right.right; clear k9 g0' g1' g2' o0 o1)
          | (refine wpList_store_whole rfl (.tmp 5) (.tmp 14) 40 rfl 3 size40d (w.heap.size + 1) (.agg #[.int .i64 XI, .int .i64 YI, .bool d]) rfl rfl rfl (by simp [Value.cells, Value.oneCell']) #[.int .i64 0, .int .i64 0, .bool false] 40 _ HA5.out rfl ?_; intro w5 j1 j2; have H5 := hid (show Has w5 (blk (w.heap.size + 1) #[.int .i64 XI, .int .i64 YI, .bool d] 40 + (blk w.heap.size #[.int .i64 XI, .int .i64 YI] 66 + MS.all w)) from j1); have E5 := hid (HE5.out.trans j2); have e0 := H5.out.at_ (i := 0) rfl; have e1 := H5.out.at_ (i := 1) rfl; have e2 := H5.out.at_ (i := 2) rfl; clear j1 j2 f0)
          | (go_at_call 62; refine (Hot.out w5).mono ?_; rintro e6 w6 ⟨rfl, k6⟩; have H6 := hid (k6.1 _ H5.out); have E6 := hid (E5.out.trans k6.2); obtain ⟨b6, hb6⟩ : ∃ b6, b6 = w6.heap.size := ⟨_, rfl⟩; have HA6 := hid (show Has (w6.alloc (.cells #[.int .i64 0, .int .i64 0] 66)) (blk b6 #[.int .i64 0, .int .i64 0] 66 + (blk (w.heap.size + 1) #[.int .i64 XI, .int .i64 YI, .bool d] 40 + (blk w.heap.size #[.int .i64 XI, .int .i64 YI] 66 + MS.all w))) by rw [hb6]; exact H6.out.alloc _); have Hb6 := hid hb6; clear k6 hb6 e0 e1 e2)
          | (rw [← Hb6.out]; refine wpList_store_whole rfl (.tmp 6) (.tmp 16) 66 rfl 2 size66 b6 (.agg #[.int .i64 ox, .int .i64 oy]) rfl rfl rfl (by simp [Value.cells, Value.oneCell']) #[.int .i64 0, .int .i64 0] 66 _ HA6.out rfl ?_; intro w7 j1 j2; have H7 := hid (show Has w7 (blk b6 #[.int .i64 ox, .int .i64 oy] 66 + (blk (w.heap.size + 1) #[.int .i64 XI, .int .i64 YI, .bool d] 40 + (blk w.heap.size #[.int .i64 XI, .int .i64 YI] 66 + MS.all w))) from j1); have E7 := hid ((E6.out.trans (Ext.alloc _ _)).trans j2); obtain ⟨g0, g1, g2⟩ := Hall.out w7 H7.out.right.right.right; have c0 := H7.out.right.right.at_ (i := 0) rfl; have c1 := H7.out.right.right.at_ (i := 1) rfl; clear j1 j2)
          | (go_at_call 47; refine (Hh1.out w7 H7.out.right.right.right).mono ?_; rintro e8 w8 ⟨rfl, k8⟩; have H8 := hid (k8.1 _ H7.out); have E8 := hid (E7.out.trans k8.2); obtain ⟨g0', g1', g2'⟩ := Hall.out w8 H8.out.right.right.right; have o0 := H8.out.at_ (i := 0) rfl; have o1 := H8.out.at_ (i := 1) rfl; clear k8 g0 g1 g2 c0 c1)
          | (go_at_call 65; refine (Hdr.out w.heap.size b6 w9 ((H9.out.eq (b := (blk b6 #[.int .i64 ox, .int .i64 oy] 66 + (blk w.heap.size #[.int .i64 XI, .int .i64 YI] 66 + MS.all w)) + blk (w.heap.size + 1) #[.int .i64 XI, .int .i64 YI, .bool d] 40) (by ac_rfl)).left)).mono ?_; rintro e10 w10 ⟨v, m, rfl, hs, k10, l10⟩; obtain ⟨A', c', rfl, _⟩ := SlR.form hs; have HRd := hid (show RdS m RT.str q (.slice A' q.length c') from SlR.rd (R := StrR) (T := RT.str) (fun a cs m h => h.1) hs); have H10 := hid (k10 _ H9.out); have E10 := hid (E9.out.trans l10); clear hs k10 l10 g0 g1 g2)
          | (go_at_call 32; refine (Hof.out w10 m A' c' HRd.out H10.out.left).mono ?_; rintro e11 w11 ⟨rfl, k11⟩; have H11 := hid (k11.1 _ H10.out); have E11 := hid (E10.out.trans k11.2); obtain ⟨b7, hb7⟩ : ∃ b7, b7 = w11.heap.size := ⟨_, rfl⟩; have HA7 := hid (show Has (w11.alloc (.cells #[.int .i64 0, .int .i64 0, .slice none 0 0] 51)) (blk b7 #[.int .i64 0, .int .i64 0, .slice none 0 0] 51 + (m + (blk b6 #[.int .i64 ox, .int .i64 oy] 66 + (blk (w.heap.size + 1) #[.int .i64 XI, .int .i64 YI, .bool d] 40 + (blk w.heap.size #[.int .i64 XI, .int .i64 YI] 66 + MS.all w))))) by rw [hb7]; exact H11.out.alloc _); have Hb7 := hid hb7; clear k11 hb7)
          | (rw [← Hb7.out]; refine wpList_store_whole rfl (.tmp 7) (.tmp 38) 51 rfl 3 size51 b7 (.agg #[.int .i64 WL, .int .i64 HL, .slice A' q.length c']) rfl rfl rfl (by simp [Value.cells, Value.oneCell']) #[.int .i64 0, .int .i64 0, .slice none 0 0] 51 _ HA7.out rfl ?_; intro w12 j1 j2; have H12 := hid (show Has w12 (blk b7 #[.int .i64 WL, .int .i64 HL, .slice A' q.length c'] 51 + (m + (blk b6 #[.int .i64 ox, .int .i64 oy] 66 + (blk (w.heap.size + 1) #[.int .i64 XI, .int .i64 YI, .bool d] 40 + (blk w.heap.size #[.int .i64 XI, .int .i64 YI] 66 + MS.all w))))) from j1); have E12 := hid ((E11.out.trans (Ext.alloc _ _)).trans j2); have s0 := H12.out.at_ (i := 0) rfl; have s1 := H12.out.at_ (i := 1) rfl; have s2 := H12.out.at_ (i := 2) rfl; clear j1 j2)
          | (go_at_call 33; refine (Hcn.out w12 A' c').mono ?_; rintro e13 w13 ⟨g, rfl, k13, l13⟩; have H13 := hid (k13 _ H12.out); have E13 := hid (E12.out.trans l13); clear k13 l13 s0 s1 s2)
          | (go_at_call 34; refine (Hfr.out g w13 m A' c' HRd.out ((H13.out.eq (b := pts g (.map #[] 0) + m + (blk b7 #[.int .i64 WL, .int .i64 HL, .slice A' q.length c'] 51 + (blk b6 #[.int .i64 ox, .int .i64 oy] 66 + (blk (w.heap.size + 1) #[.int .i64 XI, .int .i64 YI, .bool d] 40 + (blk w.heap.size #[.int .i64 XI, .int .i64 YI] 66 + MS.all w))))) (by ac_rfl)).left)).mono ?_; rintro e14 w14 ⟨rfl, S2, es2, clock2, z1, z2, z3, z4⟩; rw [← HCN.out]; have H14 := hid (z3 _ H13.out); have E14 := hid (E13.out.trans z4); clear z1 z2 z3 z4))
        go_ret
        exact ⟨by rw [HR.out]; first | rfl | simp [hcn], fun M hM => hM.of_all (H14.out.right.right.right.right.right.right.eq (b := 0 + MS.all w) (by rw [MS.zero_add])), E14.out⟩
      · have HR := hid (show R = false by rw [Hu.out, decide_eq_false (fun h => hcn (HP.out.1 h))]; rfl)
        clear Hu
        go_enter Tryd.func69, Tryd.ntmps69
        go_wp2_with (first
          | (go_at_call 47; have kk := H8; clear kk; refine (Hh2.out w8 H8.out.right.right.right).mono ?_; rintro e9 w9 ⟨rfl, k9⟩; have H9 := hid (k9.1 _ H8.out); have E9 := hid (E8.out.trans k9.2); obtain ⟨g0, g1, g2⟩ := Hall.out w9 H9.out.right.right.right; clear k9 g0' g1' g2' o0 o1)
          | (refine wpList_store_whole rfl (.tmp 5) (.tmp 14) 40 rfl 3 size40d (w.heap.size + 1) (.agg #[.int .i64 XI, .int .i64 YI, .bool d]) rfl rfl rfl (by simp [Value.cells, Value.oneCell']) #[.int .i64 0, .int .i64 0, .bool false] 40 _ HA5.out rfl ?_; intro w5 j1 j2; have H5 := hid (show Has w5 (blk (w.heap.size + 1) #[.int .i64 XI, .int .i64 YI, .bool d] 40 + (blk w.heap.size #[.int .i64 XI, .int .i64 YI] 66 + MS.all w)) from j1); have E5 := hid (HE5.out.trans j2); have e0 := H5.out.at_ (i := 0) rfl; have e1 := H5.out.at_ (i := 1) rfl; have e2 := H5.out.at_ (i := 2) rfl; clear j1 j2 f0)
          | (go_at_call 62; refine (Hot.out w5).mono ?_; rintro e6 w6 ⟨rfl, k6⟩; have H6 := hid (k6.1 _ H5.out); have E6 := hid (E5.out.trans k6.2); obtain ⟨b6, hb6⟩ : ∃ b6, b6 = w6.heap.size := ⟨_, rfl⟩; have HA6 := hid (show Has (w6.alloc (.cells #[.int .i64 0, .int .i64 0] 66)) (blk b6 #[.int .i64 0, .int .i64 0] 66 + (blk (w.heap.size + 1) #[.int .i64 XI, .int .i64 YI, .bool d] 40 + (blk w.heap.size #[.int .i64 XI, .int .i64 YI] 66 + MS.all w))) by rw [hb6]; exact H6.out.alloc _); have Hb6 := hid hb6; clear k6 hb6 e0 e1 e2)
          | (rw [← Hb6.out]; refine wpList_store_whole rfl (.tmp 6) (.tmp 16) 66 rfl 2 size66 b6 (.agg #[.int .i64 ox, .int .i64 oy]) rfl rfl rfl (by simp [Value.cells, Value.oneCell']) #[.int .i64 0, .int .i64 0] 66 _ HA6.out rfl ?_; intro w7 j1 j2; have H7 := hid (show Has w7 (blk b6 #[.int .i64 ox, .int .i64 oy] 66 + (blk (w.heap.size + 1) #[.int .i64 XI, .int .i64 YI, .bool d] 40 + (blk w.heap.size #[.int .i64 XI, .int .i64 YI] 66 + MS.all w))) from j1); have E7 := hid ((E6.out.trans (Ext.alloc _ _)).trans j2); obtain ⟨g0, g1, g2⟩ := Hall.out w7 H7.out.right.right.right; have c0 := H7.out.right.right.at_ (i := 0) rfl; have c1 := H7.out.right.right.at_ (i := 1) rfl; clear j1 j2)
          | (go_at_call 47; refine (Hh1.out w7 H7.out.right.right.right).mono ?_; rintro e8 w8 ⟨rfl, k8⟩; have H8 := hid (k8.1 _ H7.out); have E8 := hid (E7.out.trans k8.2); obtain ⟨g0', g1', g2'⟩ := Hall.out w8 H8.out.right.right.right; have o0 := H8.out.at_ (i := 0) rfl; have o1 := H8.out.at_ (i := 1) rfl; clear k8 g0 g1 g2 c0 c1)
          | (go_at_call 65; refine (Hdr.out w.heap.size b6 w9 ((H9.out.eq (b := (blk b6 #[.int .i64 ox, .int .i64 oy] 66 + (blk w.heap.size #[.int .i64 XI, .int .i64 YI] 66 + MS.all w)) + blk (w.heap.size + 1) #[.int .i64 XI, .int .i64 YI, .bool d] 40) (by ac_rfl)).left)).mono ?_; rintro e10 w10 ⟨v, m, rfl, hs, k10, l10⟩; obtain ⟨A', c', rfl, _⟩ := SlR.form hs; have HRd := hid (show RdS m RT.str q (.slice A' q.length c') from SlR.rd (R := StrR) (T := RT.str) (fun a cs m h => h.1) hs); have H10 := hid (k10 _ H9.out); have E10 := hid (E9.out.trans l10); clear hs k10 l10 g0 g1 g2)
          | (go_at_call 32; refine (Hof.out w10 m A' c' HRd.out H10.out.left).mono ?_; rintro e11 w11 ⟨rfl, k11⟩; have H11 := hid (k11.1 _ H10.out); have E11 := hid (E10.out.trans k11.2); obtain ⟨b7, hb7⟩ : ∃ b7, b7 = w11.heap.size := ⟨_, rfl⟩; have HA7 := hid (show Has (w11.alloc (.cells #[.int .i64 0, .int .i64 0, .slice none 0 0] 51)) (blk b7 #[.int .i64 0, .int .i64 0, .slice none 0 0] 51 + (m + (blk b6 #[.int .i64 ox, .int .i64 oy] 66 + (blk (w.heap.size + 1) #[.int .i64 XI, .int .i64 YI, .bool d] 40 + (blk w.heap.size #[.int .i64 XI, .int .i64 YI] 66 + MS.all w))))) by rw [hb7]; exact H11.out.alloc _); have Hb7 := hid hb7; clear k11 hb7)
          | (rw [← Hb7.out]; refine wpList_store_whole rfl (.tmp 7) (.tmp 38) 51 rfl 3 size51 b7 (.agg #[.int .i64 WL, .int .i64 HL, .slice A' q.length c']) rfl rfl rfl (by simp [Value.cells, Value.oneCell']) #[.int .i64 0, .int .i64 0, .slice none 0 0] 51 _ HA7.out rfl ?_; intro w12 j1 j2; have H12 := hid (show Has w12 (blk b7 #[.int .i64 WL, .int .i64 HL, .slice A' q.length c'] 51 + (m + (blk b6 #[.int .i64 ox, .int .i64 oy] 66 + (blk (w.heap.size + 1) #[.int .i64 XI, .int .i64 YI, .bool d] 40 + (blk w.heap.size #[.int .i64 XI, .int .i64 YI] 66 + MS.all w))))) from j1); have E12 := hid ((E11.out.trans (Ext.alloc _ _)).trans j2); have s0 := H12.out.at_ (i := 0) rfl; have s1 := H12.out.at_ (i := 1) rfl; have s2 := H12.out.at_ (i := 2) rfl; clear j1 j2)
          | (go_at_call 33; refine (Hcn.out w12 A' c').mono ?_; rintro e13 w13 ⟨g, rfl, k13, l13⟩; have H13 := hid (k13 _ H12.out); have E13 := hid (E12.out.trans l13); clear k13 l13 s0 s1 s2)
          | (go_at_call 34; refine (Hfr.out g w13 m A' c' HRd.out ((H13.out.eq (b := pts g (.map #[] 0) + m + (blk b7 #[.int .i64 WL, .int .i64 HL, .slice A' q.length c'] 51 + (blk b6 #[.int .i64 ox, .int .i64 oy] 66 + (blk (w.heap.size + 1) #[.int .i64 XI, .int .i64 YI, .bool d] 40 + (blk w.heap.size #[.int .i64 XI, .int .i64 YI] 66 + MS.all w))))) (by ac_rfl)).left)).mono ?_; rintro e14 w14 ⟨rfl, S2, es2, clock2, z1, z2, z3, z4⟩; rw [← HCN.out]; have H14 := hid (z3 _ H13.out); have E14 := hid (E13.out.trans z4); clear z1 z2 z3 z4))
        go_ret
        exact ⟨by rw [HR.out]; first | rfl | simp [hcn], fun M hM => hM.of_all (H14.out.right.right.right.right.right.right.eq (b := 0 + MS.all w) (by rw [MS.zero_add])), E14.out⟩
end Go.Proofs.YtcdhimnmbpllgaaDoor

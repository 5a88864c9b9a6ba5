/-
  The walk of Used.
-/
import Derived.Test.YtcdhimnmbpllgaaDoorDD3
namespace Go.Proofs.YtcdhimnmbpllgaaDoor
open Go.RowKit Go.MapKept Go.ChangeMaps
set_option linter.unusedVariables false
set_option linter.unusedSimpArgs false
set_option maxHeartbeats 4000000
set_option maxRecDepth 100000

theorem used68_any {F : MS} {p : List ByteArray} {A : Option Addr} {c b2 : Nat} {d : Bool} {w : World} (hr : RdS F RT.str p (.slice A p.length c)) (hp : RegOk p)
    (hg : F.at b2 0 (.int .i64 (wd p)) ∧ F.at b2 1 (.int .i64 p.length) ∧ F.at b2 2 (.slice A p.length c)) (hH : Has w F) :
    Calls Tryd.prog 68 #[.bool d, .pointer (some ⟨b2, 0, none⟩)] w fun e w' => ∃ v m, e = .returned v ∧ SlR 9 1 StrR (drawnL p (usedB p d)) v m ∧ (∀ M, Has w M → Has w' (m + M)) ∧ Ext w w' := by
  have hra := rd_all_str hr hH
  have hg' : (MS.all w).at b2 0 (.int .i64 (wd p)) ∧ (MS.all w).at b2 1 (.int .i64 p.length) ∧ (MS.all w).at b2 2 (.slice A p.length c) := ⟨at_all hg.1 hH, at_all hg.2.1 hH, at_all hg.2.2 hH⟩
  have HA := hid (show Has (w.alloc (.cells #[.bool d] 4)) (blk w.heap.size #[.bool d] 4 + MS.all w) from (Has.all w).alloc _)
  have HE := hid (Ext.alloc w (.cells #[.bool d] 4))
  have Hdr := hid (show Calls Tryd.prog 65 #[.agg #[.int .i64 (wd p), .int .i64 p.length, .slice A p.length c], .func (.func 69) #[] #[.pointer (some ⟨w.heap.size, 0, none⟩), .pointer (some ⟨b2, 0, none⟩)]] (w.alloc (.cells #[.bool d] 4)) fun e w' => ∃ v m, e = .returned v ∧ SlR 9 1 StrR (drawnL p (usedB p d)) v m ∧ (∀ M, Has (w.alloc (.cells #[.bool d] 4)) M → Has w' (m + M)) ∧ Ext (w.alloc (.cells #[.bool d] 4)) w' from
    drawn_69 (F := MS.all w) hp (usedB p d) (fun W' hW' x' y' hx hy => used69_any (F := blk w.heap.size #[.bool d] 4 + MS.all w) (hra.more _) hp (MS.at.less (blk_at rfl) _) ⟨hg'.1.more _, hg'.2.1.more _, hg'.2.2.more _⟩ (HA.out.of_all (X := 0) (by rw [MS.zero_add]; exact hW')) hx hy))
  have f0 := hg'.1.c0 HA.out.right
  have f1 := hg'.2.1.c0 HA.out.right
  have f2 := hg'.2.2.c0 HA.out.right
  generalize (wd p : Int) = WW at *
  generalize (p.length : Int) = HHI at *
  clear hr hp hg hH hra hg'
  go_enter Tryd.func68, Tryd.ntmps68
  go_wp2_with (go_at_call 65; refine Hdr.out.mono ?_; rintro e1 w1 ⟨v, m, rfl, k1, k2, k3⟩; have K1 := hid k1; have K2 := hid (k2 _ HA.out); have E1 := hid (HE.out.trans k3); clear k1 k2 k3)
  go_ret
  exact ⟨_, m, rfl, K1.out, fun M hM => (Has.with_all hM (K2.out.eq (by ac_rfl) : Has w1 (m + blk w.heap.size #[.bool d] 4 + MS.all w)) |> fun h => (h.eq (by ac_rfl) : Has w1 (m + M + blk w.heap.size #[.bool d] 4)).left), E1.out⟩
def StsR (l : List ByteArray) (v : Value) (m : MS) : Prop := SlR 9 1 StrR l v m
theorem used_no {F : MS} {p : List ByteArray} {A : Option Addr} {c : Nat} {w : World} (hr : RdS F RT.str p (.slice A p.length c)) (hl : p.length ≤ 1000) (hs : ∀ s ∈ p, s.size ≤ 1000000) (hH : Has w F) (hq : isReg p = false) :
    Calls Tryd.prog 31 #[.slice A p.length c] w fun e w' => e = .returned (.tuple #[.slice none 0 0, .int .i64 2]) ∧ Kp w w' := by
  have Hof := hid (of_any hr hl hs hH)
  clear hl hs hr hH
  have hv : regV p A c = noReg := by unfold regV; rw [hq]; rfl
  rw [hq, hv] at Hof
  clear hq hv
  go_enter Tryd.func31, Tryd.ntmps31
  go_wp2_with (first
    | (go_at_call 32; refine Hof.out.mono ?_; rintro e1 w1 ⟨rfl, k1⟩; have K1 := hid (k1.1 _ (Has.all w)); have E1 := hid k1.2; have KA := hid ((K1.out).alloc (.cells #[.int .i64 0, .int .i64 0, .slice none 0 0] 51)); have EA := hid (E1.out.trans (Ext.alloc _ (.cells #[.int .i64 0, .int .i64 0, .slice none 0 0] 51))); clear k1; unfold noReg)
    | (refine wpList_store_whole rfl (.tmp 4) (.tmp 10) 51 rfl 3 size51 w1.heap.size noReg rfl rfl rfl (by simp [noReg, Value.cells, Value.oneCell']) #[.int .i64 0, .int .i64 0, .slice none 0 0] 51 _ KA.out rfl ?_; intro w6 j1 j2; have HW6 := hid (show Has w6 (blk w1.heap.size #[.int .i64 0, .int .i64 0, .slice none 0 0] 51 + MS.all w) from j1); have HE6 := hid (EA.out.trans j2); clear j1 j2))
  go_ret2
  exact ⟨rfl, fun M hM => hM.of_all HW6.out, HE6.out⟩
theorem used_few {F : MS} {p : List ByteArray} {A : Option Addr} {c : Nat} {w : World} (hr : RdS F RT.str p (.slice A p.length c)) (hl : p.length ≤ 1000) (hs : ∀ s ∈ p, s.size ≤ 1000000) (hH : Has w F) (hq : isReg p = true) (hn : cntV p = 0) :
    Calls Tryd.prog 31 #[.slice A p.length c] w fun e w' => e = .returned (.tuple #[.slice none 0 0, .int .i64 10]) ∧ Kp w w' := by
  have Hof := hid (of_any hr hl hs hH)
  have hv : regV p A c = rgV p A c := by unfold regV; rw [hq]; rfl
  rw [hq, hv] at Hof
  have hp := (isReg.ok hq).1
  have hra := rd_all_str hr hH
  have hz : waysV p 0 0 = 0 := by unfold cntV at hn; rw [hq] at hn; exact hn
  have Hz := hid hz
  have Hcn := hid (fun W => show Calls Tryd.prog 33 #[.agg #[.int .i64 (wd p), .int .i64 p.length, .slice A p.length c]] W fun e w' => ∃ g, e = .returned (.agg #[.int .i64 (wd p), .int .i64 p.length, .slice A p.length c, .map (some g)]) ∧ (∀ M, Has W M → Has w' (pts g (.map #[] 0) + M)) ∧ Ext W w' from counter_any p A c W)
  have Hfr := hid (fun (g : Nat) (W : World) (hW : Has W (pts g (.map #[] 0) + MS.all w)) => show Calls Tryd.prog 34 #[.agg #[.int .i64 (wd p), .int .i64 p.length, .slice A p.length c, .map (some g)], .agg #[.int .i64 0, .int .i64 0]] W (FromPost p g W #[] 0 0 0) from from_any hp A c g (wd p * p.length) (MS.all w) W [] #[] 0 0 0 hra hW EntsAre.none (MemoOk.nil p) (by omega) (Nat.two_pow_pos _))
  unfold rgV at Hof
  generalize (wd p : Int) = WW at *
  generalize (p.length : Int) = HHI at *
  clear hv hr hl hs hH hq hp hra hn hz
  go_enter Tryd.func31, Tryd.ntmps31
  go_wp2_with (first
    | (go_at_call 32; refine Hof.out.mono ?_; rintro e1 w1 ⟨rfl, k1⟩; have K1 := hid (k1.1 _ (Has.all w)); have E1 := hid k1.2; have KA := hid ((K1.out).alloc (.cells #[.int .i64 0, .int .i64 0, .slice none 0 0] 51)); have EA := hid (E1.out.trans (Ext.alloc _ (.cells #[.int .i64 0, .int .i64 0, .slice none 0 0] 51))); clear k1)
    | (refine wpList_store_whole rfl (.tmp 4) (.tmp 10) 51 rfl 3 size51 w1.heap.size (.agg #[.int .i64 WW, .int .i64 HHI, .slice A p.length c]) rfl rfl rfl (by simp [Value.cells, Value.oneCell']) #[.int .i64 0, .int .i64 0, .slice none 0 0] 51 _ KA.out rfl ?_; intro w6 j1 j2; have HW6 := hid (show Has w6 (blk w1.heap.size #[.int .i64 WW, .int .i64 HHI, .slice A p.length c] 51 + MS.all w) from j1); have HE6 := hid (EA.out.trans j2); have r0 := HW6.out.at_ (i := 0) rfl; have r1 := HW6.out.at_ (i := 1) rfl; have r2 := HW6.out.at_ (i := 2) rfl; clear j1 j2)
    | (go_at_call 33; refine (Hcn.out w6).mono ?_; rintro e7 w7 ⟨g, rfl, k7, l7⟩; have K7 := hid (k7 _ HW6.out); have E7 := hid (HE6.out.trans l7); clear k7 l7 r0 r1 r2)
    | (go_at_call 34; refine (Hfr.out g w7 (K7.out.eq (b := pts g (.map #[] 0) + MS.all w + blk w1.heap.size #[.int .i64 WW, .int .i64 HHI, .slice A p.length c] 51) (by ac_rfl)).left).mono ?_; rintro e9 w9 ⟨rfl, S2, es2, clock2, z1, z2, z3, z4⟩; rw [Hz.out]; have H9 := hid (z3 _ K7.out); have E9 := hid (E7.out.trans z4); clear z1 z2 z3 z4))
  go_ret2
  exact ⟨rfl, fun M hM => hM.of_all H9.out.right, E9.out⟩
theorem used_yes {F : MS} {p : List ByteArray} {A : Option Addr} {c : Nat} {w : World} (hr : RdS F RT.str p (.slice A p.length c)) (hl : p.length ≤ 1000) (hs : ∀ s ∈ p, s.size ≤ 1000000) (hH : Has w F) (hq : isReg p = true) (hn : 0 < cntV p) :
    Calls Tryd.prog 31 #[.slice A p.length c] w fun e w' => ∃ b v1 v2 m1 m2, e = .returned (.tuple #[.slice (some ⟨b, 0, none⟩) 2 2, .int .i64 0]) ∧ SlR 9 1 StrR (drawnL p (usedB p false)) v1 m1 ∧ SlR 9 1 StrR (drawnL p (usedB p true)) v2 m2 ∧ (∀ M, Has w M → Has w' (blk b #[v1, v2] 22 + (m1 + (m2 + M)))) ∧ Ext w w' := by
  have Hof := hid (of_any hr hl hs hH)
  have hv : regV p A c = rgV p A c := by unfold regV; rw [hq]; rfl
  rw [hq, hv] at Hof
  have hp := (isReg.ok hq).1
  have hra := rd_all_str hr hH
  have hz : 0 < waysV p 0 0 := by unfold cntV at hn; rw [hq] at hn; exact hn
  obtain ⟨CN, hCN⟩ : ∃ CN : Int, CN = ((waysV p 0 0 : Nat) : Int) := ⟨_, rfl⟩
  have HCN := hid hCN
  have hcn0 : ¬ (CN = 0) := by omega
  have Hcn := hid (fun W => show Calls Tryd.prog 33 #[.agg #[.int .i64 (wd p), .int .i64 p.length, .slice A p.length c]] W fun e w' => ∃ g, e = .returned (.agg #[.int .i64 (wd p), .int .i64 p.length, .slice A p.length c, .map (some g)]) ∧ (∀ M, Has W M → Has w' (pts g (.map #[] 0) + M)) ∧ Ext W w' from counter_any p A c W)
  have Hfr := hid (fun (g : Nat) (W : World) (hW : Has W (pts g (.map #[] 0) + MS.all w)) => show Calls Tryd.prog 34 #[.agg #[.int .i64 (wd p), .int .i64 p.length, .slice A p.length c, .map (some g)], .agg #[.int .i64 0, .int .i64 0]] W (FromPost p g W #[] 0 0 0) from from_any hp A c g (wd p * p.length) (MS.all w) W [] #[] 0 0 0 hra hW EntsAre.none (MemoOk.nil p) (by omega) (Nat.two_pow_pos _))
  have Hu := hid (fun (d : Bool) (b2 : Nat) (W : World) (hW : Has W (blk b2 #[.int .i64 (wd p), .int .i64 p.length, .slice A p.length c] 51 + MS.all w)) => show Calls Tryd.prog 68 #[.bool d, .pointer (some ⟨b2, 0, none⟩)] W fun e w' => ∃ v m, e = .returned v ∧ SlR 9 1 StrR (drawnL p (usedB p d)) v m ∧ (∀ M, Has W M → Has w' (m + M)) ∧ Ext W w' from
    used68_any (F := blk b2 #[.int .i64 (wd p), .int .i64 p.length, .slice A p.length c] 51 + MS.all w) (hra.more _) hp ⟨MS.at.less (blk_at rfl) _, MS.at.less (blk_at rfl) _, MS.at.less (blk_at rfl) _⟩ hW)
  unfold rgV at Hof
  generalize (wd p : Int) = WW at *
  generalize (p.length : Int) = HHI at *
  clear hv hr hl hs hH hq hp hra hn hz hCN
  go_enter Tryd.func31, Tryd.ntmps31
  go_wp2_with (first
    | (go_at_call 68; refine (Hu.out true w1.heap.size w10 H10.out.right.right).mono ?_; rintro e11 w11 ⟨v2, m2, rfl, k1, k2, k3⟩; obtain ⟨A2, c2, rfl, _⟩ := SlR.form k1; have K11 := hid k1; have H11 := hid (k2 _ H10.out); have E11 := hid (E10.out.trans k3); clear k1 k2 k3)
    | (go_at_call 32; refine Hof.out.mono ?_; rintro e1 w1 ⟨rfl, k1⟩; have K1 := hid (k1.1 _ (Has.all w)); have E1 := hid k1.2; have KA := hid ((K1.out).alloc (.cells #[.int .i64 0, .int .i64 0, .slice none 0 0] 51)); have EA := hid (E1.out.trans (Ext.alloc _ (.cells #[.int .i64 0, .int .i64 0, .slice none 0 0] 51))); clear k1)
    | (refine wpList_store_whole rfl (.tmp 4) (.tmp 10) 51 rfl 3 size51 w1.heap.size (.agg #[.int .i64 WW, .int .i64 HHI, .slice A p.length c]) rfl rfl rfl (by simp [Value.cells, Value.oneCell']) #[.int .i64 0, .int .i64 0, .slice none 0 0] 51 _ KA.out rfl ?_; intro w6 j1 j2; have HW6 := hid (show Has w6 (blk w1.heap.size #[.int .i64 WW, .int .i64 HHI, .slice A p.length c] 51 + MS.all w) from j1); have HE6 := hid (EA.out.trans j2); have r0 := HW6.out.at_ (i := 0) rfl; have r1 := HW6.out.at_ (i := 1) rfl; have r2 := HW6.out.at_ (i := 2) rfl; clear j1 j2)
    | (go_at_call 33; refine (Hcn.out w6).mono ?_; rintro e7 w7 ⟨g, rfl, k7, l7⟩; have K7 := hid (k7 _ HW6.out); have E7 := hid (HE6.out.trans l7); clear k7 l7 r0 r1 r2)
    | (go_at_call 34; refine (Hfr.out g w7 (K7.out.eq (b := pts g (.map #[] 0) + MS.all w + blk w1.heap.size #[.int .i64 WW, .int .i64 HHI, .slice A p.length c] 51) (by ac_rfl)).left).mono ?_; rintro e9 w9 ⟨rfl, S2, es2, clock2, z1, z2, z3, z4⟩; rw [← HCN.out]; have H9 := hid (z3 _ K7.out); have E9 := hid (E7.out.trans z4); clear z1 z2 z3 z4)
    | (go_at_call 68; refine (Hu.out false w1.heap.size w9 H9.out.right).mono ?_; rintro e10 w10 ⟨v1, m1, rfl, k1, k2, k3⟩; obtain ⟨A1, c1, rfl, _⟩ := SlR.form k1; have K10 := hid k1; have H10 := hid (k2 _ H9.out); have E10 := hid (E9.out.trans k3); clear k1 k2 k3))
  go_ret2
  refine ⟨w11.heap.size, _, _, m1, m2, rfl, K10.out, K11.out, fun M hM => ?_, E11.out.trans (Ext.alloc _ _)⟩
  have h1 := H11.out.alloc (.cells #[.slice A1 (drawnL p (usedB p false)).length c1, .slice A2 (drawnL p (usedB p true)).length c2] 22)
  exact (Has.with_all hM (h1.eq (b := (blk w11.heap.size #[.slice A1 (drawnL p (usedB p false)).length c1, .slice A2 (drawnL p (usedB p true)).length c2] 22 + (m1 + (m2 + (pts g (.map es2 clock2) + blk w1.heap.size #[.int .i64 WW, .int .i64 HHI, .slice A p.length c] 51)))) + MS.all w) (by unfold blk; ac_rfl))).eq (b := (blk w11.heap.size #[.slice A1 (drawnL p (usedB p false)).length c1, .slice A2 (drawnL p (usedB p true)).length c2] 22 + (m1 + (m2 + M))) + (pts g (.map es2 clock2) + blk w1.heap.size #[.int .i64 WW, .int .i64 HHI, .slice A p.length c] 51)) (by ac_rfl) |>.left
end Go.Proofs.YtcdhimnmbpllgaaDoor

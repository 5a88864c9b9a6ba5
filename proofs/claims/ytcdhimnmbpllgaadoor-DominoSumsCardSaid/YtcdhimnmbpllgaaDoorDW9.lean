/-
  The walks of counter, Count.
-/
import Derived.Test.YtcdhimnmbpllgaaDoorDW6
import Derived.Test.YtcdhimnmbpllgaaDoorDW8
namespace Go.Proofs.YtcdhimnmbpllgaaDoor
open Go.RowKit Go.MapKept Go.ChangeMaps
set_option linter.unusedVariables false
set_option linter.unusedSimpArgs false
set_option maxHeartbeats 1000000
set_option maxRecDepth 100000

theorem size56 : (Tryd.prog.info? 56).map (·.size) = some 4 := by kernel_rfl
theorem counter_any (p : List ByteArray) (A : Option Addr) (c : Nat) (w : World) :
    Calls Tryd.prog 33 #[rgV p A c] w fun e w' => ∃ g, e = .returned (ctV p A c g) ∧ (∀ M, Has w M → Has w' (pts g (.map #[] 0) + M)) ∧ Ext w w' := by
  show Calls Tryd.prog 33 #[.agg #[.int .i64 (wd p), .int .i64 p.length, .slice A p.length c]] w _
  generalize hWW : (wd p : Int) = WW
  generalize hHH : (p.length : Int) = HH
  have HWW := hid hWW
  have HHH := hid hHH
  clear hWW hHH
  have HZ := hid (show Has ((w.alloc (.cells #[.int .i64 WW, .int .i64 HH, .slice A p.length c] 51)).alloc (.cells #[.int .i64 0, .int .i64 0, .slice none 0 0, .map none] 56)) (blk (w.heap.size + 1) #[.int .i64 0, .int .i64 0, .slice none 0 0, .map none] 56 + (blk w.heap.size #[.int .i64 WW, .int .i64 HH, .slice A p.length c] 51 + MS.all w)) by
    have := ((Has.all w).alloc (.cells #[.int .i64 WW, .int .i64 HH, .slice A p.length c] 51)).alloc (.cells #[.int .i64 0, .int .i64 0, .slice none 0 0, .map none] 56)
    rw [show (w.alloc (.cells #[.int .i64 WW, .int .i64 HH, .slice A p.length c] 51)).heap.size = w.heap.size + 1 by simp] at this
    exact this)
  have HEZ := hid ((Ext.alloc w (.cells #[.int .i64 WW, .int .i64 HH, .slice A p.length c] 51)).trans (Ext.alloc _ (.cells #[.int .i64 0, .int .i64 0, .slice none 0 0, .map none] 56)))
  obtain ⟨W2, hW2⟩ : ∃ W2, W2 = (w.alloc (.cells #[.int .i64 WW, .int .i64 HH, .slice A p.length c] 51)).alloc (.cells #[.int .i64 0, .int .i64 0, .slice none 0 0, .map none] 56) := ⟨_, rfl⟩
  have HW2e := hid hW2
  rw [← hW2] at HZ HEZ
  clear hW2
  obtain ⟨g, hg⟩ : ∃ g, g = W2.heap.size := ⟨_, rfl⟩
  have HM := hid (show Has (W2.alloc (.map #[] 0)) (blk (w.heap.size + 1) #[.int .i64 0, .int .i64 0, .slice none 0 0, .map none] 56 + (pts g (.map #[] 0) + (blk w.heap.size #[.int .i64 WW, .int .i64 HH, .slice A p.length c] 51 + MS.all w))) by rw [hg]; exact (HZ.out.alloc _).eq (by ac_rfl))
  have HEM := hid (HEZ.out.trans (Ext.alloc _ (.map #[] 0)))
  have Hg := hid hg
  clear hg
  go_enter Tryd.func33, Tryd.ntmps33
  go_wp2_with (first
    | (rw [← HW2e.out]; refine wpList_run rfl _ _ (ex_makeMap rfl) ?_; rw [← Hg.out])
    | (refine wpList_store_whole rfl (.tmp 2) (.tmp 5) 56 rfl 4 size56 (w.heap.size + 1) (.agg #[.int .i64 WW, .int .i64 HH, .slice A p.length c, .map (some g)]) rfl rfl rfl (by simp [Value.cells, Value.oneCell']) #[.int .i64 0, .int .i64 0, .slice none 0 0, .map none] 56 _ HM.out rfl ?_; intro w6 j1 j2; have HW6 := hid (show Has w6 (blk (w.heap.size + 1) #[.int .i64 WW, .int .i64 HH, .slice A p.length c, .map (some g)] 56 + _) from j1); have HE6 := hid (HEM.out.trans j2); have r0 := HW6.out.at_ (i := 0) rfl; have r1 := HW6.out.at_ (i := 1) rfl; have r2 := HW6.out.at_ (i := 2) rfl; have r3 := HW6.out.at_ (i := 3) rfl; clear j1 j2))
  exact bodyPost_ret (v := .agg #[.int .i64 WW, .int .i64 HH, .slice A p.length c, .map (some g)]) (by simp [results, Tryd.results33, go_sem, r0, r1, r2, r3]) rfl ⟨g, by unfold ctV; rw [HWW.out, HHH.out], fun M hM => (Has.with_all hM (HW6.out.eq (b := pts g (.map #[] 0) + (blk (w.heap.size + 1) #[.int .i64 WW, .int .i64 HH, .slice A p.length c, .map (some g)] 56 + blk w.heap.size #[.int .i64 WW, .int .i64 HH, .slice A p.length c] 51) + MS.all w) (by ac_rfl))).eq (b := pts g (.map #[] 0) + M + (blk (w.heap.size + 1) #[.int .i64 WW, .int .i64 HH, .slice A p.length c, .map (some g)] 56 + blk w.heap.size #[.int .i64 WW, .int .i64 HH, .slice A p.length c] 51)) (by ac_rfl) |>.left, HE6.out⟩
def cntV (p : List ByteArray) : Nat := if isReg p then waysV p 0 0 else 0
def cntE (p : List ByteArray) : Int := if isReg p then 0 else 2
theorem count_any {F : MS} {p : List ByteArray} {A : Option Addr} {c : Nat} {w : World} (hr : RdS F RT.str p (.slice A p.length c)) (hl : p.length ≤ 1000) (hs : ∀ s ∈ p, s.size ≤ 1000000) (hH : Has w F) :
    Calls Tryd.prog 13 #[.slice A p.length c] w fun e w' => e = .returned (.tuple #[.int .i64 (cntV p), .int .i64 (cntE p)]) ∧ Kp w w' := by
  have Hof := hid (of_any hr hl hs hH)
  have Hr := hid hr
  have HH := hid hH
  clear hl hs hr hH
  cases hq : isReg p with
  | false =>
    have hv : regV p A c = noReg := by unfold regV; rw [hq]; rfl
    rw [hq, hv] at Hof
    have HC := hid (show cntV p = 0 ∧ cntE p = 2 by unfold cntV cntE; rw [hq]; exact ⟨rfl, rfl⟩)
    clear hq hv
    go_enter Tryd.func13, Tryd.ntmps13
    go_wp2_with (first
      | (go_at_call 32; refine Hof.out.mono ?_; rintro e1 w1 ⟨rfl, k1⟩; have K1 := hid (k1.1 _ (Has.all w)); have E1 := hid k1.2; have KA := hid ((K1.out).alloc (.cells #[.int .i64 0, .int .i64 0, .slice none 0 0] 51)); have EA := hid (E1.out.trans (Ext.alloc _ (.cells #[.int .i64 0, .int .i64 0, .slice none 0 0] 51))); clear k1; unfold noReg)
      | (refine wpList_store_whole rfl (.tmp 4) (.tmp 9) 51 rfl 3 size51 w1.heap.size noReg rfl rfl rfl (by simp [noReg, Value.cells, Value.oneCell']) #[.int .i64 0, .int .i64 0, .slice none 0 0] 51 _ KA.out rfl ?_; intro w6 j1 j2; have HW6 := hid (show Has w6 (blk w1.heap.size #[.int .i64 0, .int .i64 0, .slice none 0 0] 51 + MS.all w) from j1); have HE6 := hid (EA.out.trans j2); clear j1 j2))
    go_ret2
    exact ⟨by rw [HC.out.1, HC.out.2]; rfl, fun M hM => hM.of_all HW6.out, HE6.out⟩
  | true =>
    have hv : regV p A c = rgV p A c := by unfold regV; rw [hq]; rfl
    rw [hq, hv] at Hof
    have Hp := hid (isReg.ok hq).1
    have HC := hid (show cntV p = waysV p 0 0 ∧ cntE p = 0 by unfold cntV cntE; rw [hq]; exact ⟨rfl, rfl⟩)
    have Hcn := hid (fun W => show Calls Tryd.prog 33 #[.agg #[.int .i64 (wd p), .int .i64 p.length, .slice A p.length c]] W fun e w' => ∃ g, e = .returned (.agg #[.int .i64 (wd p), .int .i64 p.length, .slice A p.length c, .map (some g)]) ∧ (∀ M, Has W M → Has w' (pts g (.map #[] 0) + M)) ∧ Ext W w' from counter_any p A c W)
    have Hfr := hid (fun (g : Nat) (W : World) (hW : Has W (pts g (.map #[] 0) + F)) => show Calls Tryd.prog 34 #[.agg #[.int .i64 (wd p), .int .i64 p.length, .slice A p.length c, .map (some g)], .agg #[.int .i64 0, .int .i64 0]] W (FromPost p g W #[] 0 0 0) from from_any Hp.out A c g (wd p * p.length) F W [] #[] 0 0 0 Hr.out hW EntsAre.none (MemoOk.nil p) (by omega) (Nat.two_pow_pos _))
    unfold rgV at Hof
    generalize (wd p : Int) = WW at *
    generalize (p.length : Int) = HHI at *
    clear hq hv
    go_enter Tryd.func13, Tryd.ntmps13
    go_wp2_with (first
      | (go_at_call 32; refine Hof.out.mono ?_; rintro e1 w1 ⟨rfl, k1⟩; have K1 := hid (k1.1 _ (Has.all w)); have E1 := hid k1.2; have KA := hid ((K1.out).alloc (.cells #[.int .i64 0, .int .i64 0, .slice none 0 0] 51)); have EA := hid (E1.out.trans (Ext.alloc _ (.cells #[.int .i64 0, .int .i64 0, .slice none 0 0] 51))); clear k1)
      | (refine wpList_store_whole rfl (.tmp 4) (.tmp 9) 51 rfl 3 size51 w1.heap.size (.agg #[.int .i64 WW, .int .i64 HHI, .slice A p.length c]) rfl rfl rfl (by simp [Value.cells, Value.oneCell']) #[.int .i64 0, .int .i64 0, .slice none 0 0] 51 _ KA.out rfl ?_; intro w6 j1 j2; have HW6 := hid (show Has w6 (blk w1.heap.size #[.int .i64 WW, .int .i64 HHI, .slice A p.length c] 51 + MS.all w) from j1); have HE6 := hid (EA.out.trans j2); have r0 := HW6.out.at_ (i := 0) rfl; have r1 := HW6.out.at_ (i := 1) rfl; have r2 := HW6.out.at_ (i := 2) rfl; clear j1 j2)
      | (go_at_call 33; refine (Hcn.out w6).mono ?_; rintro e7 w7 ⟨g, rfl, k7, l7⟩; have K7 := hid (k7 _ HW6.out); have E7 := hid (HE6.out.trans l7); clear k7 l7)
      | (go_at_call 34; refine (Hfr.out g w7 (Has.with_all HH.out (K7.out.eq (by ac_rfl) : Has w7 (pts g (.map #[] 0) + blk w1.heap.size #[.int .i64 WW, .int .i64 HHI, .slice A p.length c] 51 + MS.all w)) |> fun h => (h.eq (by ac_rfl) : Has w7 (pts g (.map #[] 0) + F + blk w1.heap.size #[.int .i64 WW, .int .i64 HHI, .slice A p.length c] 51)).left)).mono ?_; rintro e8 w8 ⟨rfl, S2, es2, clock2, z1, z2, z3, z4⟩; have K8 := hid (z3 _ K7.out); have E8 := hid (E7.out.trans z4); clear z1 z2 z3 z4))
    go_ret2
    exact ⟨by rw [HC.out.1, HC.out.2]; rfl, fun M hM => hM.of_all K8.out.right, E8.out⟩
end Go.Proofs.YtcdhimnmbpllgaaDoor

/-
  Plain: the tiling with an index, place by place; the walk of count.
-/
import Derived.Test.YtcdhimnmbpllgaaDoorDW9
namespace Go.Proofs.YtcdhimnmbpllgaaDoor
open Go.RowKit Go.MapKept Go.ChangeMaps
set_option linter.unusedVariables false
set_option linter.unusedSimpArgs false
set_option maxHeartbeats 1000000
set_option maxRecDepth 100000

/-- A domino: its first cell, and whether it goes down. -/
abbrev Dom := Int × Int × Bool
def nR (W : Nat) (hs : Nat → Nat → Bool) (k at' cov : Nat) : Nat := if rightD W hs at' cov then cntF W hs k (at' + 1) (cov / 2 ||| 1) else 0
def pathF (W : Nat) (hs : Nat → Nat → Bool) : Nat → Nat → Nat → Nat → List Dom
  | 0, _, _, _ => []
  | k + 1, at', cov, i =>
    if freeD W hs at' cov then
      (if nR W hs k at' cov ≤ i then (((at' % W : Nat) : Int), ((at' / W : Nat) : Int), true) :: pathF W hs k (at' + 1) (cov / 2 ||| 2 ^ (W - 1)) (i - nR W hs k at' cov)
      else (((at' % W : Nat) : Int), ((at' / W : Nat) : Int), false) :: pathF W hs k (at' + 1) (cov / 2 ||| 1) i)
    else pathF W hs k (at' + 1) (cov / 2) i
theorem path_right {W : Nat} {hs : Nat → Nat → Bool} {k at' cov i : Nat} (h : i < nR W hs k at' cov) : rightD W hs at' cov = true ∧ i < cntF W hs k (at' + 1) (cov / 2 ||| 1) := by
  unfold nR at h
  split at h
  · rename_i hr; exact ⟨hr, h⟩
  · omega
theorem path_down {W : Nat} {hs : Nat → Nat → Bool} {k at' cov i : Nat} (hf : freeD W hs at' cov = true) (hi : i < cntF W hs (k + 1) at' cov) (h : nR W hs k at' cov ≤ i) : downD W hs at' cov = true ∧ i - nR W hs k at' cov < cntF W hs k (at' + 1) (cov / 2 ||| 2 ^ (W - 1)) := by
  unfold cntF at hi
  rw [hf] at hi
  unfold nR at h ⊢
  simp only [if_true, Nat.add_zero] at hi
  cases hd : downD W hs at' cov with
  | false => rw [hd] at hi; simp only [Bool.false_eq_true, if_false, Nat.add_zero] at hi; omega
  | true =>
    rw [hd, if_pos rfl] at hi
    exact ⟨rfl, by omega⟩
theorem path_over {W : Nat} {hs : Nat → Nat → Bool} {k at' cov i : Nat} (hf : freeD W hs at' cov = false) (hi : i < cntF W hs (k + 1) at' cov) : i < cntF W hs k (at' + 1) (cov / 2) := by
  unfold cntF at hi
  have hr : rightD W hs at' cov = false := by unfold rightD; rw [hf]; rfl
  have hd : downD W hs at' cov = false := by unfold downD; rw [hf]; rfl
  rw [hr, hd, hf] at hi
  simpa using hi
theorem c93_zero {p : List ByteArray} {A : Option Addr} {cc g : Nat} (w : World) :
    Calls Tryd.prog 93 #[ctV p A cc g, stV 0 0] w fun e w' => e = .returned (.int .i64 0) ∧ Kp w w' := by
  have HA := hid (((Has.all w).alloc (.cells #[.int .i64 (wd p), .int .i64 p.length, .slice A p.length cc, .map (some g)] 56)).alloc (.cells #[.int .i64 0, .int .i64 0] 60))
  have HE := hid ((Ext.alloc w (.cells #[.int .i64 (wd p), .int .i64 p.length, .slice A p.length cc, .map (some g)] 56)).trans (Ext.alloc _ (.cells #[.int .i64 0, .int .i64 0] 60)))
  show Calls Tryd.prog 93 #[.agg #[.int .i64 (wd p), .int .i64 p.length, .slice A p.length cc, .map (some g)], .agg #[.int .i64 0, .int .i64 0]] w _
  generalize (wd p : Int) = WW at *
  generalize (p.length : Int) = HHI at *
  go_enter Tryd.func93, Tryd.ntmps93
  go_wp2
  go_ret
  exact ⟨rfl, fun M hM => (hM.of_all (HA.out.right)), HE.out⟩
theorem c93_pos {p : List ByteArray} (hp : RegOk p) {A : Option Addr} {c g : Nat} {F : MS} {w : World} {S : Ents} {es : Array MapEntry} {clock at' cov : Nat} (hr : RdS F RT.str p (.slice A p.length c)) (hH : Has w (pts g (.map es clock) + F)) (hS : EntsAre S es clock) (hM : MemoOk p S) (h0 : 0 < at') (hk : at' ≤ wd p * p.length) (hc : cov < 2 ^ wd p) :
    Calls Tryd.prog 93 #[ctV p A c g, stV at' cov] w (FromPost p g w es clock at' cov) := by
  have HB := hid (Has.but hH.get)
  obtain ⟨k, hk2⟩ : ∃ k, at' + k = wd p * p.length := ⟨wd p * p.length - at', by omega⟩
  have HHF := hid hH
  have Hfrom := hid (fun (W : World) (hW : Has W (pts g (.map es clock) + F)) => show Calls Tryd.prog 34 #[.agg #[.int .i64 (wd p), .int .i64 p.length, .slice A p.length c, .map (some g)], .agg #[.int .i64 at', .int .i64 cov]] W (FromPost p g W es clock at' cov) from from_any hp A c g k F W S es clock at' cov hr hW hS hM hk2 hc)
  have hE := hid ((Ext.alloc w (.cells #[.int .i64 (wd p), .int .i64 p.length, .slice A p.length c, .map (some g)] 56)).trans (Ext.alloc _ (.cells #[.int .i64 at', .int .i64 cov] 60)))
  have HW := hid (show Has ((w.alloc (.cells #[.int .i64 (wd p), .int .i64 p.length, .slice A p.length c, .map (some g)] 56)).alloc (.cells #[.int .i64 at', .int .i64 cov] 60)) (pts g (.map es clock) + MS.but w g) from ((HB.out.alloc _).right.alloc _).right)
  have hWF := hid (Has.of_but (o := .map es clock) HW.out hE.out)
  have hcells := hid (show Has ((w.alloc (.cells #[.int .i64 (wd p), .int .i64 p.length, .slice A p.length c, .map (some g)] 56)).alloc (.cells #[.int .i64 at', .int .i64 cov] 60)) (blk (w.heap.size + 1) #[.int .i64 at', .int .i64 cov] 60 + (blk w.heap.size #[.int .i64 (wd p), .int .i64 p.length, .slice A p.length c, .map (some g)] 56 + MS.all w)) by
    have := ((Has.all w).alloc (.cells #[.int .i64 (wd p), .int .i64 p.length, .slice A p.length c, .map (some g)] 56)).alloc (.cells #[.int .i64 at', .int .i64 cov] 60)
    rw [show (w.alloc (.cells #[.int .i64 (wd p), .int .i64 p.length, .slice A p.length c, .map (some g)] 56)).heap.size = w.heap.size + 1 by simp] at this
    exact this)
  have h0I : ¬ ((at' : Int) = 0) := by omega
  show Calls Tryd.prog 93 #[.agg #[.int .i64 (wd p), .int .i64 p.length, .slice A p.length c, .map (some g)], .agg #[.int .i64 at', .int .i64 cov]] w _
  generalize (wd p : Int) = WW at *
  generalize (p.length : Int) = HHI at *
  obtain ⟨AA, hAA⟩ : ∃ AA : Int, AA = (at' : Int) := ⟨_, rfl⟩
  rw [← hAA] at Hfrom hE HW hWF hcells h0I ⊢
  clear hAA hr hH hS hM h0 hk hc hk2 HB
  go_enter Tryd.func93, Tryd.ntmps93
  go_wp2_with (go_at_call 34; refine (Hfrom.out _ (hWF.out _ HHF.out)).mono ?_; rintro e1 w1 ⟨rfl, S2, es2, clock2, z1, z2, z3, z4⟩; have Z1 := hid z1; have Z2 := hid z2; have Z3 := hid z3; have Z4 := hid (hE.out.trans z4); clear z1 z2 z3 z4)
  go_ret
  exact ⟨rfl, S2, es2, clock2, Z1.out, Z2.out, fun M hM => Z3.out M (hWF.out M hM), Z4.out⟩
end Go.Proofs.YtcdhimnmbpllgaaDoor

/-
  The library's contract of slices.SortFunc that the kit's shelf holds, at this program's api.Cell: laid in plain words (printed by gen_sort.py). The library's sort of cells by reading, over claims.
-/
import Derived.Shelf.SlSortCmp.WholeK
import Derived.Test.YtcdhimnmbpllgaaDoorProg
import Derived.Test.YtcdhimnmbpllgaaDoorDQ1
namespace Go.Proofs.YtcdhimnmbpllgaaDoor
open Go.RowKit Go.Shelf
set_option linter.unusedVariables false
set_option maxRecDepth 100000

def sortCl_ren : Go.Shelf.Ren := ⟨fun | 6 => 56 | 14 => 90 | 15 => 91 | 20 => 109 | 21 => 110 | 22 => 111 | 23 => 112 | 24 => 113 | 25 => 114 | 26 => 115 | 27 => 116 | 28 => 117 | 29 => 118 | 46 => 127 | 47 => 128 | 48 => 129 | 49 => 130 | 50 => 131 | 57 => 136 | n => n, fun | 0 => 0 | 3 => 3 | 4 => 4 | 5 => 5 | 9 => 9 | 22 => 29 | 24 => 66 | 25 => 79 | 39 => 121 | 45 => 143 | 46 => 144 | 50 => 80 | 53 => 150 | 55 => 152 | 66 => 159 | 70 => 163 | 76 => 168 | 77 => 169 | n => n, fun | n => n⟩
theorem sortCl : Go.Proofs.SlLaysF0.n6 Tryd.prog sortCl_ren := {
  mixed := by kernel_rfl
  f6 := ⟨"slices.SortFunc[[]encaustic/api.Cell,encaustic/api.Cell]", rfl, Tryd.func56.trans (congrArg some (by kernel_rfl))⟩
  f14 := ⟨"slices.pdqsortCmpFunc[encaustic/api.Cell]", rfl, Tryd.func90.trans (congrArg some (by kernel_rfl))⟩
  f15 := Tryd.func91.trans (congrArg some (by kernel_rfl))
  f20 := ⟨"slices.insertionSortCmpFunc[encaustic/api.Cell]", rfl, Tryd.func109.trans (congrArg some (by kernel_rfl))⟩
  f21 := ⟨"slices.heapSortCmpFunc[encaustic/api.Cell]", rfl, Tryd.func110.trans (congrArg some (by kernel_rfl))⟩
  f22 := ⟨"slices.breakPatternsCmpFunc[encaustic/api.Cell]", rfl, Tryd.func111.trans (congrArg some (by kernel_rfl))⟩
  f23 := ⟨"slices.choosePivotCmpFunc[encaustic/api.Cell]", rfl, Tryd.func112.trans (congrArg some (by kernel_rfl))⟩
  f24 := ⟨"slices.reverseRangeCmpFunc[encaustic/api.Cell]", rfl, Tryd.func113.trans (congrArg some (by kernel_rfl))⟩
  f25 := ⟨"slices.partialInsertionSortCmpFunc[encaustic/api.Cell]", rfl, Tryd.func114.trans (congrArg some (by kernel_rfl))⟩
  f26 := ⟨"slices.partitionEqualCmpFunc[encaustic/api.Cell]", rfl, Tryd.func115.trans (congrArg some (by kernel_rfl))⟩
  f27 := ⟨"slices.partitionCmpFunc[encaustic/api.Cell]", rfl, Tryd.func116.trans (congrArg some (by kernel_rfl))⟩
  f28 := Tryd.func117.trans (congrArg some (by kernel_rfl))
  f29 := Tryd.func118.trans (congrArg some (by kernel_rfl))
  f46 := ⟨"slices.siftDownCmpFunc[encaustic/api.Cell]", rfl, Tryd.func127.trans (congrArg some (by kernel_rfl))⟩
  f47 := Tryd.func128.trans (congrArg some (by kernel_rfl))
  f48 := Tryd.func129.trans (congrArg some (by kernel_rfl))
  f49 := ⟨"slices.medianAdjacentCmpFunc[encaustic/api.Cell]", rfl, Tryd.func130.trans (congrArg some (by kernel_rfl))⟩
  f50 := ⟨"slices.medianCmpFunc[encaustic/api.Cell]", rfl, Tryd.func131.trans (congrArg some (by kernel_rfl))⟩
  f57 := ⟨"slices.order2CmpFunc[encaustic/api.Cell]", rfl, Tryd.func136.trans (congrArg some (by kernel_rfl))⟩
  t0 := Tryd.underlying0
  a0 := Tryd.isAgg0
  z0 := Tryd.sizeOf0
  v0 := Tryd.zeroValue0
  t3 := Tryd.underlying3
  a3 := Tryd.isAgg3
  z3 := Tryd.sizeOf3
  v3 := Tryd.zeroValue3
  t4 := Tryd.underlying4
  a4 := Tryd.isAgg4
  z4 := Tryd.sizeOf4
  v4 := Tryd.zeroValue4
  t5 := Tryd.underlying5
  a5 := Tryd.isAgg5
  z5 := Tryd.sizeOf5
  v5 := Tryd.zeroValue5
  t9 := Tryd.underlying9
  a9 := Tryd.isAgg9
  z9 := Tryd.sizeOf9
  v9 := Tryd.zeroValue9
  t22 := Tryd.underlying29
  a22 := Tryd.isAgg29
  z22 := Tryd.sizeOf29
  v22 := Tryd.zeroValue29
  t25 := Tryd.underlying79
  a25 := Tryd.isAgg79
  z25 := Tryd.sizeOf79
  v25 := Tryd.zeroValue79
  t39 := Tryd.underlying121
  a39 := Tryd.isAgg121
  z39 := Tryd.sizeOf121
  v39 := Tryd.zeroValue121
  t45 := Tryd.underlying143
  a45 := Tryd.isAgg143
  z45 := Tryd.sizeOf143
  v45 := Tryd.zeroValue143
  t46 := Tryd.underlying144
  a46 := Tryd.isAgg144
  z46 := Tryd.sizeOf144
  v46 := Tryd.zeroValue144
  t50 := Tryd.underlying80
  a50 := Tryd.isAgg80
  z50 := Tryd.sizeOf80
  v50 := Tryd.zeroValue80
  t53 := Tryd.underlying150
  a53 := Tryd.isAgg150
  z53 := Tryd.sizeOf150
  v53 := Tryd.zeroValue150
  t55 := Tryd.underlying152
  a55 := Tryd.isAgg152
  z55 := Tryd.sizeOf152
  v55 := Tryd.zeroValue152
  t66 := Tryd.underlying159
  a66 := Tryd.isAgg159
  z66 := Tryd.sizeOf159
  v66 := Tryd.zeroValue159
  t70 := Tryd.underlying163
  a70 := Tryd.isAgg163
  z70 := Tryd.sizeOf163
  v70 := Tryd.zeroValue163
  t76 := Tryd.underlying168
  a76 := Tryd.isAgg168
  z76 := Tryd.sizeOf168
  v76 := Tryd.zeroValue168
  t77 := Tryd.underlying169
  a77 := Tryd.isAgg169
  z77 := Tryd.sizeOf169
  v77 := Tryd.zeroValue169 }
end Go.Proofs.YtcdhimnmbpllgaaDoor

namespace Go.Proofs.YtcdhimnmbpllgaaDoor
open Go.RowKit Go.Shelf Go.Sort
set_option linter.unusedVariables false
set_option linter.unusedSimpArgs false
set_option maxHeartbeats 1000000
set_option maxRecDepth 100000

def encC (q : Int × Int) : List Value := [.int .i64 q.1, .int .i64 q.2]
theorem cls_cells : ∀ {l : List (Int × Int)} {xs : List Value} {m : MS}, RowsR ClR l xs m → xs = l.flatMap encC ∧ m = 0
  | [], _, _, h => ⟨h.1, h.2⟩
  | a :: l, _, _, ⟨c1, m1, c2, m2, h1, h2, h3, h4⟩ => by
    obtain ⟨k1, k2⟩ := cls_cells h2
    refine ⟨?_, ?_⟩
    · rw [h3, h1.1, k1]; rfl
    · rw [h4, h1.2, k2, MS.zero_add]
theorem cls_rows : ∀ l : List (Int × Int), RowsR ClR l (l.flatMap encC) 0
  | [] => RowsR.nil
  | a :: l => ⟨_, 0, _, 0, ⟨rfl, rfl⟩, cls_rows l, rfl, (MS.zero_add _).symm⟩
theorem flat_at : ∀ (l : List (Int × Int)) (i : Nat), i < l.length → (l.flatMap encC)[i * 2]? = some (.int .i64 (l.getD i (0, 0)).1) ∧ (l.flatMap encC)[i * 2 + 1]? = some (.int .i64 (l.getD i (0, 0)).2)
  | [], i, h => by simp at h
  | a :: l, 0, h => ⟨rfl, rfl⟩
  | a :: l, i + 1, h => by
    have ih := flat_at l i (by simpa using h)
    rw [List.flatMap_cons, show (i + 1) * 2 = i * 2 + 2 by omega]
    have e : ∀ j, (encC a ++ l.flatMap encC)[j + 2]? = (l.flatMap encC)[j]? := fun j => by
      rw [List.getElem?_append_right (by show 2 ≤ j + 2; omega)]
      show (l.flatMap encC)[j + 2 - 2]? = _
      rw [Nat.add_sub_cancel]
    rw [e, show i * 2 + 2 + 1 = i * 2 + 1 + 2 by omega, e]
    exact ih
theorem flatK_at (d : Array (Int × Int)) (j : Nat) (h : j < d.size * 2) : (flatK encC 2 d)[j]! = (if j % 2 = 0 then Value.int .i64 (d[j / 2]!).1 else Value.int .i64 (d[j / 2]!).2) := by
  rw [get_flatK _ _ _ _ h]
  have : j % 2 = 0 ∨ j % 2 = 1 := by omega
  rcases this with e | e <;> rw [e] <;> rfl
theorem Has.growN {w : World} {M : MS} (h : Has w M) (os : Array Obj) : Has (Go.Sort.grow w os) M := fun i => by
  obtain ⟨h1, h2, h3⟩ := h i
  refine ⟨h1, fun hi => ?_, fun o ho => ?_⟩
  · have := h2 hi
    simp only [Go.Sort.grow, Array.size_append]
    omega
  · have h4 := h3 o ho
    have hi := (Array.getElem?_eq_some_iff.1 h4).1
    simp only [Go.Sort.grow]
    rw [Array.getElem?_append_left hi, h4]
theorem rdC_lt (a b : Int × Int) : rdC a b < 0 ↔ (a.2 < b.2 ∨ (a.2 = b.2 ∧ a.1 < b.1)) := by
  unfold rdC cmpI
  by_cases h1 : a.2 < b.2
  · simp [h1]
  · by_cases h2 : b.2 < a.2
    · have : ¬ a.2 = b.2 := by omega
      simp [h1, h2, this]
    · have h3 : a.2 = b.2 := by omega
      by_cases h4 : a.1 < b.1
      · simp [h3, h4]
      · by_cases h5 : b.1 < a.1
        · simp [h3, h4, h5]
        · simp [h3, h4, h5]
theorem lt_rd (a b : Int × Int) : ltOf rdC a b = decide (a.2 < b.2 ∨ (a.2 = b.2 ∧ a.1 < b.1)) := by
  unfold ltOf
  exact decide_eq_decide.2 (rdC_lt a b)
theorem swo_rd : SWO (ltOf rdC) where
  irrefl x := by rw [lt_rd]; simp
  trans x y z h1 h2 := by
    rw [lt_rd] at *
    simp only [decide_eq_true_eq] at *
    omega
  ntrans x y z h1 h2 := by
    rw [lt_rd] at *
    simp only [decide_eq_false_iff_not] at *
    omega
/-- The sort of a list of cells. -/
theorem sortC_any {F : MS} {w : World} {l : List (Int × Int)} {A : Option Addr} {n c : Nat} {m : MS} (hC : Cls l (.slice A n c) m) (h0 : 0 < l.length) (hl : l.length ≤ 1000) (hH : Has w (m + F)) :
    Calls Tryd.prog 56 #[.slice A n c, .func (.func 48) #[] #[]] w fun e w' => e = .returned (.tuple #[]) ∧ ∃ l' m', Cls l' (.slice A n c) m' ∧ l'.Perm l ∧ (∀ i j, i < j → j < l'.length → ltOf rdC (l'.getD j (0, 0)) (l'.getD i (0, 0)) = false) ∧ Has w' (m' + F) ∧ Ext w w' := by
  obtain ⟨xs, ms, mr, hSl, hRows, rfl⟩ := hC
  obtain ⟨rfl, rfl⟩ := cls_cells hRows
  obtain ⟨b, off, c', cur, hv, rfl, hnc, hcell, hput⟩ := hSl.at_ h0
  injection hv with hv1 hv2 hv3
  subst hv1; subst hv2; subst hv3
  rw [MS.add_zero] at hH
  have hsz : l.toArray.size = l.length := by simp
  have hgd : ∀ i, i < l.length → l.toArray[i]! = l.getD i (0, 0) := fun i hi => by
    rw [getElem!_pos _ i (by simpa using hi)]
    simp [List.getD, List.getElem?_eq_getElem hi]
  have hHold : HoldsK encC 2 w b off l.toArray := fun j hj => by
    rw [size_flatK, hsz] at hj
    refine ⟨?_, hH.frozen _⟩
    rw [hH.cell, hcell j hj, flatK_at _ j (by rw [hsz]; exact hj), hgd _ (by omega)]
    obtain ⟨k1, k2⟩ := flat_at l (j / 2) (by omega)
    have : j % 2 = 0 ∨ j % 2 = 1 := by omega
    rcases this with e | e
    · rw [if_pos e, show j = j / 2 * 2 by omega, k1]; simp
    · rw [if_neg (by omega), show j = j / 2 * 2 + 1 by omega, k2]
      have : (j / 2 * 2 + 1) / 2 = j / 2 := by omega
      rw [this]; rfl
  have eg : ∀ args w, (callFunc 48 args).run Tryd.prog w = .ok (.enter 48 args) w := enters_of Tryd.func48 (by kernel_rfl) rfl
  have hcmp : CmpLays Tryd.prog 48 #[] encC 2 rdC b off l.toArray.size w := fun _ _ _ _ x y => reading_any x y _
  have hcon := AnyQ.slices_SortFunc sortCl 2 Tryd.isAgg66 Tryd.sizeOf66 encC (fun _ => rfl) (fun x v hv => by simp [encC] at hv; rcases hv with rfl | rfl <;> rfl) rdC swo_rd 48 #[] b off c l.toArray w eg hcmp hHold hH.lt (by rw [hsz]; omega)
  rw [hsz] at hcon
  refine Calls.mono hcon ?_
  rintro e w' ⟨rfl, d', q, os, ⟨hs', _, hperm⟩, hsort, rfl⟩
  rw [hsz] at hs'
  have hl' : d'.toList.length = l.length := by simpa using hs'
  refine ⟨rfl, d'.toList, blk b (putCells id off (flatK encC 2 d') cur) 66, ?_, ?_, ?_, ?_, ?_⟩
  · refine ⟨d'.toList.flatMap encC, blk b (putCells id off (flatK encC 2 d') cur) 66, 0, ?_, cls_rows _, (MS.add_zero _).symm⟩
    rw [hl']
    have hlen : (d'.toList.flatMap encC).length = l.length * 2 := by
      have : ∀ k : List (Int × Int), (k.flatMap encC).length = k.length * 2 := fun k => by
        induction k with
        | nil => rfl
        | cons a k ih => rw [List.flatMap_cons, List.length_append, ih, List.length_cons]; show 2 + _ = _; omega
      rw [this, hl']
    refine hput _ _ (by simp [putCells]) (by rw [hlen]; exact hSl.1.symm) fun j hj => ?_
    have hoff : off + j < cur.size := by
      have h := hcell j hj
      obtain ⟨k1, k2⟩ := flat_at l (j / 2) (by omega)
      have : ∃ u, (l.flatMap encC)[j]? = some u := ⟨_, List.getElem?_eq_getElem (by rw [hSl.1]; exact hj)⟩
      obtain ⟨u, hu⟩ := this
      rw [hu] at h
      exact (Array.getElem?_eq_some_iff.1 h).1
    have hfs : (flatK encC 2 d').size = l.length * 2 := by rw [size_flatK, hs']
    have e1 : (putCells id off (flatK encC 2 d') cur)[off + j]? = some ((flatK encC 2 d')[j]!) := by
      unfold putCells
      rw [Array.getElem?_mapIdx, Array.getElem?_eq_getElem hoff]
      simp only [Option.map_some]
      rw [if_pos ⟨by omega, by rw [hfs]; omega⟩, Nat.add_sub_cancel_left]
      rfl
    rw [e1, flatK_at _ j (by rw [hs']; exact hj)]
    obtain ⟨k1, k2⟩ := flat_at d'.toList (j / 2) (by rw [hl']; omega)
    have hg2 : d'[j / 2]! = d'.toList.getD (j / 2) (0, 0) := by
      rw [getElem!_pos d' (j / 2) (by rw [hs']; omega)]
      simp [List.getD, show j / 2 < d'.size by rw [hs']; omega]
    rw [hg2]
    have : j % 2 = 0 ∨ j % 2 = 1 := by omega
    rcases this with e | e
    · rw [if_pos e]
      conv => rhs; rw [show j = j / 2 * 2 by omega, k1]
    · rw [if_neg (by omega)]
      conv => rhs; rw [show j = j / 2 * 2 + 1 by omega, k2]
  · have h1 : (d'.extract 0 l.length).toList = d'.toList := by
      rw [← hs']; simp
    have h2 : (l.toArray.extract 0 l.length).toList = l := by simp
    rw [h1, h2] at hperm
    exact hperm
  · intro i j hij hj
    rw [hl'] at hj
    have h := hsort i j (Nat.zero_le _) hij hj
    rw [getElem!_pos d' j (by rw [hs']; exact hj), getElem!_pos d' i (by rw [hs']; omega)] at h
    have e1 : d'.toList.getD j (0, 0) = d'[j]'(by rw [hs']; exact hj) := by simp [List.getD, show j < d'.size by rw [hs']; exact hj]
    have e2 : d'.toList.getD i (0, 0) = d'[i]'(by rw [hs']; omega) := by simp [List.getD, show i < d'.size by rw [hs']; omega]
    rw [e1, e2]
    exact h
  · refine Has.growN (w := putRowK encC 2 (Go.Sort.ahead w q) b off d') ?_ os
    have hrow := hH.row
    refine Has.upd (w := w) hH (fun i hi => ?_) ?_ ?_
    · show ((Go.Sort.ahead w q).heap.modify b _)[i]? = _
      rw [Array.getElem?_modify, if_neg (Ne.symm hi)]; rfl
    · show ((Go.Sort.ahead w q).heap.modify b _)[b]? = _
      rw [Array.getElem?_modify, if_pos rfl]
      show Option.map _ w.heap[b]? = _
      rw [hrow]; rfl
    · show w.heap.size ≤ ((Go.Sort.ahead w q).heap.modify b _).size
      rw [Array.size_modify]; exact Nat.le_refl _
  · refine ⟨rfl, rfl, rfl, ?_⟩
    show w.heap.size ≤ (((Go.Sort.ahead w q).heap.modify b _) ++ os).size
    rw [Array.size_append, Array.size_modify]
    exact Nat.le_add_right _ _
end Go.Proofs.YtcdhimnmbpllgaaDoor

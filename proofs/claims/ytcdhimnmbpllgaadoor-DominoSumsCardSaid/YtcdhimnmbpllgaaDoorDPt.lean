/-
  Ranging over a map that holds a set of cells. The closures of Parts (64, 66) and of Holes (57). The walk of drawn with the closure of Parts (printed by gen_drawn.py). The walk of Parts (27) (printed by gen_parts.py).
-/
import Derived.Test.YtcdhimnmbpllgaaDoorDRch
import Derived.Maps.RangeRun
import Derived.Test.YtcdhimnmbpllgaaDoorDD1
import Derived.Test.YtcdhimnmbpllgaaDoorPTree
namespace Go.Proofs.YtcdhimnmbpllgaaDoor
open Go.RowKit Go.MapKept Go.ChangeMaps
set_option linter.unusedVariables false
set_option linter.unusedSimpArgs false
set_option maxHeartbeats 1000000
set_option maxRecDepth 100000

/-- An iterator over a map that nobody writes meanwhile. -/
def itO (g clock : Nat) (seen : Array Nat) : Obj := .mapIter (some g) clock seen clock
/-- The key has come. -/
def come (es : Array MapEntry) (seen : Array Nat) (q : Cl) : Prop := ∃ z ∈ es.toList, seen.contains z.born = true ∧ z.key = pairV q
theorem come_nil (es : Array MapEntry) (q : Cl) : ¬ come es #[] q := fun ⟨z, _, h, _⟩ => by simp at h
def itLeft (w : World) (r g : Nat) : Nat := match w.heap[r]?, w.heap[g]? with | some (.mapIter _ _ seen _), some (.map es _) => (leftOf es seen).size | _, _ => 0
section
variable {P : Program} {w : World} {o : Oper} {ops : Array Oper} {rest : List Oper} {a : Act} {Q : Exit → Act → World → Prop}
theorem itLeft_of {w : World} {r g clock : Nat} {seen : Array Nat} {es : Array MapEntry} {F : MS} (h : Has w (pts r (itO g clock seen) + (pts g (.map es clock) + F))) : itLeft w r g = (leftOf es seen).size := by
  unfold itLeft
  have h1 := h.get
  have h2 := h.right.get
  rw [h1, h2]
  rfl
theorem ex_range {t k e : TypeId} {x : Operand} {g clock : Nat} {es : Array MapEntry} {W : World} (ho : o.op = .range t x) (ht : P.underlying t = some (.map k e)) (hx : a.eval x = .map (some g)) (hb : W.heap[g]? = some (.map es clock)) : (execOp a.eval o).run P W = .ok (.value (.pointer (some ⟨W.heap.size, 0, none⟩))) (W.alloc (itO g clock #[])) := by
  simp [execOp, ho, hx, Instr.range, run_underlying ht, MapKept.run_getObj_map hb, Result.andThen, itO]
theorem wpList_nextM (hgd : o.guard = none) (x : Operand) (ho : o.op = .next x false) (r g : Nat) (hx : a.eval x = .pointer (some ⟨r, 0, none⟩)) {es : Array MapEntry} {clock : Nat} {seen : Array Nat} {sn : List Cl} {F : MS} (hS : EntsAre (mapL sn) es clock) (hH : Has w (pts r (itO g clock seen) + (pts g (.map es clock) + F)))
    (hDone : (∀ q ∈ sn, come es seen q) → wpList P ops Q rest (a.put o.dst (.tuple #[.bool false])) w)
    (hMore : ∀ (q : Cl) (seen' : Array Nat) (w' : World), q ∈ sn → (∀ q', come es seen' q' → come es seen q' ∨ q' = q) → (leftOf es seen').size < (leftOf es seen).size → Has w' (pts r (itO g clock seen') + (pts g (.map es clock) + F)) → Ext w w' →
      (Instr.entry (.pointer (some ⟨r, 0, none⟩))).run P w' = .ok (.tuple #[.agg #[.int .i64 q.1, .int .i64 q.2], .bool true]) w' → wpList P ops Q rest (a.put o.dst (.tuple #[.bool true, .agg #[.int .i64 q.1, .int .i64 q.2], .bool true])) w') : wpList P ops Q (o :: rest) a w := by
  have hkey : ∀ z ∈ es.toList, ∃ q ∈ sn, z.key = pairV q ∧ z.val = .bool true := fun z hz => by
    have h1 : (z.key, z.val) ∈ es.toList.map (fun e => (e.key, e.val)) := List.mem_map.2 ⟨z, hz, rfl⟩
    rw [hS.2.1] at h1
    obtain ⟨y, hy, he⟩ := List.mem_map.1 h1
    unfold mapL at hy
    obtain ⟨q, hq, rfl⟩ := List.mem_map.1 hy
    injection he with he1 he2
    exact ⟨q, hq, he1.symm, he2.symm⟩
  have hsm := hS.1
  refine wpList_plain hgd fun K' hK' => ?_
  unfold Oper.wp
  rcases run_next_at (P := P) w o.type r g clock clock seen es clock hH.get hH.right.get hsm.1 (Nat.le_refl _) with ⟨h1, h2⟩ | ⟨z, hz, w1, hw1, h2⟩
  · simp only [execOp, ho, hx, Sem.run_bind, h2, Result.andThen, Sem.run_pure]
    refine hK' _ _ (hDone fun q hq => ?_)
    have h3 : (pairV q, Value.bool true) ∈ (mapL sn).map (fun x => (pairV x.1, x.2)) := List.mem_map.2 ⟨(q, .bool true), List.mem_map.2 ⟨q, hq, rfl⟩, rfl⟩
    rw [← hS.2.1] at h3
    obtain ⟨z, hz, he⟩ := List.mem_map.1 h3
    injection he with he1 he2
    exact ⟨z, hz, all_seen es seen h1 z hz, he1⟩
  · obtain ⟨hze, hzs⟩ := mem_left hz
    obtain ⟨q, hq, hk, hv⟩ := hkey z hze
    have hk' : z.key = .agg #[.int .i64 q.1, .int .i64 q.2] := hk
    have hH1 : Has w1 (pts r (itO g clock seen) + (pts g (.map es clock) + F)) := by
      rcases hw1 with rfl | rfl
      · exact hH
      · exact hH.drew
    have hE1 : Ext w w1 := by
      rcases hw1 with rfl | rfl
      · exact Ext.refl _
      · exact Ext.drew _
    have hH2 : Has (setBlock w1 r (itO g clock (seen.push z.born))) (pts r (itO g clock (seen.push z.born)) + (pts g (.map es clock) + F)) := hH1.setMap
    have hen := run_entry_at (P := P) (setBlock w1 r (itO g clock (seen.push z.born))) r g clock seen es clock z hH2.get hH2.right.get hze hsm.2.1
    rw [hk', hv] at h2 hen
    simp only [execOp, ho, hx, Sem.run_bind, h2, Result.andThen, Sem.run_pure]
    refine hK' _ _ (hMore q (seen.push z.born) _ hq (fun q' hc => ?_) (left_shrinks es seen z hz) hH2 (hE1.trans (Ext.setMap _ _ _)) hen)
    obtain ⟨z', h3, h4, h5⟩ := hc
    rw [Array.contains_push] at h4
    rcases (Bool.or_eq_true_iff.1 h4).symm with h4 | h4
    · right
      have h6 : z'.born = z.born := by simpa using h4
      have h7 : z' = z := by
        have k1 := find_born z _ hsm.2.1 hze
        have k2 := find_born z' _ hsm.2.1 h3
        rw [h6, k1] at k2
        injection k2 with k2
        exact k2.symm
      rw [h7] at h5
      exact pairV_inj (h5.symm.trans hk)
    · exact .inl ⟨z', h3, h4, h5⟩
end
end Go.Proofs.YtcdhimnmbpllgaaDoor

namespace Go.Proofs.YtcdhimnmbpllgaaDoor
open Go.RowKit Go.MapKept Go.ChangeMaps
set_option linter.unusedVariables false
set_option linter.unusedSimpArgs false
set_option maxHeartbeats 4000000
set_option maxRecDepth 100000

theorem par64_any {F : MS} {p : List ByteArray} {A : Option Addr} {c b : Nat} {x y : Int} {w : World} (hr : RdS F RT.str p (.slice A p.length c)) (hp : RegOk p)
    (hg : F.at b 0 (.int .i64 (wd p)) ∧ F.at b 1 (.int .i64 p.length) ∧ F.at b 2 (.slice A p.length c)) (hH : Has w F) :
    Calls Tryd.prog 64 #[.agg #[.int .i64 x, .int .i64 y], .pointer (some ⟨b, 0, none⟩)] w fun e w' => e = .returned (.bool (hsI p x y)) ∧ Kp w w' := by
  have HA := hid (show Has (w.alloc (.cells #[.int .i64 x, .int .i64 y] 66)) (blk w.heap.size #[.int .i64 x, .int .i64 y] 66 + MS.all w) from (Has.all w).alloc _)
  have HE := hid (Ext.alloc w (.cells #[.int .i64 x, .int .i64 y] 66))
  have hin := hH.of_all HA.out
  have f4 := hg.1.c0 hin
  have f5 := hg.2.1.c0 hin
  have f6 := hg.2.2.c0 hin
  have Hhas := hid (show Calls Tryd.prog 47 #[.agg #[.int .i64 (wd p), .int .i64 p.length, .slice A p.length c], .int .i64 x, .int .i64 y] (w.alloc (.cells #[.int .i64 x, .int .i64 y] 66)) fun e w' => e = .returned (.bool (hsI p x y)) ∧ Kp (w.alloc (.cells #[.int .i64 x, .int .i64 y] 66)) w' from has_any hr hp hin x y)
  have HK := hid (fun (w' : World) (h : Kp (w.alloc (.cells #[.int .i64 x, .int .i64 y] 66)) w') => show Kp w w' from ⟨fun M hM => h.1 _ (hM.of_all HA.out), HE.out.trans h.2⟩)
  clear hr hp hg hH hin
  go_enter Tryd.func64, Tryd.ntmps64
  go_wp2_with (go_at_call 47; refine Hhas.out.mono ?_; rintro e5 w5 ⟨rfl, k5⟩; have K5 := hid k5; clear k5)
  go_ret
  exact ⟨rfl, HK.out _ K5.out⟩
/-- Outside, up to one step around. -/
def outB (p : List ByteArray) (q : Cl) : Bool := decide (-1 ≤ q.1 ∧ -1 ≤ q.2 ∧ q.1 ≤ wd p ∧ q.2 ≤ p.length) && !hsI p q.1 q.2
theorem hol57_any {F : MS} {p : List ByteArray} {A : Option Addr} {c b : Nat} {x y : Int} {w : World} (hr : RdS F RT.str p (.slice A p.length c)) (hp : RegOk p)
    (hg : F.at b 0 (.int .i64 (wd p)) ∧ F.at b 1 (.int .i64 p.length) ∧ F.at b 2 (.slice A p.length c)) (hH : Has w F) :
    Calls Tryd.prog 57 #[.agg #[.int .i64 x, .int .i64 y], .pointer (some ⟨b, 0, none⟩)] w fun e w' => e = .returned (.bool (outB p (x, y))) ∧ Kp w w' := by
  have HA := hid (show Has (w.alloc (.cells #[.int .i64 x, .int .i64 y] 66)) (blk w.heap.size #[.int .i64 x, .int .i64 y] 66 + MS.all w) from (Has.all w).alloc _)
  have HE := hid (Ext.alloc w (.cells #[.int .i64 x, .int .i64 y] 66))
  have hin := hH.of_all HA.out
  have f4 := hg.1.c0 hin
  have f5 := hg.2.1.c0 hin
  have f6 := hg.2.2.c0 hin
  have Hhas := hid (show Calls Tryd.prog 47 #[.agg #[.int .i64 (wd p), .int .i64 p.length, .slice A p.length c], .int .i64 x, .int .i64 y] (w.alloc (.cells #[.int .i64 x, .int .i64 y] 66)) fun e w' => e = .returned (.bool (hsI p x y)) ∧ Kp (w.alloc (.cells #[.int .i64 x, .int .i64 y] 66)) w' from has_any hr hp hin x y)
  have HK := hid (fun (w' : World) (h : Kp (w.alloc (.cells #[.int .i64 x, .int .i64 y] 66)) w') => show Kp w w' from ⟨fun M hM => h.1 _ (hM.of_all HA.out), HE.out.trans h.2⟩)
  have Hm := hid (show outB p (x, y) = (decide (-1 ≤ x ∧ -1 ≤ y ∧ x ≤ (wd p : Int) ∧ y ≤ (p.length : Int)) && !hsI p x y) from rfl)
  obtain ⟨R, hR⟩ : ∃ R, R = outB p (x, y) := ⟨_, rfl⟩
  rw [← hR]
  rw [← hR] at Hm
  generalize (wd p : Int) = WW at *
  generalize (p.length : Int) = HHI at *
  clear hr hp hg hH hin hR
  by_cases h1 : -1 ≤ x
  · by_cases h2 : -1 ≤ y
    · by_cases h3 : x ≤ WW
      · by_cases h4 : y ≤ HHI
        · have HR := hid (show R = !hsI p x y by rw [Hm.out, decide_eq_true ⟨h1, h2, h3, h4⟩]; rfl)
          clear Hm
          cases hq : hsI p x y <;> rw [hq] at Hhas HR <;> clear hq
          · go_enter Tryd.func57, Tryd.ntmps57
            go_wp2_with (go_at_call 47; refine Hhas.out.mono ?_; rintro e5 w5 ⟨rfl, k5⟩; have K5 := hid k5; clear k5)
            go_ret
            exact ⟨by rw [HR.out]; rfl, HK.out _ K5.out⟩
          · go_enter Tryd.func57, Tryd.ntmps57
            go_wp2_with (go_at_call 47; refine Hhas.out.mono ?_; rintro e5 w5 ⟨rfl, k5⟩; have K5 := hid k5; clear k5)
            go_ret
            exact ⟨by rw [HR.out]; rfl, HK.out _ K5.out⟩
        · have HR := hid (show R = false by rw [Hm.out, decide_eq_false (fun h => h4 h.2.2.2)]; rfl)
          clear Hm Hhas
          go_enter Tryd.func57, Tryd.ntmps57
          go_wp2
          go_ret
          exact ⟨by rw [HR.out]; rfl, HK.out _ (Kp.refl _)⟩
      · have HR := hid (show R = false by rw [Hm.out, decide_eq_false (fun h => h3 h.2.2.1)]; rfl)
        clear Hm Hhas
        go_enter Tryd.func57, Tryd.ntmps57
        go_wp2
        go_ret
        exact ⟨by rw [HR.out]; rfl, HK.out _ (Kp.refl _)⟩
    · have HR := hid (show R = false by rw [Hm.out, decide_eq_false (fun h => h2 h.2.1)]; rfl)
      clear Hm Hhas
      go_enter Tryd.func57, Tryd.ntmps57
      go_wp2
      go_ret
      exact ⟨by rw [HR.out]; rfl, HK.out _ (Kp.refl _)⟩
  · have HR := hid (show R = false by rw [Hm.out, decide_eq_false (fun h => h1 h.1)]; rfl)
    clear Hm Hhas
    go_enter Tryd.func57, Tryd.ntmps57
    go_wp2
    go_ret
    exact ⟨by rw [HR.out]; rfl, HK.out _ (Kp.refl _)⟩
theorem par66_any {b g : Nat} {sn : List Cl} {es : Array MapEntry} {clock : Nat} {x y : Int} {w : World} (hS : EntsAre (mapL sn) es clock) (hs : small (x, y)) (hg : w.heap[g]? = some (.map es clock)) (hb : w.cell? ⟨b, 0, none⟩ = some (.map (some g))) :
    Calls Tryd.prog 66 #[.agg #[.int .i64 x, .int .i64 y], .pointer (some ⟨b, 0, none⟩)] w fun e w' => e = .returned (.bool (decide ((x, y) ∈ sn))) ∧ Kp w w' := by
  have HA := hid (show Has (w.alloc (.cells #[.int .i64 x, .int .i64 y] 66)) (blk w.heap.size #[.int .i64 x, .int .i64 y] 66 + MS.all w) from (Has.all w).alloc _)
  have HE := hid (Ext.alloc w (.cells #[.int .i64 x, .int .i64 y] 66))
  have f0 := (all_at hb).2.c0 HA.out.right
  have g0 : (w.alloc (.cells #[.int .i64 x, .int .i64 y] 66)).heap[g]? = some (.map es clock) := (HA.out.right g).2.2 _ (.inl hg)
  have hlk := hS.look1 pair66 und83 (zero4 (w.alloc (.cells #[.int .i64 x, .int .i64 y] 66))) g0 (q := (x, y)) hs
  rw [lk_mapL'] at hlk
  have hlk : (Instr.lookup 83 (.map (some g)) (.agg #[.int .i64 x, .int .i64 y]) false).run Tryd.prog (w.alloc (.cells #[.int .i64 x, .int .i64 y] 66)) = .ok (.bool (decide ((x, y) ∈ sn))) (w.alloc (.cells #[.int .i64 x, .int .i64 y] 66)) := hlk
  generalize decide ((x, y) ∈ sn) = R at *
  clear hS hs hg hb g0
  go_enter Tryd.func66, Tryd.ntmps66
  go_wp2
  go_ret
  exact ⟨rfl, fun M hM => hM.of_all HA.out, HE.out⟩
end Go.Proofs.YtcdhimnmbpllgaaDoor

namespace Go.Proofs.YtcdhimnmbpllgaaDoor
open Go.RowKit
set_option linter.unusedVariables false
set_option linter.unusedSimpArgs false
set_option maxHeartbeats 2000000
set_option maxRecDepth 100000

theorem drawn_66 {F : MS} {p : List ByteArray} {A : Option Addr} {c : Nat} {w : World} {c1 : Value} (hp : RegOk p) (f : Nat → Nat → Bool) (hcl : ∀ W, Has W (MS.all w) → ∀ x y : Nat, x < wd p → y < p.length → Calls Tryd.prog 66 #[.agg #[.int .i64 (x : Int), .int .i64 (y : Int)], c1] W fun e w' => e = .returned (.bool (f x y)) ∧ Kp W w') :
    Calls Tryd.prog 65 #[rgV p A c, .func (.func 66) #[] #[c1]] w fun e w' => ∃ v m, e = .returned v ∧ SlR 9 1 StrR (drawnL p f) v m ∧ (∀ M, Has w M → Has w' (m + M)) ∧ Ext w w' := by
  have HA := hid ((Has.all w).alloc (.cells #[.int .i64 (wd p), .int .i64 p.length, .slice A p.length c] 51))
  have HE := hid (Ext.alloc w (.cells #[.int .i64 (wd p), .int .i64 p.length, .slice A p.length c] 51))
  show Calls Tryd.prog 65 #[.agg #[.int .i64 (wd p), .int .i64 p.length, .slice A p.length c], .func (.func 66) #[] #[c1]] w _
  have hw8 := hp.w8
  have hh8 := hp.h8
  obtain ⟨WN, hWN⟩ : ∃ WN, WN = wd p := ⟨_, rfl⟩
  obtain ⟨HN, hHN⟩ : ∃ HN, HN = p.length := ⟨_, rfl⟩
  have Hend := hid (show drawnK f WN HN = drawnL p f by rw [hWN, hHN]; rfl)
  have Hcl := hid hcl
  rw [← hHN] at HA HE Hcl ⊢
  rw [← hWN] at HA HE Hcl ⊢
  have hWI : (WN : Int) ≤ 8 := by omega
  have hHI : (HN : Int) ≤ 8 := by omega
  have hW8 : WN ≤ 8 := by omega
  have hH8 : HN ≤ 8 := by omega
  have HB := hid (show Has (w.alloc (.cells #[.int .i64 WN, .int .i64 HN, .slice A HN c] 51)) (0 + (blk w.heap.size #[.int .i64 WN, .int .i64 HN, .slice A HN c] 51 + MS.all w)) by rw [MS.zero_add]; exact HA.out)
  clear hp hw8 hh8 hWN hHN hcl
  go_enter Tryd.func65, Tryd.ntmps65
  have f0 := HB.out.right.at_ (i := 1) rfl
  go_wp2
  clear f0
  go_loopw [5, 11] (fun v5 v11 wr => ∃ (y : Nat) (m : MS), y ≤ HN ∧ v11 = .int .i64 y ∧ SlR 9 1 StrR (drawnK f WN y) v5 m ∧ Has wr (m + (blk w.heap.size #[.int .i64 WN, .int .i64 HN, .slice A HN c] 51 + MS.all w)) ∧ Ext w wr) (fun _ v _ => HN - (intOf v).toNat)
  case atStart => exact ⟨0, 0, Nat.zero_le _, rfl, ⟨[], 0, 0, Sl.nil 9 1, RowsR.nil, (MS.zero_add _).symm⟩, HB.out, HE.out⟩
  case round =>
    obtain ⟨y, m, hy, rfl, hs, hW, hE⟩ := hrel
    obtain ⟨A5, c5, rfl, _⟩ := SlR.form hs
    rw [drawnK_len] at hs ⊢
    have HS := hid hs
    have HW := hid hW
    have HE' := hid hE
    clear hs hW hE
    by_cases hlt : y < HN
    · have hltI : (y : Int) < HN := by omega
      have Hlt := hid hlt
      have HI0 := hid (isb_new wr)
      have HB0 := hid (below_alloc wr (.cells #[.pointer none, .slice none 0 0] 124))
      have HW0 := hid (HW.out.keepB (Nat.le_refl _) HB0.out)
      have f0 := HW0.out.right.at_ (i := 0) rfl
      clear hlt hy
      go_wp2
      clear f0
      obtain ⟨b8, hb8⟩ : ∃ b8, b8 = wr.heap.size := ⟨_, rfl⟩
      rw [← hb8] at HI0 HB0 ⊢
      have Hb8 := hid hb8
      clear hb8
      have HKB := hid (show ∀ W, Below b8 wr W → Has W (m + (blk w.heap.size #[.int .i64 WN, .int .i64 HN, .slice A HN c] 51 + MS.all w)) from fun W hb => HW.out.keepB (by rw [Hb8.out]; exact Nat.le_refl _) hb)
      go_loopw [16] (fun v wq => ∃ x : Nat, x ≤ WN ∧ v = .int .i64 x ∧ Lib.IsBuilder 124 5 b8 b8 (Lib.byteCells (drRow f y x)) wq ∧ Below b8 wr wq) (fun v _ => WN - (intOf v).toNat)
      case atStart => exact ⟨0, Nat.zero_le _, rfl, HI0.out, HB0.out⟩
      case round =>
        rename_i wo _ _
        obtain ⟨x, hx, rfl, hI, hB⟩ := hrel
        have HI := hid hI
        have HBl := hid hB
        have HWq := hid (HKB.out wr hB)
        have Hsz := hid (show b8 ≤ wr.heap.size by rw [Hb8.out]; exact hB.size)
        clear hI hB HI0 HB0
        by_cases hlx : x < WN
        · have hlxI : (x : Int) < WN := by omega
          have Hlx := hid hlx
          have hcl := hid (Hcl.out wr HWq.out.right.right x y hlx Hlt.out)
          have Hlen := hid (show (Lib.byteCells (drRow f y x)).length + 1 ≤ 140737488355328 by simp [Lib.byteCells, drRow_len]; omega)
          clear hlx hx
          cases hfx : f x y with
          | true =>
            rw [hfx] at hcl
            have Hfx := hid hfx
            clear hfx
            go_wp2_with (first
              | (go_at_call 66; refine hcl.out.mono ?_; rintro e6 w6 ⟨rfl, k6⟩; have K6 := hid k6; clear k6)
              | (go_at_call 94; refine (writeByte_any b8 b8 _ 35 _ (isb_kp K6.out HI.out) Hlen.out (Nat.le_trans Hsz.out K6.out.2.size)).mono ?_; rintro e8 w8 ⟨rfl, hb8, hbl8⟩; have HI8 := hid hb8; have HB8 := hid ((HBl.out.trans (K6.out.below b8 Hsz.out)).trans hbl8); clear hb8 hbl8))
            go_roundw
            case rel => exact ⟨x + 1, Hlx.out, by go_num, .inr (by have := HI8.out; rw [drRow_succ, Hfx.out]; simpa [Lib.byteCells] using this), HB8.out⟩
            case measure => have := Hlx.out; simp [intOf]; omega
          | false =>
            rw [hfx] at hcl
            have Hfx := hid hfx
            clear hfx
            go_wp2_with (first
              | (go_at_call 66; refine hcl.out.mono ?_; rintro e6 w6 ⟨rfl, k6⟩; have K6 := hid k6; clear k6)
              | (go_at_call 94; refine (writeByte_any b8 b8 _ 46 _ (isb_kp K6.out HI.out) Hlen.out (Nat.le_trans Hsz.out K6.out.2.size)).mono ?_; rintro e8 w8 ⟨rfl, hb8, hbl8⟩; have HI8 := hid hb8; have HB8 := hid ((HBl.out.trans (K6.out.below b8 Hsz.out)).trans hbl8); clear hb8 hbl8))
            go_roundw
            case rel => exact ⟨x + 1, Hlx.out, by go_num, .inr (by have := HI8.out; rw [drRow_succ, Hfx.out]; simpa [Lib.byteCells] using this), HB8.out⟩
            case measure => have := Hlx.out; simp [intOf]; omega
        · have hxe : x = WN := by omega
          subst hxe
          clear hlx hx
          have Hstr := hid (builderString_any b8 b8 (drRow f y x) wr HI.out Hsz.out)
          have Hstr2 := hid (show Calls Tryd.prog 95 #[.pointer (some ⟨b8, 0, none⟩)] wr fun e w' => e = .returned (.string (drStr f x y)) ∧ Below b8 wr w' from Hstr.out)
          have Hl2 := hid (drawnK_succ f x y)
          have hy8 : y ≤ 8 := by have := Hlt.out; omega
          go_wp2_with (first
            | (go_at_call 95; refine Hstr2.out.mono ?_; rintro e8 w8 ⟨rfl, hbl8⟩; have HB8 := hid (HBl.out.trans hbl8); have HW8 := hid (HKB.out _ HB8.out); clear hbl8)
            | (at_builtin; refine wpList_push rfl (.tmp 27) (.tmp 29) row22 rfl (.slice A5 y c5) rfl _ rfl rfl StrR StrR.one StrR.len (drawnK f x y) (drStr f x y) m 0 _ HS.out ⟨rfl, rfl⟩ (HW8.out.eq (by rw [MS.zero_add])) y (drawnK_len _ _ _) (by omega) (by omega) ?_; intro A9 c9 w9 m9 j4 j5 j6; have J4 := hid j4; have J5 := hid j5; have J6 := hid ((HE'.out.trans (Below.ext HB8.out)).trans j6); clear j4 j5 j6))
          go_roundw
          case rel => exact ⟨y + 1, m9, Hlt.out, by go_num, by rw [Hl2.out]; exact J4.out, J5.out, J6.out⟩
          case measure => have := Hlt.out; simp [intOf]; omega
    · have hye : y = HN := by omega
      subst hye
      clear hlt hy
      go_wp2
      go_ret
      exact ⟨_, m, rfl, by rw [← Hend.out]; exact HS.out, fun M hM => (Has.with_all hM (HW.out.eq (by ac_rfl) : Has wr (m + blk w.heap.size #[.int .i64 WN, .int .i64 y, .slice A y c] 51 + MS.all w)) |> fun h => (h.eq (by ac_rfl) : Has wr (m + M + blk w.heap.size #[.int .i64 WN, .int .i64 y, .slice A y c] 51)).left), HE'.out⟩
end Go.Proofs.YtcdhimnmbpllgaaDoor

namespace Go.Proofs.YtcdhimnmbpllgaaDoor
open Go.RowKit Go.MapKept Go.ChangeMaps
set_option linter.unusedVariables false
set_option linter.unusedSimpArgs false
set_option maxHeartbeats 4000000
set_option maxRecDepth 100000

def fourL : List Cl := [(0, -1), (-1, 0), (1, 0), (0, 1)]
theorem four_rd {F : MS} (h : FourOk F) : RdS F RT.cl fourL (.slice (some ⟨0, 0, none⟩) 4 4) := by
  refine ⟨some ⟨0, 0, none⟩, 4, [.int .i64 0, .int .i64 (-1), .int .i64 (-1), .int .i64 0, .int .i64 1, .int .i64 0, .int .i64 0, .int .i64 1], rfl, by decide, by simp [maxLen], fun _ => ⟨0, 0, rfl, fun j u hu => ?_⟩, ?_⟩
  · rw [Nat.zero_add]
    exact h j u (by rw [← hu]; unfold fourV; simp)
  · exact ⟨_, _, rfl, ⟨_, _, rfl, ⟨_, _, rfl, ⟨_, _, rfl, rfl, rfl⟩, rfl⟩, rfl⟩, rfl⟩
/-- A region's rows. -/
def RegR (p : List ByteArray) (f : Nat → Nat → Bool) (cs : List Value) (m : MS) : Prop := ∃ v, cs = [v] ∧ SlR 9 1 StrR (drawnL p f) v m
theorem RegR.one {p : List ByteArray} : ∀ a cs m, RegR p a cs m → ∀ u ∈ cs, u.oneCell' = true := fun a cs m ⟨v, h1, h2⟩ u hu => by
  rw [h1] at hu
  obtain ⟨A, c, rfl, _⟩ := SlR.form h2
  rw [List.mem_singleton.1 hu]; rfl
theorem RegR.len {p : List ByteArray} : ∀ a cs m, RegR p a cs m → cs.length = 1 := fun a cs m ⟨v, h1, _⟩ => by rw [h1]; rfl
theorem row44 : RowTy Tryd.prog 44 22 (.slice none 0 0) 1 24 := ⟨Tryd.underlying44, by kernel_rfl, rfl⟩
theorem size83 : (Tryd.prog.info? 83).map (·.size) = some 1 := by kernel_rfl
/-- Reached within a region. -/
abbrev RP (p : List ByteArray) : Cl → Cl → Prop := Rch (stepL fourL) (fun q => hsI p q.1 q.2 = true)
theorem hs_near1 {p : List ByteArray} (hp : RegOk p) {q : Cl} (h : hsI p q.1 q.2 = true) : near1 q := by
  obtain ⟨x, y, h3, h4, h5, h6⟩ := hsI_nat h
  have := hp.w8
  have := hp.h8
  unfold near1
  omega
theorem slice_four (w : World) : (Instr.sliceAt 99 (.pointer (some ⟨0, 0, none⟩)) none none none).run Tryd.prog w = .ok (.slice (some ⟨0, 0, none⟩) 4 4) w := by kernel_rfl
theorem parts_no {F : MS} {p : List ByteArray} {A : Option Addr} {c : Nat} {w : World} (hr : RdS F RT.str p (.slice A p.length c)) (hl : p.length ≤ 1000) (hs : ∀ s ∈ p, s.size ≤ 1000000) (hH : Has w F) (hq : isReg p = false) :
    Calls Tryd.prog 27 #[.slice A p.length c] w fun e w' => e = .returned (.tuple #[.slice none 0 0, .int .i64 2]) ∧ Kp w w' := by
  have Hof := hid (of_any hr hl hs hH)
  clear hl hs hr hH
  have hv : regV p A c = noReg := by unfold regV; rw [hq]; rfl
  rw [hq, hv] at Hof
  clear hq hv
  go_enter Tryd.func27, Tryd.ntmps27
  go_wp2_with (first
    | (go_at_call 32; refine Hof.out.mono ?_; rintro e1 w1 ⟨rfl, k1⟩; have K1 := hid (k1.1 _ (Has.all w)); have E1 := hid k1.2; have KA := hid ((K1.out).alloc (.cells #[.int .i64 0, .int .i64 0, .slice none 0 0] 51)); have EA := hid (E1.out.trans (Ext.alloc _ (.cells #[.int .i64 0, .int .i64 0, .slice none 0 0] 51))); clear k1)
    | (refine wpList_store_whole rfl (.tmp 4) (.tmp 15) 51 rfl 3 size51 w1.heap.size noReg rfl rfl rfl (by simp [noReg, Value.cells, Value.oneCell']) #[.int .i64 0, .int .i64 0, .slice none 0 0] 51 _ KA.out rfl ?_; intro w6 j1 j2; have HW6 := hid (show Has w6 (blk w1.heap.size #[.int .i64 0, .int .i64 0, .slice none 0 0] 51 + MS.all w) from j1); have HE6 := hid (EA.out.trans j2); clear j1 j2))
  go_ret2
  exact ⟨rfl, fun M hM => hM.of_all HW6.out, HE6.out⟩
theorem parts_yes {F : MS} {p : List ByteArray} {A : Option Addr} {c : Nat} {w : World} (hr : RdS F RT.str p (.slice A p.length c)) (hl : p.length ≤ 1000) (hs : ∀ s ∈ p, s.size ≤ 1000000) (hf : FourOk F) (hH : Has w F) (hq : isReg p = true) :
    Calls Tryd.prog 27 #[.slice A p.length c] w fun e w' => ∃ fs v m, e = .returned (.tuple #[v, .int .i64 0]) ∧ PtsOf (RP p) (inR p) [] (cellsL p) fs ∧ SlR 22 1 (RegR p) fs v m ∧ (∀ M, Has w M → Has w' (m + M)) ∧ Ext w w' := by
  have Hof := hid (of_any hr hl hs hH)
  have hv : regV p A c = rgV p A c := by unfold regV; rw [hq]; rfl
  rw [hq, hv] at Hof
  have hp := (isReg.ok hq).1
  have hra := rd_all_str hr hH
  have hfa := hf.all hH
  have hw8 := hp.w8
  have hh8 := hp.h8
  have Hcells := hid (fun (W : World) (h : Has W (MS.all w)) => show Calls Tryd.prog 37 #[.agg #[.int .i64 (wd p), .int .i64 p.length, .slice A p.length c]] W fun e w' => ∃ v m, e = .returned v ∧ Cls (cellsL p) v m ∧ (∀ M, Has W M → Has w' (m + M)) ∧ Ext W w' from cells_any hra hp h)
  have Hrch := hid (fun (W : World) (X : MS) (b4 X0 Y0 : Nat) (hX : inR p ((X0 : Int), (Y0 : Int))) (h : Has W (X + (blk b4 #[.int .i64 (wd p), .int .i64 p.length, .slice A p.length c] 51 + MS.all w))) =>
    show Calls Tryd.prog 58 #[.agg #[.int .i64 (X0 : Int), .int .i64 (Y0 : Int)], .func (.func 64) #[] #[.pointer (some ⟨b4, 0, none⟩)], .slice (some ⟨0, 0, none⟩) 4 4] W (ReachPost (stepL fourL) (fun q => hsI p q.1 q.2 = true) ((X0 : Int), (Y0 : Int)) W) from
      reached_64 (okB := fun q => hsI p q.1 q.2) (four_rd (FourOk.all (F := MS.all w) hfa h.right.right)) rfl (by decide) (by decide) (hs_near1 hp hX) (fun q hq => hs_near1 hp hq)
        (fun W' hW' x y _ => par64_any (F := MS.all w + blk b4 #[.int .i64 (wd p), .int .i64 p.length, .slice A p.length c] 51) ((hra.less _)) hp ⟨(blk_at rfl).more _, (blk_at rfl).more _, (blk_at rfl).more _⟩ ((h.right.eq (b := MS.all w + blk b4 #[.int .i64 (wd p), .int .i64 p.length, .slice A p.length c] 51) (by ac_rfl)).of_all (X := 0) (by rw [MS.zero_add]; exact hW'))))
  have Hdr := hid (fun (W : World) (X : MS) (b10 g1 : Nat) (sn : List Cl) (es : Array MapEntry) (clock : Nat) (hS : EntsAre (mapL sn) es clock) (h : Has W (blk b10 #[.map (some g1)] 83 + (pts g1 (.map es clock) + X))) =>
    show Calls Tryd.prog 65 #[.agg #[.int .i64 (wd p), .int .i64 p.length, .slice A p.length c], .func (.func 66) #[] #[.pointer (some ⟨b10, 0, none⟩)]] W fun e w' => ∃ v m, e = .returned v ∧ SlR 9 1 StrR (drawnL p (memB sn)) v m ∧ (∀ M, Has W M → Has w' (m + M)) ∧ Ext W w' from
      drawn_66 (F := F) hp (memB sn) (fun W' hW' x y hx hy => by
        have h2 := h.of_all (X := 0) (by rw [MS.zero_add]; exact hW')
        exact par66_any hS (by unfold small; simp only; omega) h2.right.get (h2.at_ rfl)))
  have Hsm := hid (fun (X Y : Nat) (h : inR p ((X : Int), (Y : Int))) => inR_small hp h)
  have Hnat := hid (fun (q : Cl) (h : q ∈ cellsL p) => show inR p q ∧ ∃ X Y : Nat, q = ((X : Int), (Y : Int)) from by
    have h1 := mem_cells.1 h
    obtain ⟨X, Y, h2, h3, _, _⟩ := hsI_nat (show hsI p q.1 q.2 = true from h1)
    exact ⟨h1, X, Y, Prod.ext h2 h3⟩)
  have hc64 : (cellsL p).length ≤ 64 := by
    have h2 := cellsK_len p p.length
    have h3 : p.length * wd p ≤ 8 * 8 := Nat.mul_le_mul hp.h8 hp.w8
    unfold cellsL
    omega
  unfold rgV at Hof
  obtain ⟨WN, hWN⟩ : ∃ WN, WN = wd p := ⟨_, rfl⟩
  obtain ⟨HN, hHN⟩ : ∃ HN, HN = p.length := ⟨_, rfl⟩
  rw [← hWN] at Hof Hcells Hrch Hdr hw8
  rw [← hHN] at Hof Hcells Hrch Hdr hh8 ⊢
  obtain ⟨nC, hnC⟩ : ∃ nC, nC = (cellsL p).length := ⟨_, rfl⟩
  rw [← hnC] at hc64
  have HnC := hid hnC
  have hCI : (nC : Int) ≤ 64 := by omega
  have H0 := hid (Has.all w)
  have E0 := hid (Ext.refl w)
  clear hr hl hs hH hp hWN hHN hq hv hra hfa hf hnC
  go_enter Tryd.func27, Tryd.ntmps27
  go_wp2_with (first
    | (go_at_call 37; refine (Hcells.out wm ((HM.out.eq (b := ((pts g (.map #[] 0) + blk b4 #[.int .i64 (WN : Int), .int .i64 (HN : Int), .slice A HN c] 51) + MS.all w)) (by ac_rfl)).right)).mono ?_; rintro e11 w11 ⟨vC, mC, rfl, hC, k11, l11⟩; have H11 := hid (k11 _ HM.out); have E11 := hid (EM.out.trans l11); clear k11 l11; obtain ⟨AC, cC, rfl, _⟩ := SlR.form hC; rw [← HnC.out] at hC ⊢; have HC := hid hC; clear u0 u1 u2 hC)
    | (refine wpList_run rfl _ _ (ex_makeMap rfl) ?_; obtain ⟨g, hg⟩ : ∃ g, g = w2.heap.size := ⟨_, rfl⟩; have HM := hid (show Has (w2.alloc (.map #[] 0)) (pts g (.map #[] 0) + (blk b4 #[.int .i64 (WN : Int), .int .i64 (HN : Int), .slice A HN c] 51 + MS.all w)) by rw [hg]; exact H2.out.alloc _); have EM := hid (E2.out.trans (Ext.alloc _ (.map #[] 0))); rw [← hg]; generalize w2.alloc (.map #[] 0) = wm at *; clear hg; have u0 := (HM.out.right).at_ (i := 0) rfl; have u1 := (HM.out.right).at_ (i := 1) rfl; have u2 := (HM.out.right).at_ (i := 2) rfl)
    | (rw [← Hb4.out]; refine wpList_store_whole rfl (.tmp 4) (.tmp 15) 51 rfl 3 size51 b4 (.agg #[.int .i64 (WN : Int), .int .i64 (HN : Int), .slice A HN c]) rfl rfl rfl (by simp [Value.cells, Value.oneCell']) #[.int .i64 0, .int .i64 0, .slice none 0 0] 51 _ HAb4.out rfl ?_; intro w2 j1 j2; have H2 := hid (show Has w2 (blk b4 #[.int .i64 (WN : Int), .int .i64 (HN : Int), .slice A HN c] 51 + MS.all w) from j1.eq (by unfold blk; ac_rfl)); have E2 := hid ((E1.out.trans (Ext.alloc _ _)).trans j2); clear j1 j2)
    | (go_at_call 32; refine (Hof.out).mono ?_; rintro e1 w1 ⟨rfl, k1⟩; have H1 := hid (k1.1 _ H0.out); have E1 := hid (E0.out.trans k1.2); clear k1; obtain ⟨b4, hb4⟩ : ∃ b4, b4 = w1.heap.size := ⟨_, rfl⟩; have HAb4 := hid (show Has (w1.alloc (.cells #[.int .i64 0, .int .i64 0, .slice none 0 0] 51)) (blk b4 #[.int .i64 0, .int .i64 0, .slice none 0 0] 51 + MS.all w) by rw [hb4]; exact H1.out.alloc _); have Hb4 := hid hb4; clear hb4))
  clear H0 E0 H1 E1 HAb4
  go_loopw [6, 23] (fun v6 v23 wr => ∃ (i : Nat) (acc us : List Cl) (fs : List (Nat → Nat → Bool)) (es : Array MapEntry) (clock : Nat) (mo : MS), i ≤ nC ∧ v23 = .int .i64 i ∧ SlR 22 1 (RegR p) fs v6 mo ∧ EntsAre (mapL us) es clock ∧ (∀ q, q ∈ us ↔ ∃ a ∈ acc, RP p a q) ∧ fs.length ≤ i ∧ (∀ o, PtsOf (RP p) (inR p) acc ((cellsL p).drop i) o → PtsOf (RP p) (inR p) [] (cellsL p) (fs ++ o)) ∧ Has wr (mo + (pts g (.map es clock) + (mC + (blk b4 #[.int .i64 (WN : Int), .int .i64 (HN : Int), .slice A HN c] 51 + MS.all w)))) ∧ Ext w wr) (fun _ v _ => nC - (intOf v).toNat)
  case atStart => exact ⟨0, [], [], [], #[], 0, 0, Nat.zero_le _, rfl, ⟨[], 0, 0, Sl.nil 22 1, RowsR.nil, (MS.zero_add _).symm⟩, EntsAre.none, by simp, Nat.le_refl _, fun o ho => ho, H11.out.eq (by rw [MS.zero_add]; ac_rfl), E11.out⟩
  case round =>
    clear HM EM H2 E2
    obtain ⟨i, acc, us, fs, es, clock, mo, hi, rfl, hO, hS, hus, hfl, hk, hW, hE⟩ := hrel
    obtain ⟨A6, c6, rfl, _⟩ := SlR.form hO
    obtain ⟨nf, hnf⟩ : ∃ nf, nf = fs.length := ⟨_, rfl⟩
    rw [← hnf] at hO hfl ⊢
    have Hnf := hid hnf
    have HO := hid hO
    have HS := hid hS
    have Hus := hid hus
    have HK := hid hk
    have HW := hid hW
    have HE := hid hE
    have hnf64 : nf ≤ 64 := by omega
    have hnfI : (nf : Int) ≤ 64 := by omega
    clear hO hS hus hk hW hE hnf
    by_cases hlt : i < nC
    · have hltI : (i : Int) < nC := by omega
      have Hlt := hid hlt
      have Hfl := hid hfl
      obtain ⟨x, hx⟩ : ∃ x, (cellsL p)[i]? = some x := ⟨_, List.getElem?_eq_getElem (by rw [← HnC.out]; exact hlt)⟩
      have hdr : (cellsL p).drop i = x :: (cellsL p).drop (i + 1) := by
        obtain ⟨h1, h2⟩ := List.getElem?_eq_some_iff.1 hx
        rw [List.drop_eq_getElem_cons h1, h2]
      obtain ⟨bo, oo, hbo, n0, n1⟩ := HC.out.rd.getCl hx
      subst hbo
      obtain ⟨hxin, X, Y, rfl⟩ := Hnat.out x (List.mem_of_getElem? hx)
      have Hxin := hid hxin
      have Hxsm := hid (Hsm.out X Y hxin)
      have Hdr' := hid hdr
      have y0 := n0.c0 ((HW.out.eq (b := (mC + (mo + (pts g (.map es clock) + (blk b4 #[.int .i64 (WN : Int), .int .i64 (HN : Int), .slice A HN c] 51 + MS.all w))))) (by ac_rfl)).left)
      have y1 := n1.c0 ((HW.out.eq (b := (mC + (mo + (pts g (.map es clock) + (blk b4 #[.int .i64 (WN : Int), .int .i64 (HN : Int), .slice A HN c] 51 + MS.all w))))) (by ac_rfl)).left)
      simp only at y0 y1
      clear hlt hi hx n0 n1 hxin hdr hfl
      obtain ⟨b9, hb9⟩ : ∃ b9, b9 = wr.heap.size := ⟨_, rfl⟩; have HAb9 := hid (show Has (wr.alloc (.cells #[.int .i64 0, .int .i64 0] 66)) (blk b9 #[.int .i64 0, .int .i64 0] 66 + (mo + (pts g (.map es clock) + (mC + (blk b4 #[.int .i64 (WN : Int), .int .i64 (HN : Int), .slice A HN c] 51 + MS.all w))))) by rw [hb9]; exact HW.out.alloc _); have Hb9 := hid hb9; clear hb9
      by_cases hsn : ((X : Int), (Y : Int)) ∈ us
      · have hk2 := hid (fun o (ho : PtsOf (RP p) (inR p) acc ((cellsL p).drop (i + 1)) o) => HK.out o (by rw [Hdr'.out]; exact .inl ⟨.inr ((Hus.out _).1 hsn), ho⟩))
        go_wp2_with (rw [← Hb9.out]; refine wpList_store_whole rfl (.tmp 9) (.tmp 26) 66 rfl 2 size66 b9 (.agg #[.int .i64 (X : Int), .int .i64 (Y : Int)]) rfl rfl rfl (by simp [Value.cells, Value.oneCell']) #[.int .i64 0, .int .i64 0] 66 _ HAb9.out rfl ?_; intro w21 j1 j2; have H21 := hid (show Has w21 (blk b9 #[.int .i64 (X : Int), .int .i64 (Y : Int)] 66 + (mo + (pts g (.map es clock) + (mC + (blk b4 #[.int .i64 (WN : Int), .int .i64 (HN : Int), .slice A HN c] 51 + MS.all w))))) from j1.eq (by unfold blk; ac_rfl)); have E21 := hid ((HE.out.trans (Ext.alloc _ _)).trans j2); clear j1 j2; clear y0 y1; have z0 := (H21.out.eq (b := (blk b9 #[.int .i64 (X : Int), .int .i64 (Y : Int)] 66 + (mo + (pts g (.map es clock) + (mC + (blk b4 #[.int .i64 (WN : Int), .int .i64 (HN : Int), .slice A HN c] 51 + MS.all w)))))) (by ac_rfl)).at_ (i := 0) rfl; have z1 := (H21.out.eq (b := (blk b9 #[.int .i64 (X : Int), .int .i64 (Y : Int)] 66 + (mo + (pts g (.map es clock) + (mC + (blk b4 #[.int .i64 (WN : Int), .int .i64 (HN : Int), .slice A HN c] 51 + MS.all w)))))) (by ac_rfl)).at_ (i := 1) rfl; have hlk := HS.out.look1 pair66 und83 (zero4 w21) ((H21.out.eq (b := (pts g (.map es clock) + (blk b9 #[.int .i64 (X : Int), .int .i64 (Y : Int)] 66 + (mo + (mC + (blk b4 #[.int .i64 (WN : Int), .int .i64 (HN : Int), .slice A HN c] 51 + MS.all w)))))) (by ac_rfl)).get) (q := ((X : Int), (Y : Int))) Hxsm.out; rw [lk_mapL'] at hlk; have hlk : (Instr.lookup 83 (.map (some g)) (.agg #[.int .i64 (X : Int), .int .i64 (Y : Int)]) false).run Tryd.prog w21 = .ok (.bool true) w21 := (by rw [decide_eq_true hsn] at hlk; exact hlk))
        go_roundw
        case rel => exact ⟨i + 1, acc, us, fs, es, clock, mo, Hlt.out, by go_num, (by have h := HO.out; rw [Hnf.out] at h ⊢; exact h), HS.out, Hus.out, by have := Hfl.out; have := Hnf.out; omega, hk2.out, (H21.out.eq (b := (mo + (pts g (.map es clock) + (mC + (blk b4 #[.int .i64 (WN : Int), .int .i64 (HN : Int), .slice A HN c] 51 + MS.all w)))) + (blk b9 #[.int .i64 (X : Int), .int .i64 (Y : Int)] 66)) (by ac_rfl)).left, E21.out⟩
        case measure => have := Hlt.out; simp [intOf]; omega
      · have Hsn := hid hsn
        go_wp2_with (rw [← Hb9.out]; refine wpList_store_whole rfl (.tmp 9) (.tmp 26) 66 rfl 2 size66 b9 (.agg #[.int .i64 (X : Int), .int .i64 (Y : Int)]) rfl rfl rfl (by simp [Value.cells, Value.oneCell']) #[.int .i64 0, .int .i64 0] 66 _ HAb9.out rfl ?_; intro w21 j1 j2; have H21 := hid (show Has w21 (blk b9 #[.int .i64 (X : Int), .int .i64 (Y : Int)] 66 + (mo + (pts g (.map es clock) + (mC + (blk b4 #[.int .i64 (WN : Int), .int .i64 (HN : Int), .slice A HN c] 51 + MS.all w))))) from j1.eq (by unfold blk; ac_rfl)); have E21 := hid ((HE.out.trans (Ext.alloc _ _)).trans j2); clear j1 j2; clear y0 y1; have z0 := (H21.out.eq (b := (blk b9 #[.int .i64 (X : Int), .int .i64 (Y : Int)] 66 + (mo + (pts g (.map es clock) + (mC + (blk b4 #[.int .i64 (WN : Int), .int .i64 (HN : Int), .slice A HN c] 51 + MS.all w)))))) (by ac_rfl)).at_ (i := 0) rfl; have z1 := (H21.out.eq (b := (blk b9 #[.int .i64 (X : Int), .int .i64 (Y : Int)] 66 + (mo + (pts g (.map es clock) + (mC + (blk b4 #[.int .i64 (WN : Int), .int .i64 (HN : Int), .slice A HN c] 51 + MS.all w)))))) (by ac_rfl)).at_ (i := 1) rfl; have hlk := HS.out.look1 pair66 und83 (zero4 w21) ((H21.out.eq (b := (pts g (.map es clock) + (blk b9 #[.int .i64 (X : Int), .int .i64 (Y : Int)] 66 + (mo + (mC + (blk b4 #[.int .i64 (WN : Int), .int .i64 (HN : Int), .slice A HN c] 51 + MS.all w)))))) (by ac_rfl)).get) (q := ((X : Int), (Y : Int))) Hxsm.out; rw [lk_mapL'] at hlk; have hlk : (Instr.lookup 83 (.map (some g)) (.agg #[.int .i64 (X : Int), .int .i64 (Y : Int)]) false).run Tryd.prog w21 = .ok (.bool false) w21 := (by rw [decide_eq_false hsn] at hlk; exact hlk))
        clear hsn
        clear z0 z1 hlk
        have HD := hid (show Has w21.drew (blk b9 #[.int .i64 (X : Int), .int .i64 (Y : Int)] 66 + (mo + (pts g (.map es clock) + (mC + (blk b4 #[.int .i64 (WN : Int), .int .i64 (HN : Int), .slice A HN c] 51 + MS.all w))))) from H21.out.drew)
        have ED := hid (E21.out.trans (Ext.drew _))
        have hS : (fun W' : World => W'.cell? ⟨b9, 0, none⟩ = some (.int .i64 (X : Int)) ∧ W'.cell? ⟨b9, 1, none⟩ = some (.int .i64 (Y : Int))) w21.drew := ⟨(HD.out.eq (b := (blk b9 #[.int .i64 (X : Int), .int .i64 (Y : Int)] 66 + (mo + (pts g (.map es clock) + (mC + (blk b4 #[.int .i64 (WN : Int), .int .i64 (HN : Int), .slice A HN c] 51 + MS.all w)))))) (by ac_rfl)).at_ (i := 0) rfl, (HD.out.eq (b := (blk b9 #[.int .i64 (X : Int), .int .i64 (Y : Int)] 66 + (mo + (pts g (.map es clock) + (mC + (blk b4 #[.int .i64 (WN : Int), .int .i64 (HN : Int), .slice A HN c] 51 + MS.all w)))))) (by ac_rfl)).at_ (i := 1) rfl⟩
        refine wp_region_tree (fun W' => W'.cell? ⟨b9, 0, none⟩ = some (.int .i64 (X : Int)) ∧ W'.cell? ⟨b9, 1, none⟩ = some (.int .i64 (Y : Int))) (some 5) (.quiet 0 (.quiet 1 (.quiet 2 (.two 3 4 (.one 4 (.one 5 .done)) (.one 3 (.one 5 .done))))))
          (by kernel_rfl) (by kernel_rfl) (by kernel_rfl) (by repeat (first | with_reducible refine PanicOk.thn ?_ | with_reducible refine PanicOk.blk ?_ | exact PanicOk.body _ _ _)) ?_
        refine tree_quiet (.agg #[.int .i64 (X : Int), .int .i64 (Y : Int)]) hS rfl rfl (fun W' h => by obtain ⟨h0, h1⟩ := h; go_simp) ?_
        refine tree_quiet (.func (.func 64) #[] #[.pointer (some ⟨b4, 0, none⟩)]) hS rfl rfl (fun W' h => by go_simp) ?_
        refine tree_quiet (.slice (some ⟨0, 0, none⟩) 4 4) hS rfl rfl (fun W' h => by have := slice_four W'; go_simp) ?_
        refine tree_two ?_ ?_
        · refine tree_op rfl rfl ?_
          refine op_call 58 _ _ (by go_simp) _ (Hrch.out w21.drew _ b4 X Y Hxin.out (HD.out.eq (b := ((blk b9 #[.int .i64 (X : Int), .int .i64 (Y : Int)] 66 + (mo + (pts g (.map es clock) + mC)))) + (blk b4 #[.int .i64 (WN : Int), .int .i64 (HN : Int), .slice A HN c] 51 + MS.all w)) (by ac_rfl))) ?_
          rintro e60 w60 ⟨g1, sn, es1, clock1, rfl, hS1, hsn, k60, l60⟩
          have HS1 := hid hS1
          have Hsnq := hid hsn
          have H60 := hid (k60 _ HD.out)
          have E60 := hid (ED.out.trans l60)
          clear k60 l60 hS1 hsn hS
          have hS : (fun W' : World => W'.cell? ⟨b9, 0, none⟩ = some (.int .i64 (X : Int)) ∧ W'.cell? ⟨b9, 1, none⟩ = some (.int .i64 (Y : Int))) w60 := ⟨(H60.out.eq (b := (blk b9 #[.int .i64 (X : Int), .int .i64 (Y : Int)] 66 + (pts g1 (.map es1 clock1) + (mo + (pts g (.map es clock) + (mC + (blk b4 #[.int .i64 (WN : Int), .int .i64 (HN : Int), .slice A HN c] 51 + MS.all w))))))) (by ac_rfl)).at_ (i := 0) rfl, (H60.out.eq (b := (blk b9 #[.int .i64 (X : Int), .int .i64 (Y : Int)] 66 + (pts g1 (.map es1 clock1) + (mo + (pts g (.map es clock) + (mC + (blk b4 #[.int .i64 (WN : Int), .int .i64 (HN : Int), .slice A HN c] 51 + MS.all w))))))) (by ac_rfl)).at_ (i := 1) rfl⟩
          refine ⟨_, rfl, fun _ => hS, ?_⟩
          refine tree_op rfl rfl ?_
          refine op_run (.pointer (some ⟨w60.heap.size, 0, none⟩)) (w60.alloc (.cells #[.map none] 83)) (by go_simp) ?_
          obtain ⟨b10, hb10⟩ : ∃ b10, b10 = w60.heap.size := ⟨_, rfl⟩
          have H61 := hid (show Has (w60.alloc (.cells #[.map none] 83)) (blk b10 #[.map none] 83 + (pts g1 (.map es1 clock1) + (blk b9 #[.int .i64 (X : Int), .int .i64 (Y : Int)] 66 + (mo + (pts g (.map es clock) + (mC + (blk b4 #[.int .i64 (WN : Int), .int .i64 (HN : Int), .slice A HN c] 51 + MS.all w))))))) by rw [hb10]; exact H60.out.alloc _)
          have E61 := hid (E60.out.trans (Ext.alloc _ (.cells #[.map none] 83)))
          rw [← hb10]
          generalize w60.alloc (.cells #[.map none] 83) = w61 at *
          clear hb10 hS
          have hS : (fun W' : World => W'.cell? ⟨b9, 0, none⟩ = some (.int .i64 (X : Int)) ∧ W'.cell? ⟨b9, 1, none⟩ = some (.int .i64 (Y : Int))) w61 := ⟨(H61.out.eq (b := (blk b9 #[.int .i64 (X : Int), .int .i64 (Y : Int)] 66 + (blk b10 #[.map none] 83 + (pts g1 (.map es1 clock1) + (mo + (pts g (.map es clock) + (mC + (blk b4 #[.int .i64 (WN : Int), .int .i64 (HN : Int), .slice A HN c] 51 + MS.all w)))))))) (by ac_rfl)).at_ (i := 0) rfl, (H61.out.eq (b := (blk b9 #[.int .i64 (X : Int), .int .i64 (Y : Int)] 66 + (blk b10 #[.map none] 83 + (pts g1 (.map es1 clock1) + (mo + (pts g (.map es clock) + (mC + (blk b4 #[.int .i64 (WN : Int), .int .i64 (HN : Int), .slice A HN c] 51 + MS.all w)))))))) (by ac_rfl)).at_ (i := 1) rfl⟩
          refine ⟨fun _ => hS, ?_⟩
          refine tree_op rfl rfl ?_
          refine op_store_whole (.tmp 10) (.tmp 33) 83 rfl 1 size83 b10 (.map (some g1)) rfl rfl rfl (by simp [Value.cells, Value.oneCell']) _ 83 _ (H61.out.eq (b := (blk b10 #[.map none] 83 + (pts g1 (.map es1 clock1) + (blk b9 #[.int .i64 (X : Int), .int .i64 (Y : Int)] 66 + (mo + (pts g (.map es clock) + (mC + (blk b4 #[.int .i64 (WN : Int), .int .i64 (HN : Int), .slice A HN c] 51 + MS.all w)))))))) (by ac_rfl)) rfl ?_
          intro w70 j1 j2
          have H70 := hid (show Has w70 (blk b10 #[.map (some g1)] 83 + (pts g1 (.map es1 clock1) + (blk b9 #[.int .i64 (X : Int), .int .i64 (Y : Int)] 66 + (mo + (pts g (.map es clock) + (mC + (blk b4 #[.int .i64 (WN : Int), .int .i64 (HN : Int), .slice A HN c] 51 + MS.all w))))))) from j1.eq (by unfold blk; ac_rfl))
          have E70 := hid (E61.out.trans j2)
          clear j1 j2 hS
          refine ⟨fun h => absurd rfl h, ?_⟩
          refine tree_done ?_
          try simp only [Act.put]
          clear H61 E61
          have z10 := (H70.out.eq (b := (blk b10 #[.map (some g1)] 83 + (pts g1 (.map es1 clock1) + (blk b9 #[.int .i64 (X : Int), .int .i64 (Y : Int)] 66 + (mo + (pts g (.map es clock) + (mC + (blk b4 #[.int .i64 (WN : Int), .int .i64 (HN : Int), .slice A HN c] 51 + MS.all w)))))))) (by ac_rfl)).at_ (i := 0) rfl
          have HSz := hid ((H70.out.eq (b := (pts g1 (.map es1 clock1) + (blk b10 #[.map (some g1)] 83 + (blk b9 #[.int .i64 (X : Int), .int .i64 (Y : Int)] 66 + (mo + (pts g (.map es clock) + (mC + (blk b4 #[.int .i64 (WN : Int), .int .i64 (HN : Int), .slice A HN c] 51 + MS.all w)))))))) (by ac_rfl)).get)
          go_wp2_with (refine wpList_run rfl _ _ (ex_range rfl und83 rfl HSz.out) ?_; obtain ⟨r, hr⟩ : ∃ r, r = w70.heap.size := ⟨_, rfl⟩; have H71 := hid (show Has (w70.alloc (itO g1 clock1 #[])) (pts r (itO g1 clock1 #[]) + (blk b10 #[.map (some g1)] 83 + (pts g1 (.map es1 clock1) + (blk b9 #[.int .i64 (X : Int), .int .i64 (Y : Int)] 66 + (mo + (pts g (.map es clock) + (mC + (blk b4 #[.int .i64 (WN : Int), .int .i64 (HN : Int), .slice A HN c] 51 + MS.all w)))))))) by rw [hr]; exact H70.out.alloc _); have E71 := hid (E70.out.trans (Ext.alloc _ (itO g1 clock1 #[]))); rw [← hr]; generalize w70.alloc (itO g1 clock1 #[]) = w71 at *; clear hr z10)
          clear HSz
          simp only [Act.put, List.setIfInBounds_toArray, List.set_cons_succ, List.set_cons_zero]
          go_loopw [36] (fun _ wq => ∃ (st : Array Nat) (us2 : List Cl) (es2 : Array MapEntry) (clock2 : Nat), EntsAre (mapL us2) es2 clock2 ∧ (∀ q, come es1 st q → q ∈ us2) ∧ (∀ q ∈ us, q ∈ us2) ∧ (∀ q ∈ us2, q ∈ us ∨ q ∈ sn) ∧ Has wq (pts r (itO g1 clock1 st) + (pts g1 (.map es1 clock1) + (pts g (.map es2 clock2) + (blk b10 #[.map (some g1)] 83 + (blk b9 #[.int .i64 (X : Int), .int .i64 (Y : Int)] 66 + (mo + (mC + (blk b4 #[.int .i64 (WN : Int), .int .i64 (HN : Int), .slice A HN c] 51 + MS.all w)))))))) ∧ Ext w wq) (fun _ wq => itLeft wq r g1)
          case atStart => exact ⟨#[], us, es, clock, HS.out, fun q h => absurd h (come_nil es1 q), fun q h => h, fun q h => .inl h, H71.out.eq (by ac_rfl), E71.out⟩
          case round =>
            clear H71 E71 H70 E70
            obtain ⟨st, us2, es2, clock2, hS2, hcm, hu1, hu2, hWq, hEq⟩ := hrel
            have HS2 := hid hS2
            have Hcm := hid hcm
            have Hu1 := hid hu1
            have Hu2 := hid hu2
            have HWq := hid hWq
            have HEq := hid hEq
            clear hS2 hcm hu1 hu2 hWq hEq
            go_wp2_with (refine wpList_nextM rfl (.tmp 35) rfl r g1 rfl HS1.out HWq.out ?_ ?_)
            · intro hdone
              have hus2 := hid (show ∀ q, q ∈ us2 ↔ ∃ a ∈ ((X : Int), (Y : Int)) :: acc, RP p a q from fun q => by
                constructor
                · intro hq
                  rcases Hu2.out q hq with h | h
                  · obtain ⟨a, ha, h⟩ := (Hus.out q).1 h
                    exact ⟨a, List.mem_cons_of_mem _ ha, h⟩
                  · exact ⟨_, List.mem_cons_self .., (Hsnq.out q).1 h⟩
                · rintro ⟨a, ha, h⟩
                  rcases List.mem_cons.1 ha with rfl | ha
                  · exact Hcm.out q (hdone q.1 q.2 ((Hsnq.out q).2 h))
                  · exact Hu1.out q ((Hus.out q).2 ⟨a, ha, h⟩))
              have hk2 := hid (fun o (ho : PtsOf (RP p) (inR p) (((X : Int), (Y : Int)) :: acc) ((cellsL p).drop (i + 1)) o) => show PtsOf (RP p) (inR p) [] (cellsL p) ((fs ++ [memB sn]) ++ o) from by
                rw [List.append_assoc]
                exact HK.out _ (by rw [Hdr'.out]; exact .inr ⟨Hxin.out, fun h => Hsn.out ((Hus.out _).2 h), sn, o, Hsnq.out, rfl, ho⟩))
              clear hdone
              have u0 := (HWq.out.eq (b := (blk b4 #[.int .i64 (WN : Int), .int .i64 (HN : Int), .slice A HN c] 51 + (pts r (itO g1 clock1 st) + (pts g1 (.map es1 clock1) + (pts g (.map es2 clock2) + (blk b10 #[.map (some g1)] 83 + (blk b9 #[.int .i64 (X : Int), .int .i64 (Y : Int)] 66 + (mo + (mC + MS.all w))))))))) (by ac_rfl)).at_ (i := 0) rfl
              have u1 := (HWq.out.eq (b := (blk b4 #[.int .i64 (WN : Int), .int .i64 (HN : Int), .slice A HN c] 51 + (pts r (itO g1 clock1 st) + (pts g1 (.map es1 clock1) + (pts g (.map es2 clock2) + (blk b10 #[.map (some g1)] 83 + (blk b9 #[.int .i64 (X : Int), .int .i64 (Y : Int)] 66 + (mo + (mC + MS.all w))))))))) (by ac_rfl)).at_ (i := 1) rfl
              have u2 := (HWq.out.eq (b := (blk b4 #[.int .i64 (WN : Int), .int .i64 (HN : Int), .slice A HN c] 51 + (pts r (itO g1 clock1 st) + (pts g1 (.map es1 clock1) + (pts g (.map es2 clock2) + (blk b10 #[.map (some g1)] 83 + (blk b9 #[.int .i64 (X : Int), .int .i64 (Y : Int)] 66 + (mo + (mC + MS.all w))))))))) (by ac_rfl)).at_ (i := 2) rfl
              go_wp2_with (first
                | (at_builtin; refine wpList_push rfl (.tmp 42) (.tmp 46) row44 rfl (.slice A6 nf c6) rfl _ rfl (by simp) (RegR p) RegR.one RegR.len fs (memB sn) mo md (pts r (itO g1 clock1 st) + (pts g1 (.map es1 clock1) + (pts g (.map es2 clock2) + (blk b10 #[.map (some g1)] 83 + (blk b9 #[.int .i64 (X : Int), .int .i64 (Y : Int)] 66 + (mC + (blk b4 #[.int .i64 (WN : Int), .int .i64 (HN : Int), .slice A HN c] 51 + MS.all w))))))) HO.out ⟨_, rfl, HDd.out⟩ (H81.out.eq (by ac_rfl)) nf Hnf.out.symm (by omega) (by omega) ?_; intro A82 c82 w82 m9 j4 j5 j6; have D82 := hid j4; have H82 := hid (show Has w82 (pts r (itO g1 clock1 st) + (pts g1 (.map es1 clock1) + (pts g (.map es2 clock2) + (blk b10 #[.map (some g1)] 83 + (blk b9 #[.int .i64 (X : Int), .int .i64 (Y : Int)] 66 + (m9 + (mC + (blk b4 #[.int .i64 (WN : Int), .int .i64 (HN : Int), .slice A HN c] 51 + MS.all w)))))))) from j5.eq (by ac_rfl)); have E82 := hid (E81.out.trans j6); clear j4 j5 j6)
                | (go_at_call 65; refine (Hdr.out wr _ b10 g1 sn es1 clock1 HS1.out (HWq.out.eq (b := (blk b10 #[.map (some g1)] 83 + (pts g1 (.map es1 clock1) + (pts r (itO g1 clock1 st) + (pts g (.map es2 clock2) + (blk b9 #[.int .i64 (X : Int), .int .i64 (Y : Int)] 66 + (mo + (mC + (blk b4 #[.int .i64 (WN : Int), .int .i64 (HN : Int), .slice A HN c] 51 + MS.all w))))))))) (by ac_rfl))).mono ?_; rintro e81 w81 ⟨vd, md, rfl, hd, k81, l81⟩; obtain ⟨Ad, cd, rfl, _⟩ := SlR.form hd; have HDd := hid hd; have H81 := hid (k81 _ HWq.out); have E81 := hid (HEq.out.trans l81); clear k81 l81 hd u0 u1 u2))
              go_roundw
              case rel => exact ⟨i + 1, ((X : Int), (Y : Int)) :: acc, us2, fs ++ [memB sn], es2, clock2, m9, Hlt.out, by go_num, D82.out, HS2.out, hus2.out, by rw [List.length_append, List.length_singleton]; have := Hfl.out; have := Hnf.out; omega, hk2.out, (H82.out.eq (b := (m9 + (pts g (.map es2 clock2) + (mC + (blk b4 #[.int .i64 (WN : Int), .int .i64 (HN : Int), .slice A HN c] 51 + MS.all w)))) + ((pts r (itO g1 clock1 st) + (pts g1 (.map es1 clock1) + (blk b10 #[.map (some g1)] 83 + blk b9 #[.int .i64 (X : Int), .int .i64 (Y : Int)] 66))))) (by ac_rfl)).left, E82.out⟩
              case measure => have := Hlt.out; simp [intOf]; omega
            · intro qx qy st' wn hqs hcome hless hWn hEn hen
              have hqsm := hid (HS1.out.2.2 ((qx, qy), .bool true) (by unfold mapL; exact List.mem_map.2 ⟨_, hqs, rfl⟩))
              have Hqs := hid hqs
              have hc1 := hid (show ∀ q', come es1 st' q' → q' ∈ insN us2 (qx, qy) from fun q' h => by
                rcases hcome q'.1 q'.2 h with h | h
                · exact insN_mem.2 (.inl (Hcm.out q' h))
                · exact insN_mem.2 (.inr (Prod.ext h.1 h.2)))
              have hc2 := hid (show ∀ q' ∈ us, q' ∈ insN us2 (qx, qy) from fun q' h => insN_mem.2 (.inl (Hu1.out q' h)))
              have hc3 := hid (show ∀ q' ∈ insN us2 (qx, qy), q' ∈ us ∨ q' ∈ sn from fun q' h => by
                rcases insN_mem.1 h with h | h
                · exact Hu2.out q' h
                · rw [h]; exact .inr hqs)
              have Hless := hid hless
              have HWn := hid hWn
              have HEn := hid (HEq.out.trans hEn)
              clear hqs hcome hless hWn hEn
              obtain ⟨b11, hb11⟩ : ∃ b11, b11 = wn.heap.size := ⟨_, rfl⟩; have HAb11 := hid (show Has (wn.alloc (.cells #[.int .i64 0, .int .i64 0] 66)) (blk b11 #[.int .i64 0, .int .i64 0] 66 + (pts r (itO g1 clock1 st') + (pts g1 (.map es1 clock1) + (pts g (.map es2 clock2) + (blk b10 #[.map (some g1)] 83 + (blk b9 #[.int .i64 (X : Int), .int .i64 (Y : Int)] 66 + (mo + (mC + (blk b4 #[.int .i64 (WN : Int), .int .i64 (HN : Int), .slice A HN c] 51 + MS.all w))))))))) by rw [hb11]; exact HWn.out.alloc _); have Hb11 := hid hb11; clear hb11
              go_wp2_with (first
                | (refine wpList_putM pair66 und83 rfl (.tmp 40) (.tmp 41) (.const (.bool true)) (.inl rfl) g rfl (qx, qy) rfl (.bool true) rfl HS2.out hqsm.out _ (H91.out.eq (b := (pts g (.map es2 clock2) + (blk b11 #[.int .i64 qx, .int .i64 qy] 66 + (pts r (itO g1 clock1 st') + (pts g1 (.map es1 clock1) + (blk b10 #[.map (some g1)] 83 + (blk b9 #[.int .i64 (X : Int), .int .i64 (Y : Int)] 66 + (mo + (mC + (blk b4 #[.int .i64 (WN : Int), .int .i64 (HN : Int), .slice A HN c] 51 + MS.all w)))))))))) (by ac_rfl)) ?_; intro es5 clock5 w92 j1 j2 j3; rw [mapL_ins] at j1; have S5 := hid j1; have E92 := hid (E91.out.trans j3); have H92 := hid (show Has w92 (blk b11 #[.int .i64 qx, .int .i64 qy] 66 + (pts r (itO g1 clock1 st') + (pts g1 (.map es1 clock1) + (pts g (.map es5 clock5) + (blk b10 #[.map (some g1)] 83 + (blk b9 #[.int .i64 (X : Int), .int .i64 (Y : Int)] 66 + (mo + (mC + (blk b4 #[.int .i64 (WN : Int), .int .i64 (HN : Int), .slice A HN c] 51 + MS.all w))))))))) from j2.eq (by ac_rfl)); clear j1 j2 j3 v0 v1)
                | (rw [← Hb11.out]; refine wpList_store_whole rfl (.tmp 11) (.tmp 39) 66 rfl 2 size66 b11 (.agg #[.int .i64 qx, .int .i64 qy]) rfl rfl rfl (by simp [Value.cells, Value.oneCell']) #[.int .i64 0, .int .i64 0] 66 _ HAb11.out rfl ?_; intro w91 j1 j2; have H91 := hid (show Has w91 (blk b11 #[.int .i64 qx, .int .i64 qy] 66 + (pts r (itO g1 clock1 st') + (pts g1 (.map es1 clock1) + (pts g (.map es2 clock2) + (blk b10 #[.map (some g1)] 83 + (blk b9 #[.int .i64 (X : Int), .int .i64 (Y : Int)] 66 + (mo + (mC + (blk b4 #[.int .i64 (WN : Int), .int .i64 (HN : Int), .slice A HN c] 51 + MS.all w))))))))) from j1.eq (by unfold blk; ac_rfl)); have E91 := hid ((HEn.out.trans (Ext.alloc _ _)).trans j2); clear j1 j2; have v0 := (H91.out.eq (b := (blk b11 #[.int .i64 qx, .int .i64 qy] 66 + (pts r (itO g1 clock1 st') + (pts g1 (.map es1 clock1) + (pts g (.map es2 clock2) + (blk b10 #[.map (some g1)] 83 + (blk b9 #[.int .i64 (X : Int), .int .i64 (Y : Int)] 66 + (mo + (mC + (blk b4 #[.int .i64 (WN : Int), .int .i64 (HN : Int), .slice A HN c] 51 + MS.all w)))))))))) (by ac_rfl)).at_ (i := 0) rfl; have v1 := (H91.out.eq (b := (blk b11 #[.int .i64 qx, .int .i64 qy] 66 + (pts r (itO g1 clock1 st') + (pts g1 (.map es1 clock1) + (pts g (.map es2 clock2) + (blk b10 #[.map (some g1)] 83 + (blk b9 #[.int .i64 (X : Int), .int .i64 (Y : Int)] 66 + (mo + (mC + (blk b4 #[.int .i64 (WN : Int), .int .i64 (HN : Int), .slice A HN c] 51 + MS.all w)))))))))) (by ac_rfl)).at_ (i := 1) rfl))
              go_roundw
              case rel => exact ⟨st', insN us2 (qx, qy), es5, clock5, S5.out, fun x y h => hc1.out (x, y) h, fun x y h => hc2.out (x, y) h, fun x y h => hc3.out (x, y) h, (H92.out.eq (b := (pts r (itO g1 clock1 st') + (pts g1 (.map es1 clock1) + (pts g (.map es5 clock5) + (blk b10 #[.map (some g1)] 83 + (blk b9 #[.int .i64 (X : Int), .int .i64 (Y : Int)] 66 + (mo + (mC + (blk b4 #[.int .i64 (WN : Int), .int .i64 (HN : Int), .slice A HN c] 51 + MS.all w)))))))) + blk b11 #[.int .i64 qx, .int .i64 qy] 66) (by ac_rfl)).left, E92.out⟩
              case measure =>
                rw [itLeft_of ((H92.out.eq (b := (pts r (itO g1 clock1 st') + (pts g1 (.map es1 clock1) + (pts g (.map es5 clock5) + (blk b10 #[.map (some g1)] 83 + (blk b9 #[.int .i64 (X : Int), .int .i64 (Y : Int)] 66 + (mo + (mC + (blk b4 #[.int .i64 (WN : Int), .int .i64 (HN : Int), .slice A HN c] 51 + MS.all w)))))))) + blk b11 #[.int .i64 qx, .int .i64 qy] 66) (by ac_rfl)).left), itLeft_of HWq.out]
                exact Hless.out
        · refine tree_op rfl rfl ?_
          refine op_run (.pointer (some ⟨w21.drew.heap.size, 0, none⟩)) (w21.drew.alloc (.cells #[.map none] 83)) (by go_simp) ?_
          obtain ⟨b10, hb10⟩ : ∃ b10, b10 = w21.drew.heap.size := ⟨_, rfl⟩
          have H62 := hid (show Has (w21.drew.alloc (.cells #[.map none] 83)) (blk b10 #[.map none] 83 + (blk b9 #[.int .i64 (X : Int), .int .i64 (Y : Int)] 66 + (mo + (pts g (.map es clock) + (mC + (blk b4 #[.int .i64 (WN : Int), .int .i64 (HN : Int), .slice A HN c] 51 + MS.all w)))))) by rw [hb10]; exact HD.out.alloc _)
          have E62 := hid (ED.out.trans (Ext.alloc _ (.cells #[.map none] 83)))
          rw [← hb10]
          generalize w21.drew.alloc (.cells #[.map none] 83) = w62 at *
          clear hb10 hS
          have hS : (fun W' : World => W'.cell? ⟨b9, 0, none⟩ = some (.int .i64 (X : Int)) ∧ W'.cell? ⟨b9, 1, none⟩ = some (.int .i64 (Y : Int))) w62 := ⟨(H62.out.eq (b := (blk b9 #[.int .i64 (X : Int), .int .i64 (Y : Int)] 66 + (blk b10 #[.map none] 83 + (mo + (pts g (.map es clock) + (mC + (blk b4 #[.int .i64 (WN : Int), .int .i64 (HN : Int), .slice A HN c] 51 + MS.all w))))))) (by ac_rfl)).at_ (i := 0) rfl, (H62.out.eq (b := (blk b9 #[.int .i64 (X : Int), .int .i64 (Y : Int)] 66 + (blk b10 #[.map none] 83 + (mo + (pts g (.map es clock) + (mC + (blk b4 #[.int .i64 (WN : Int), .int .i64 (HN : Int), .slice A HN c] 51 + MS.all w))))))) (by ac_rfl)).at_ (i := 1) rfl⟩
          refine ⟨fun _ => hS, ?_⟩
          refine tree_op rfl rfl ?_
          refine op_call 58 _ _ (by go_simp) _ (Hrch.out w62 _ b4 X Y Hxin.out (H62.out.eq (b := ((blk b10 #[.map none] 83 + (blk b9 #[.int .i64 (X : Int), .int .i64 (Y : Int)] 66 + (mo + (pts g (.map es clock) + mC))))) + (blk b4 #[.int .i64 (WN : Int), .int .i64 (HN : Int), .slice A HN c] 51 + MS.all w)) (by ac_rfl))) ?_
          rintro e63 w63 ⟨g1, sn, es1, clock1, rfl, hS1, hsn, k63, l63⟩
          have HS1 := hid hS1
          have Hsnq := hid hsn
          have H63 := hid (k63 _ H62.out)
          have E63 := hid (E62.out.trans l63)
          clear k63 l63 hS1 hsn hS
          have hS : (fun W' : World => W'.cell? ⟨b9, 0, none⟩ = some (.int .i64 (X : Int)) ∧ W'.cell? ⟨b9, 1, none⟩ = some (.int .i64 (Y : Int))) w63 := ⟨(H63.out.eq (b := (blk b9 #[.int .i64 (X : Int), .int .i64 (Y : Int)] 66 + (pts g1 (.map es1 clock1) + (blk b10 #[.map none] 83 + (mo + (pts g (.map es clock) + (mC + (blk b4 #[.int .i64 (WN : Int), .int .i64 (HN : Int), .slice A HN c] 51 + MS.all w)))))))) (by ac_rfl)).at_ (i := 0) rfl, (H63.out.eq (b := (blk b9 #[.int .i64 (X : Int), .int .i64 (Y : Int)] 66 + (pts g1 (.map es1 clock1) + (blk b10 #[.map none] 83 + (mo + (pts g (.map es clock) + (mC + (blk b4 #[.int .i64 (WN : Int), .int .i64 (HN : Int), .slice A HN c] 51 + MS.all w)))))))) (by ac_rfl)).at_ (i := 1) rfl⟩
          refine ⟨_, rfl, fun _ => hS, ?_⟩
          refine tree_op rfl rfl ?_
          refine op_store_whole (.tmp 10) (.tmp 33) 83 rfl 1 size83 b10 (.map (some g1)) rfl rfl rfl (by simp [Value.cells, Value.oneCell']) _ 83 _ (H63.out.eq (b := (blk b10 #[.map none] 83 + (pts g1 (.map es1 clock1) + (blk b9 #[.int .i64 (X : Int), .int .i64 (Y : Int)] 66 + (mo + (pts g (.map es clock) + (mC + (blk b4 #[.int .i64 (WN : Int), .int .i64 (HN : Int), .slice A HN c] 51 + MS.all w)))))))) (by ac_rfl)) rfl ?_
          intro w70 j1 j2
          have H70 := hid (show Has w70 (blk b10 #[.map (some g1)] 83 + (pts g1 (.map es1 clock1) + (blk b9 #[.int .i64 (X : Int), .int .i64 (Y : Int)] 66 + (mo + (pts g (.map es clock) + (mC + (blk b4 #[.int .i64 (WN : Int), .int .i64 (HN : Int), .slice A HN c] 51 + MS.all w))))))) from j1.eq (by unfold blk; ac_rfl))
          have E70 := hid (E63.out.trans j2)
          clear j1 j2 hS
          refine ⟨fun h => absurd rfl h, ?_⟩
          refine tree_done ?_
          try simp only [Act.put]
          clear H63 E63
          have z10 := (H70.out.eq (b := (blk b10 #[.map (some g1)] 83 + (pts g1 (.map es1 clock1) + (blk b9 #[.int .i64 (X : Int), .int .i64 (Y : Int)] 66 + (mo + (pts g (.map es clock) + (mC + (blk b4 #[.int .i64 (WN : Int), .int .i64 (HN : Int), .slice A HN c] 51 + MS.all w)))))))) (by ac_rfl)).at_ (i := 0) rfl
          have HSz := hid ((H70.out.eq (b := (pts g1 (.map es1 clock1) + (blk b10 #[.map (some g1)] 83 + (blk b9 #[.int .i64 (X : Int), .int .i64 (Y : Int)] 66 + (mo + (pts g (.map es clock) + (mC + (blk b4 #[.int .i64 (WN : Int), .int .i64 (HN : Int), .slice A HN c] 51 + MS.all w)))))))) (by ac_rfl)).get)
          go_wp2_with (refine wpList_run rfl _ _ (ex_range rfl und83 rfl HSz.out) ?_; obtain ⟨r, hr⟩ : ∃ r, r = w70.heap.size := ⟨_, rfl⟩; have H71 := hid (show Has (w70.alloc (itO g1 clock1 #[])) (pts r (itO g1 clock1 #[]) + (blk b10 #[.map (some g1)] 83 + (pts g1 (.map es1 clock1) + (blk b9 #[.int .i64 (X : Int), .int .i64 (Y : Int)] 66 + (mo + (pts g (.map es clock) + (mC + (blk b4 #[.int .i64 (WN : Int), .int .i64 (HN : Int), .slice A HN c] 51 + MS.all w)))))))) by rw [hr]; exact H70.out.alloc _); have E71 := hid (E70.out.trans (Ext.alloc _ (itO g1 clock1 #[]))); rw [← hr]; generalize w70.alloc (itO g1 clock1 #[]) = w71 at *; clear hr z10)
          clear HSz
          simp only [Act.put, List.setIfInBounds_toArray, List.set_cons_succ, List.set_cons_zero]
          go_loopw [36] (fun _ wq => ∃ (st : Array Nat) (us2 : List Cl) (es2 : Array MapEntry) (clock2 : Nat), EntsAre (mapL us2) es2 clock2 ∧ (∀ q, come es1 st q → q ∈ us2) ∧ (∀ q ∈ us, q ∈ us2) ∧ (∀ q ∈ us2, q ∈ us ∨ q ∈ sn) ∧ Has wq (pts r (itO g1 clock1 st) + (pts g1 (.map es1 clock1) + (pts g (.map es2 clock2) + (blk b10 #[.map (some g1)] 83 + (blk b9 #[.int .i64 (X : Int), .int .i64 (Y : Int)] 66 + (mo + (mC + (blk b4 #[.int .i64 (WN : Int), .int .i64 (HN : Int), .slice A HN c] 51 + MS.all w)))))))) ∧ Ext w wq) (fun _ wq => itLeft wq r g1)
          case atStart => exact ⟨#[], us, es, clock, HS.out, fun q h => absurd h (come_nil es1 q), fun q h => h, fun q h => .inl h, H71.out.eq (by ac_rfl), E71.out⟩
          case round =>
            clear H71 E71 H70 E70
            obtain ⟨st, us2, es2, clock2, hS2, hcm, hu1, hu2, hWq, hEq⟩ := hrel
            have HS2 := hid hS2
            have Hcm := hid hcm
            have Hu1 := hid hu1
            have Hu2 := hid hu2
            have HWq := hid hWq
            have HEq := hid hEq
            clear hS2 hcm hu1 hu2 hWq hEq
            go_wp2_with (refine wpList_nextM rfl (.tmp 35) rfl r g1 rfl HS1.out HWq.out ?_ ?_)
            · intro hdone
              have hus2 := hid (show ∀ q, q ∈ us2 ↔ ∃ a ∈ ((X : Int), (Y : Int)) :: acc, RP p a q from fun q => by
                constructor
                · intro hq
                  rcases Hu2.out q hq with h | h
                  · obtain ⟨a, ha, h⟩ := (Hus.out q).1 h
                    exact ⟨a, List.mem_cons_of_mem _ ha, h⟩
                  · exact ⟨_, List.mem_cons_self .., (Hsnq.out q).1 h⟩
                · rintro ⟨a, ha, h⟩
                  rcases List.mem_cons.1 ha with rfl | ha
                  · exact Hcm.out q (hdone q.1 q.2 ((Hsnq.out q).2 h))
                  · exact Hu1.out q ((Hus.out q).2 ⟨a, ha, h⟩))
              have hk2 := hid (fun o (ho : PtsOf (RP p) (inR p) (((X : Int), (Y : Int)) :: acc) ((cellsL p).drop (i + 1)) o) => show PtsOf (RP p) (inR p) [] (cellsL p) ((fs ++ [memB sn]) ++ o) from by
                rw [List.append_assoc]
                exact HK.out _ (by rw [Hdr'.out]; exact .inr ⟨Hxin.out, fun h => Hsn.out ((Hus.out _).2 h), sn, o, Hsnq.out, rfl, ho⟩))
              clear hdone
              have u0 := (HWq.out.eq (b := (blk b4 #[.int .i64 (WN : Int), .int .i64 (HN : Int), .slice A HN c] 51 + (pts r (itO g1 clock1 st) + (pts g1 (.map es1 clock1) + (pts g (.map es2 clock2) + (blk b10 #[.map (some g1)] 83 + (blk b9 #[.int .i64 (X : Int), .int .i64 (Y : Int)] 66 + (mo + (mC + MS.all w))))))))) (by ac_rfl)).at_ (i := 0) rfl
              have u1 := (HWq.out.eq (b := (blk b4 #[.int .i64 (WN : Int), .int .i64 (HN : Int), .slice A HN c] 51 + (pts r (itO g1 clock1 st) + (pts g1 (.map es1 clock1) + (pts g (.map es2 clock2) + (blk b10 #[.map (some g1)] 83 + (blk b9 #[.int .i64 (X : Int), .int .i64 (Y : Int)] 66 + (mo + (mC + MS.all w))))))))) (by ac_rfl)).at_ (i := 1) rfl
              have u2 := (HWq.out.eq (b := (blk b4 #[.int .i64 (WN : Int), .int .i64 (HN : Int), .slice A HN c] 51 + (pts r (itO g1 clock1 st) + (pts g1 (.map es1 clock1) + (pts g (.map es2 clock2) + (blk b10 #[.map (some g1)] 83 + (blk b9 #[.int .i64 (X : Int), .int .i64 (Y : Int)] 66 + (mo + (mC + MS.all w))))))))) (by ac_rfl)).at_ (i := 2) rfl
              go_wp2_with (first
                | (at_builtin; refine wpList_push rfl (.tmp 42) (.tmp 46) row44 rfl (.slice A6 nf c6) rfl _ rfl (by simp) (RegR p) RegR.one RegR.len fs (memB sn) mo md (pts r (itO g1 clock1 st) + (pts g1 (.map es1 clock1) + (pts g (.map es2 clock2) + (blk b10 #[.map (some g1)] 83 + (blk b9 #[.int .i64 (X : Int), .int .i64 (Y : Int)] 66 + (mC + (blk b4 #[.int .i64 (WN : Int), .int .i64 (HN : Int), .slice A HN c] 51 + MS.all w))))))) HO.out ⟨_, rfl, HDd.out⟩ (H81.out.eq (by ac_rfl)) nf Hnf.out.symm (by omega) (by omega) ?_; intro A82 c82 w82 m9 j4 j5 j6; have D82 := hid j4; have H82 := hid (show Has w82 (pts r (itO g1 clock1 st) + (pts g1 (.map es1 clock1) + (pts g (.map es2 clock2) + (blk b10 #[.map (some g1)] 83 + (blk b9 #[.int .i64 (X : Int), .int .i64 (Y : Int)] 66 + (m9 + (mC + (blk b4 #[.int .i64 (WN : Int), .int .i64 (HN : Int), .slice A HN c] 51 + MS.all w)))))))) from j5.eq (by ac_rfl)); have E82 := hid (E81.out.trans j6); clear j4 j5 j6)
                | (go_at_call 65; refine (Hdr.out wr _ b10 g1 sn es1 clock1 HS1.out (HWq.out.eq (b := (blk b10 #[.map (some g1)] 83 + (pts g1 (.map es1 clock1) + (pts r (itO g1 clock1 st) + (pts g (.map es2 clock2) + (blk b9 #[.int .i64 (X : Int), .int .i64 (Y : Int)] 66 + (mo + (mC + (blk b4 #[.int .i64 (WN : Int), .int .i64 (HN : Int), .slice A HN c] 51 + MS.all w))))))))) (by ac_rfl))).mono ?_; rintro e81 w81 ⟨vd, md, rfl, hd, k81, l81⟩; obtain ⟨Ad, cd, rfl, _⟩ := SlR.form hd; have HDd := hid hd; have H81 := hid (k81 _ HWq.out); have E81 := hid (HEq.out.trans l81); clear k81 l81 hd u0 u1 u2))
              go_roundw
              case rel => exact ⟨i + 1, ((X : Int), (Y : Int)) :: acc, us2, fs ++ [memB sn], es2, clock2, m9, Hlt.out, by go_num, D82.out, HS2.out, hus2.out, by rw [List.length_append, List.length_singleton]; have := Hfl.out; have := Hnf.out; omega, hk2.out, (H82.out.eq (b := (m9 + (pts g (.map es2 clock2) + (mC + (blk b4 #[.int .i64 (WN : Int), .int .i64 (HN : Int), .slice A HN c] 51 + MS.all w)))) + ((pts r (itO g1 clock1 st) + (pts g1 (.map es1 clock1) + (blk b10 #[.map (some g1)] 83 + blk b9 #[.int .i64 (X : Int), .int .i64 (Y : Int)] 66))))) (by ac_rfl)).left, E82.out⟩
              case measure => have := Hlt.out; simp [intOf]; omega
            · intro qx qy st' wn hqs hcome hless hWn hEn hen
              have hqsm := hid (HS1.out.2.2 ((qx, qy), .bool true) (by unfold mapL; exact List.mem_map.2 ⟨_, hqs, rfl⟩))
              have Hqs := hid hqs
              have hc1 := hid (show ∀ q', come es1 st' q' → q' ∈ insN us2 (qx, qy) from fun q' h => by
                rcases hcome q'.1 q'.2 h with h | h
                · exact insN_mem.2 (.inl (Hcm.out q' h))
                · exact insN_mem.2 (.inr (Prod.ext h.1 h.2)))
              have hc2 := hid (show ∀ q' ∈ us, q' ∈ insN us2 (qx, qy) from fun q' h => insN_mem.2 (.inl (Hu1.out q' h)))
              have hc3 := hid (show ∀ q' ∈ insN us2 (qx, qy), q' ∈ us ∨ q' ∈ sn from fun q' h => by
                rcases insN_mem.1 h with h | h
                · exact Hu2.out q' h
                · rw [h]; exact .inr hqs)
              have Hless := hid hless
              have HWn := hid hWn
              have HEn := hid (HEq.out.trans hEn)
              clear hqs hcome hless hWn hEn
              obtain ⟨b11, hb11⟩ : ∃ b11, b11 = wn.heap.size := ⟨_, rfl⟩; have HAb11 := hid (show Has (wn.alloc (.cells #[.int .i64 0, .int .i64 0] 66)) (blk b11 #[.int .i64 0, .int .i64 0] 66 + (pts r (itO g1 clock1 st') + (pts g1 (.map es1 clock1) + (pts g (.map es2 clock2) + (blk b10 #[.map (some g1)] 83 + (blk b9 #[.int .i64 (X : Int), .int .i64 (Y : Int)] 66 + (mo + (mC + (blk b4 #[.int .i64 (WN : Int), .int .i64 (HN : Int), .slice A HN c] 51 + MS.all w))))))))) by rw [hb11]; exact HWn.out.alloc _); have Hb11 := hid hb11; clear hb11
              go_wp2_with (first
                | (refine wpList_putM pair66 und83 rfl (.tmp 40) (.tmp 41) (.const (.bool true)) (.inl rfl) g rfl (qx, qy) rfl (.bool true) rfl HS2.out hqsm.out _ (H91.out.eq (b := (pts g (.map es2 clock2) + (blk b11 #[.int .i64 qx, .int .i64 qy] 66 + (pts r (itO g1 clock1 st') + (pts g1 (.map es1 clock1) + (blk b10 #[.map (some g1)] 83 + (blk b9 #[.int .i64 (X : Int), .int .i64 (Y : Int)] 66 + (mo + (mC + (blk b4 #[.int .i64 (WN : Int), .int .i64 (HN : Int), .slice A HN c] 51 + MS.all w)))))))))) (by ac_rfl)) ?_; intro es5 clock5 w92 j1 j2 j3; rw [mapL_ins] at j1; have S5 := hid j1; have E92 := hid (E91.out.trans j3); have H92 := hid (show Has w92 (blk b11 #[.int .i64 qx, .int .i64 qy] 66 + (pts r (itO g1 clock1 st') + (pts g1 (.map es1 clock1) + (pts g (.map es5 clock5) + (blk b10 #[.map (some g1)] 83 + (blk b9 #[.int .i64 (X : Int), .int .i64 (Y : Int)] 66 + (mo + (mC + (blk b4 #[.int .i64 (WN : Int), .int .i64 (HN : Int), .slice A HN c] 51 + MS.all w))))))))) from j2.eq (by ac_rfl)); clear j1 j2 j3 v0 v1)
                | (rw [← Hb11.out]; refine wpList_store_whole rfl (.tmp 11) (.tmp 39) 66 rfl 2 size66 b11 (.agg #[.int .i64 qx, .int .i64 qy]) rfl rfl rfl (by simp [Value.cells, Value.oneCell']) #[.int .i64 0, .int .i64 0] 66 _ HAb11.out rfl ?_; intro w91 j1 j2; have H91 := hid (show Has w91 (blk b11 #[.int .i64 qx, .int .i64 qy] 66 + (pts r (itO g1 clock1 st') + (pts g1 (.map es1 clock1) + (pts g (.map es2 clock2) + (blk b10 #[.map (some g1)] 83 + (blk b9 #[.int .i64 (X : Int), .int .i64 (Y : Int)] 66 + (mo + (mC + (blk b4 #[.int .i64 (WN : Int), .int .i64 (HN : Int), .slice A HN c] 51 + MS.all w))))))))) from j1.eq (by unfold blk; ac_rfl)); have E91 := hid ((HEn.out.trans (Ext.alloc _ _)).trans j2); clear j1 j2; have v0 := (H91.out.eq (b := (blk b11 #[.int .i64 qx, .int .i64 qy] 66 + (pts r (itO g1 clock1 st') + (pts g1 (.map es1 clock1) + (pts g (.map es2 clock2) + (blk b10 #[.map (some g1)] 83 + (blk b9 #[.int .i64 (X : Int), .int .i64 (Y : Int)] 66 + (mo + (mC + (blk b4 #[.int .i64 (WN : Int), .int .i64 (HN : Int), .slice A HN c] 51 + MS.all w)))))))))) (by ac_rfl)).at_ (i := 0) rfl; have v1 := (H91.out.eq (b := (blk b11 #[.int .i64 qx, .int .i64 qy] 66 + (pts r (itO g1 clock1 st') + (pts g1 (.map es1 clock1) + (pts g (.map es2 clock2) + (blk b10 #[.map (some g1)] 83 + (blk b9 #[.int .i64 (X : Int), .int .i64 (Y : Int)] 66 + (mo + (mC + (blk b4 #[.int .i64 (WN : Int), .int .i64 (HN : Int), .slice A HN c] 51 + MS.all w)))))))))) (by ac_rfl)).at_ (i := 1) rfl))
              go_roundw
              case rel => exact ⟨st', insN us2 (qx, qy), es5, clock5, S5.out, fun x y h => hc1.out (x, y) h, fun x y h => hc2.out (x, y) h, fun x y h => hc3.out (x, y) h, (H92.out.eq (b := (pts r (itO g1 clock1 st') + (pts g1 (.map es1 clock1) + (pts g (.map es5 clock5) + (blk b10 #[.map (some g1)] 83 + (blk b9 #[.int .i64 (X : Int), .int .i64 (Y : Int)] 66 + (mo + (mC + (blk b4 #[.int .i64 (WN : Int), .int .i64 (HN : Int), .slice A HN c] 51 + MS.all w)))))))) + blk b11 #[.int .i64 qx, .int .i64 qy] 66) (by ac_rfl)).left, E92.out⟩
              case measure =>
                rw [itLeft_of ((H92.out.eq (b := (pts r (itO g1 clock1 st') + (pts g1 (.map es1 clock1) + (pts g (.map es5 clock5) + (blk b10 #[.map (some g1)] 83 + (blk b9 #[.int .i64 (X : Int), .int .i64 (Y : Int)] 66 + (mo + (mC + (blk b4 #[.int .i64 (WN : Int), .int .i64 (HN : Int), .slice A HN c] 51 + MS.all w)))))))) + blk b11 #[.int .i64 qx, .int .i64 qy] 66) (by ac_rfl)).left), itLeft_of HWq.out]
                exact Hless.out
    · have hie : i = nC := by omega
      subst hie
      have hfin := hid (show PtsOf (RP p) (inR p) [] (cellsL p) fs from by
        have h := HK.out [] (by rw [List.drop_eq_nil_iff.2 (by rw [HnC.out]; exact Nat.le_refl _)]; rfl)
        rwa [List.append_nil] at h)
      clear hlt hi hfl
      go_wp2
      go_ret2
      exact ⟨fs, _, mo, rfl, hfin.out, by (have h := HO.out; rw [Hnf.out] at h ⊢; exact h), fun M hM => (Has.with_all hM (HW.out.eq (b := (mo + (pts g (.map es clock) + (mC + blk b4 #[.int .i64 (WN : Int), .int .i64 (HN : Int), .slice A HN c] 51))) + MS.all w) (by ac_rfl))).eq (b := (mo + M) + (pts g (.map es clock) + (mC + blk b4 #[.int .i64 (WN : Int), .int .i64 (HN : Int), .slice A HN c] 51))) (by ac_rfl) |>.left, HE.out⟩
end Go.Proofs.YtcdhimnmbpllgaaDoor

/-
  The walk of reached (58), once for each closure (printed by gen_reach.py).
-/
import Derived.Test.YtcdhimnmbpllgaaDoorPReach
import Derived.Test.YtcdhimnmbpllgaaDoorDQ4
namespace Go.Proofs.YtcdhimnmbpllgaaDoor
open Go.RowKit Go.MapKept Go.ChangeMaps
set_option linter.unusedVariables false
set_option linter.unusedSimpArgs false
set_option maxHeartbeats 4000000
set_option maxRecDepth 100000

def near1 (q : Cl) : Prop := (-1 ≤ q.1 ∧ q.1 ≤ 8) ∧ -1 ≤ q.2 ∧ q.2 ≤ 8
def stepL (st : List Cl) (q : Cl) : List Cl := st.map fun s => (q.1 + s.1, q.2 + s.2)
theorem slice_tail (b o n c : Nat) (w : World) : (Instr.sliceAt 29 (.slice (some ⟨b, o, none⟩) (n + 1) (c + 1)) (some (.int .i64 1)) none none).run Tryd.prog w = .ok (.slice (if c = 0 then some ⟨b, o, none⟩ else some ⟨b, o + 2, none⟩) n c) w := by
  have hs : (sizeOf 66).run Tryd.prog w = .ok 2 w := by kernel_rfl
  by_cases hc : c = 0
  · subst hc
    simp [Instr.sliceAt, run_underlying Tryd.underlying29, Instr.slice, Instr.sliceBounds, Instr.sliceBound, hs, asIntOf, show (1 : Int) ≤ (n : Int) + 1 by omega]
  · simp [Instr.sliceAt, run_underlying Tryd.underlying29, Instr.slice, Instr.sliceBounds, Instr.sliceBound, hs, asIntOf, hc, Addr.add, show (1 : Int) ≤ (n : Int) + 1 by omega]
theorem ex_slice29 {a : Act} {o : Oper} {x lo : Operand} {v : Value} {W : World} (ho : o.op = .slice 29 x (some lo) none none) (h : (Instr.sliceAt 29 (a.eval x) (some (a.eval lo)) none none).run Tryd.prog W = .ok v W) : (execOp a.eval o).run Tryd.prog W = .ok (.value v) W := by
  simp only [execOp, ho, Option.map, Sem.run_bind, h, Result.andThen, Sem.run_pure]
theorem Cls.tail {x : Cl} {l : List Cl} {b o n c : Nat} {m : MS} (h : Cls (x :: l) (.slice (some ⟨b, o, none⟩) (n + 1) (c + 1)) m) : Cls l (.slice (if c = 0 then some ⟨b, o, none⟩ else some ⟨b, o + 2, none⟩) n c) m := by
  obtain ⟨xs, ms, mr, h1, h2, h3⟩ := h
  obtain ⟨c1, m1, c2, m2, h4, h5, h6, h7⟩ := h2
  obtain ⟨h8, h9⟩ := h4
  refine ⟨c2, ms, m2, ?_, h5, by rw [h3, h7, h9, MS.zero_add]⟩
  obtain ⟨k1, k2⟩ := h1
  have hc2 : c2.length = l.length * 2 := by rw [h6, h8] at k1; simp at k1; omega
  refine ⟨hc2, .inr ?_⟩
  rcases k2 with ⟨k2, _⟩ | ⟨b', o', c', cur, k2, k3, k4, k5, k6, k7⟩
  · cases k2
  · injection k2 with e1 e2 e3
    injection e1 with e1
    injection e1 with e4 e5
    subst e4; subst e5; subst e3
    have en : n = l.length := by simpa using e2
    subst en
    by_cases hc : c = 0
    · subst hc
      rw [if_pos rfl]
      refine ⟨b, o, 0, cur, rfl, k3, by simpa using k4, by simp [maxLen], by omega, fun j hj => ?_⟩
      have : l.length = 0 := by simp at k4; rw [k4]; rfl
      omega
    · rw [if_neg hc]
      refine ⟨b, o + 2, c, cur, rfl, k3, by simpa using k4, by omega, by omega, fun j hj => ?_⟩
      have := k7 (j + 2) (by simp; omega)
      rw [h6, h8] at this
      rw [show o + 2 + j = o + (j + 2) by omega, this]
      rfl
def ReachPost (nb : Cl → List Cl) (ok : Cl → Prop) (a : Cl) (w : World) (e : Ending) (w' : World) : Prop := ∃ g sn es clock, e = .returned (.map (some g)) ∧ EntsAre (mapL sn) es clock ∧ (∀ q, q ∈ sn ↔ Rch nb ok a q) ∧ (∀ M, Has w M → Has w' (pts g (.map es clock) + M)) ∧ Ext w w'
theorem lk_mapL' (l : List Cl) (q : Cl) : (lkM (mapL l) q).getD (.bool false) = .bool (decide (q ∈ l)) := by
  induction l with
  | nil => rfl
  | cons a l ih =>
    show (lkM ((a, Value.bool true) :: mapL l) q).getD _ = _
    unfold lkM
    by_cases h : a = q
    · subst h; simp
    · rw [if_neg h, ih]; simp [Ne.symm h]
theorem mapL_snoc' {l : List Cl} {q : Cl} : ptM (mapL l) q (.bool true) = mapL (insN l q) := mapL_ins l q
theorem cls_row1 (q : Cl) : RowsR ClR [q] [.int .i64 q.1, .int .i64 q.2] 0 := ⟨_, 0, _, 0, ⟨rfl, rfl⟩, RowsR.nil, rfl, (MS.zero_add _).symm⟩
def lenSl (v : Value) : Nat := match v with | .slice _ n _ => n | _ => 0
def mpSize (w : World) (g : Nat) : Nat := match w.heap[g]? with | some (.map es _) => es.size | _ => 0
theorem mpSize_of {w : World} {g : Nat} {S : Ents} {es : Array MapEntry} {clock : Nat} (h : w.heap[g]? = some (.map es clock)) (hS : EntsAre S es clock) : mpSize w g = S.length := by
  unfold mpSize; rw [h]; exact hS.size
theorem reached_64 {w : World} {cap : Value} {okB : Cl → Bool} {st : List Cl} {B : Option Addr} {cs ns : Nat} {ax ay : Int} (hst : RdS (MS.all w) RT.cl st (.slice B ns cs)) (hns : ns = st.length) (hs9 : st.length ≤ 9) (hs1 : ∀ s ∈ st, (-1 ≤ s.1 ∧ s.1 ≤ 1) ∧ -1 ≤ s.2 ∧ s.2 ≤ 1) (ha : near1 (ax, ay)) (hok : ∀ q, okB q = true → near1 q)
    (hcl : ∀ W, Has W (MS.all w) → ∀ x y : Int, small (x, y) → Calls Tryd.prog 64 #[.agg #[.int .i64 x, .int .i64 y], cap] W fun e w' => e = .returned (.bool (okB (x, y))) ∧ Kp W w') :
    Calls Tryd.prog 58 #[.agg #[.int .i64 ax, .int .i64 ay], .func (.func 64) #[] #[cap], .slice B ns cs] w (ReachPost (stepL st) (fun q => okB q = true) (ax, ay) w) := by
  have Hcl := hid hcl
  have hBc : ns ≤ cs := by rw [hns]; exact (hns ▸ hst).cells.2.1
  have Hst := hid (fun (i : Nat) (d : Cl) (h : st[i]? = some d) => (show RdS (MS.all w) RT.cl st (.slice B st.length cs) from hns ▸ hst).getCl h)
  have Hs1 := hid hs1
  have Hns := hid hns
  have hns9 : ns ≤ 9 := by omega
  have hnsI : (ns : Int) ≤ 9 := by omega
  have Hok := hid hok
  have Hsm := hid (show small (ax, ay) from by unfold near1 at ha; unfold small; simp only at *; omega)
  have Hlen := hid (fun (sn : List Cl) (i k : Nat) (h : RInv (stepL st) (fun q => okB q = true) (ax, ay) sn i k) => show sn.length ≤ 101 ∧ ∀ x ∈ sn, near1 x from by
    refine ⟨?_, fun x hx => ?_⟩
    · have h1 := h.len (l := glL (-1) (-1) 10 10 0 0) (fun x hx => by
        have := hok x hx
        unfold near1 at this
        rw [mem_gl (by decide)]
        omega)
      rw [gl_len (by decide)] at h1
      exact h1
    · cases h.all x hx with
      | refl => exact ha
      | step _ _ ho => exact hok _ ho)
  have HA := hid (show Has (w.alloc (.cells #[.int .i64 ax, .int .i64 ay] 66)) (blk w.heap.size #[.int .i64 ax, .int .i64 ay] 66 + MS.all w) from (Has.all w).alloc _)
  have HEA := hid (Ext.alloc w (.cells #[.int .i64 ax, .int .i64 ay] 66))
  have HaF := hid (fun (W : World) (X : MS) (h : Has W (X + MS.all w)) => h.right)
  clear hst hns hs9 hs1 ha hok hcl
  go_enter Tryd.func58, Tryd.ntmps58
  go_wp2_with (first
    | (refine wpList_putM pair66 und83 rfl (.tmp 12) (.tmp 13) (.const (.bool true)) (.inr rfl) g rfl (ax, ay) rfl (.bool true) rfl EntsAre.none Hsm.out _ H1.out ?_; intro es2 clock2 w2 j1 j2 j3; have S2 := hid j1; have H2 := hid j2; have E2 := hid (E1.out.trans j3); clear j1 j2 j3 u0 u1; have u0 := H2.out.right.at_ (i := 0) rfl; have u1 := H2.out.right.at_ (i := 1) rfl; have HO := hid (show Has (w2.alloc (.cells #[.int .i64 ax, .int .i64 ay] 66)) (blk w2.heap.size #[.int .i64 ax, .int .i64 ay] 66 + (pts g (.map es2 clock2) + (blk w.heap.size #[.int .i64 ax, .int .i64 ay] 66 + MS.all w))) from H2.out.alloc _); have EO := hid (E2.out.trans (Ext.alloc _ (.cells #[.int .i64 ax, .int .i64 ay] 66))))
    | (refine wpList_run rfl _ _ (ex_makeMap rfl) ?_; obtain ⟨g, hg⟩ : ∃ g, g = (w.alloc (.cells #[.int .i64 ax, .int .i64 ay] 66)).heap.size := ⟨_, rfl⟩; have H1 := hid (show Has ((w.alloc (.cells #[.int .i64 ax, .int .i64 ay] 66)).alloc (.map #[] 0)) (pts g (.map #[] 0) + (blk w.heap.size #[.int .i64 ax, .int .i64 ay] 66 + MS.all w)) by rw [hg]; exact HA.out.alloc _); have E1 := hid (HEA.out.trans (Ext.alloc _ (.map #[] 0))); rw [← hg]; generalize (w.alloc (.cells #[.int .i64 ax, .int .i64 ay] 66)).alloc (.map #[] 0) = w1 at *; clear hg; have u0 := H1.out.right.at_ (i := 0) rfl; have u1 := H1.out.right.at_ (i := 1) rfl))
  clear u0 u1 H1 E1 HA HEA
  go_loopw [8] (fun v8 wr => ∃ (i : Nat) (sn : List Cl) (es : Array MapEntry) (clock : Nat) (m : MS), i ≤ sn.length ∧ Cls (sn.drop i) v8 m ∧ EntsAre (mapL sn) es clock ∧ RInv (stepL st) (fun q => okB q = true) (ax, ay) sn i 0 ∧ Has wr (pts g (.map es clock) + (m + (blk w.heap.size #[.int .i64 ax, .int .i64 ay] 66 + MS.all w))) ∧ Ext w wr) (fun v wr => 101 + lenSl v - mpSize wr g)
  case atStart => exact ⟨0, [(ax, ay)], es2, clock2, blk w2.heap.size #[.int .i64 ax, .int .i64 ay] 66, by simp, ⟨[.int .i64 ax, .int .i64 ay], blk w2.heap.size #[.int .i64 ax, .int .i64 ay] 66, 0, Sl.made (e := 66) (sz := 2) (n := 1) _ #[.int .i64 ax, .int .i64 ay] (by simp [maxLen]) (by simp), cls_row1 (ax, ay), (MS.add_zero _).symm⟩, S2.out, RInv.start, HO.out.eq (by ac_rfl), EO.out⟩
  case round =>
    clear H2 E2 HO EO S2
    obtain ⟨i, sn, es, clock, m, hi, hC, hS, hI, hW, hE⟩ := hrel
    obtain ⟨A8, c8, rfl, hA8, hnc, hcm⟩ := SlR.form hC
    obtain ⟨n, hn⟩ : ∃ n, n = (sn.drop i).length := ⟨_, rfl⟩
    have hni : n + i = sn.length := by rw [hn, List.length_drop]; omega
    have hl101 := (Hlen.out sn i 0 hI).1
    rw [← hn] at hC hnc ⊢
    have Hn := hid hn
    have Hni := hid hni
    have Hl101 := hid hl101
    have HC := hid hC
    have HS := hid hS
    have HI := hid hI
    have HW := hid hW
    have HE := hid hE
    have hnI : (n : Int) ≤ 101 := by omega
    clear hC hS hI hW hE hn hni hA8 hcm
    by_cases hlt : 0 < n
    · have hltI : (0 : Int) < n := by omega
      have hlt2 : i < sn.length := by have := Hni.out; omega
      obtain ⟨x, hx⟩ : ∃ x, sn[i]? = some x := ⟨_, List.getElem?_eq_getElem hlt2⟩
      have hxn := (Hlen.out sn i 0 HI.out).2 x (List.mem_of_getElem? hx)
      obtain ⟨xx, xy⟩ := x
      have Hx := hid hx
      have Hxn := hid hxn
      have hdN : ∀ d : Decidable (0 < n), @decide (0 < n) d = true := fun d => by simp [hlt]
      have Hnc := hid hnc
      clear hlt hi hlt2 hx hxn hl101 hnc
      go_wp2
      clear hltI hdN
      go_loopw [8, 24] (fun v8 v24 wr => ∃ (k : Nat) (sn : List Cl) (es : Array MapEntry) (clock : Nat) (m : MS), k ≤ ns ∧ v24 = .int .i64 k ∧ sn[i]? = some (xx, xy) ∧ Cls (sn.drop i) v8 m ∧ EntsAre (mapL sn) es clock ∧ RInv (stepL st) (fun q => okB q = true) (ax, ay) sn i k ∧ Has wr (pts g (.map es clock) + (m + (blk w.heap.size #[.int .i64 ax, .int .i64 ay] 66 + MS.all w))) ∧ Ext w wr) (fun _ v _ => ns - (intOf v).toNat)
      case atStart => exact ⟨0, sn, es, clock, m, Nat.zero_le _, rfl, Hx.out, (by have h := HC.out; rw [Hn.out] at h ⊢; exact h), HS.out, HI.out, HW.out, HE.out⟩
      case round =>
        obtain ⟨k, s2, es2, clock2, m2, hk, rfl, hx2, hC2, hS2, hI2, hW2, hE2⟩ := hrel
        obtain ⟨A2, c2, rfl, _, hnc2, hcm2⟩ := SlR.form hC2
        obtain ⟨n2, hn2⟩ : ∃ n2, n2 = (s2.drop i).length := ⟨_, rfl⟩
        have hi2 : i < s2.length := (List.getElem?_eq_some_iff.1 hx2).1
        have hni2 : n2 + i = s2.length := by rw [hn2, List.length_drop]; omega
        have hl2 := (Hlen.out s2 i k hI2).1
        have hn2p : 0 < n2 := by omega
        rw [← hn2] at hC2 hnc2 ⊢
        obtain ⟨bo, oo, hbo, n0, n1⟩ := hC2.rd.getCl (i := 0) (q := (xx, xy)) (by rw [List.getElem?_drop, Nat.add_zero]; exact hx2)
        subst hbo
        rw [show oo + 0 * 2 = oo by omega] at n0 n1
        simp only at n0 n1
        have N0 := hid n0
        have N1 := hid n1
        have Hn2 := hid hn2
        have Hni2 := hid hni2
        have Hl2 := hid hl2
        have HC2 := hid hC2
        have HS2 := hid hS2
        have HI2 := hid hI2
        have HW2 := hid hW2
        have HE2 := hid hE2
        have Hx2 := hid hx2
        have Hi2 := hid hi2
        have Hnc2 := hid hnc2
        have hn2I : (0 : Int) < n2 := by omega
        have hn2J : (n2 : Int) ≤ 101 := by omega
        clear hC2 hS2 hI2 hW2 hE2 hx2 n0 n1 hn2 hni2 hl2 hi2 hcm2 hnc2
        by_cases hlk : k < ns
        · have hlkI : (k : Int) < ns := by omega
          have hkc : k < cs := by omega
          have Hk := hid hlk
          obtain ⟨s, hsk⟩ : ∃ s, st[k]? = some s := ⟨_, List.getElem?_eq_getElem (by rw [← Hns.out]; exact hlk)⟩
          have hyk : (stepL st (xx, xy))[k]? = some (xx + s.1, xy + s.2) := by unfold stepL; rw [List.getElem?_map, hsk]; rfl
          obtain ⟨bs, os, hbs, t0, t1⟩ := Hst.out k s hsk
          have hs1 := Hs1.out s (List.mem_of_getElem? hsk)
          subst hbs
          obtain ⟨sx, sy⟩ := s
          simp only at t0 t1 hs1 hyk
          have y0 := t0.c0 (HaF.out wr _ (HW2.out.eq (b := (pts g (.map es2 clock2) + (m2 + blk w.heap.size #[.int .i64 ax, .int .i64 ay] 66)) + MS.all w) (by ac_rfl)))
          have y1 := t1.c0 (HaF.out wr _ (HW2.out.eq (b := (pts g (.map es2 clock2) + (m2 + blk w.heap.size #[.int .i64 ax, .int .i64 ay] 66)) + MS.all w) (by ac_rfl)))
          have hxn := Hxn.out
          unfold near1 at hxn
          simp only at hxn
          obtain ⟨yx, hyx⟩ : ∃ yx, yx = xx + sx := ⟨_, rfl⟩
          obtain ⟨yy, hyy⟩ : ∃ yy, yy = xy + sy := ⟨_, rfl⟩
          rw [← hyx, ← hyy] at hyk
          have hw1 : IntKind.i64.wrap (xx + sx) = yx := by rw [IntKind.wrap_i64]; omega
          have hw2 : IntKind.i64.wrap (xy + sy) = yy := by rw [IntKind.wrap_i64]; omega
          have Hysm := hid (show small (yx, yy) from by unfold small; simp only; omega)
          have Hyk := hid hyk
          have Hw := hid (And.intro hw1 hw2)
          clear hlk hk hsk t0 t1 hs1 hyk hxn hyx hyy hw1 hw2
          obtain ⟨b10, hb10⟩ : ∃ b10, b10 = wr.heap.size := ⟨_, rfl⟩; have HAb10 := hid (show Has (wr.alloc (.cells #[.int .i64 0, .int .i64 0] 66)) (blk b10 #[.int .i64 0, .int .i64 0] 66 + (pts g (.map es2 clock2) + (m2 + (blk w.heap.size #[.int .i64 ax, .int .i64 ay] 66 + MS.all w)))) by rw [hb10]; exact HW2.out.alloc _); have Hb10 := hid hb10; clear hb10
          go_wp2_with (rw [← Hb10.out]; refine wpList_store_whole rfl (.tmp 10) (.tmp 27) 66 rfl 2 size66 b10 (.agg #[.int .i64 sx, .int .i64 sy]) rfl rfl rfl (by simp [Value.cells, Value.oneCell']) #[.int .i64 0, .int .i64 0] 66 _ HAb10.out rfl ?_; intro w21 j1 j2; have H21 := hid (show Has w21 (blk b10 #[.int .i64 sx, .int .i64 sy] 66 + (pts g (.map es2 clock2) + (m2 + (blk w.heap.size #[.int .i64 ax, .int .i64 ay] 66 + MS.all w)))) from j1.eq (by unfold blk; ac_rfl)); have E21 := hid ((HE2.out.trans (Ext.alloc _ _)).trans j2); clear j1 j2)
          clear y0 y1
          have HD := hid (show Has w21.drew (blk b10 #[.int .i64 sx, .int .i64 sy] 66 + (pts g (.map es2 clock2) + (m2 + (blk w.heap.size #[.int .i64 ax, .int .i64 ay] 66 + MS.all w)))) from H21.out.drew)
          have ED := hid (E21.out.trans (Ext.drew _))
          obtain ⟨hw1, hw2⟩ := Hw.out
          have hS : (fun W' : World => W'.cell? ⟨bo, oo, none⟩ = some (.int .i64 xx) ∧ W'.cell? ⟨bo, oo + 1, none⟩ = some (.int .i64 xy) ∧ W'.cell? ⟨b10, 0, none⟩ = some (.int .i64 sx) ∧ W'.cell? ⟨b10, 1, none⟩ = some (.int .i64 sy)) w21.drew := ⟨N0.out.c0 ((HD.out.eq (b := (m2 + (blk b10 #[.int .i64 sx, .int .i64 sy] 66 + (pts g (.map es2 clock2) + (blk w.heap.size #[.int .i64 ax, .int .i64 ay] 66 + MS.all w))))) (by ac_rfl)).left), N1.out.c0 ((HD.out.eq (b := (m2 + (blk b10 #[.int .i64 sx, .int .i64 sy] 66 + (pts g (.map es2 clock2) + (blk w.heap.size #[.int .i64 ax, .int .i64 ay] 66 + MS.all w))))) (by ac_rfl)).left), (HD.out.eq (b := (blk b10 #[.int .i64 sx, .int .i64 sy] 66 + (pts g (.map es2 clock2) + (m2 + (blk w.heap.size #[.int .i64 ax, .int .i64 ay] 66 + MS.all w))))) (by ac_rfl)).at_ (i := 0) rfl, (HD.out.eq (b := (blk b10 #[.int .i64 sx, .int .i64 sy] 66 + (pts g (.map es2 clock2) + (m2 + (blk w.heap.size #[.int .i64 ax, .int .i64 ay] 66 + MS.all w))))) (by ac_rfl)).at_ (i := 1) rfl⟩
          refine wp_region_txt (fun W' => W'.cell? ⟨bo, oo, none⟩ = some (.int .i64 xx) ∧ W'.cell? ⟨bo, oo + 1, none⟩ = some (.int .i64 xy) ∧ W'.cell? ⟨b10, 0, none⟩ = some (.int .i64 sx) ∧ W'.cell? ⟨b10, 1, none⟩ = some (.int .i64 sy)) (some 16)
            [(0, true), (1, true), (2, true), (3, true), (4, true), (5, true), (6, true), (7, true), (8, true), (9, true), (10, true), (11, true), (12, true), (13, true), (14, true), (15, false), (16, false)] (by kernel_rfl) rfl (by kernel_rfl) (by kernel_rfl) (by repeat (first | with_reducible refine PanicOk.thn ?_ | with_reducible refine PanicOk.blk ?_ | exact PanicOk.body _ _ _)) ?_
          repeat (first
            | (refine txt_off hS rfl rfl ?_; simp only [Act.put, List.setIfInBounds_toArray, List.set_cons_zero, List.set_cons_succ])
            | (refine txt_quiet ?_ hS rfl rfl (fun W hW => ?_) ?_
               rotate_left 1
               · obtain ⟨hW1, hW2, hW3, hW4⟩ := hW
                 go_simp
                 exact rfl
               simp only [Act.put, List.setIfInBounds_toArray, List.set_cons_zero, List.set_cons_succ]))
          refine txt_op rfl rfl ?_
          refine op_run (.pointer (some ⟨w21.drew.heap.size, 0, none⟩)) (w21.drew.alloc (.cells #[.int .i64 0, .int .i64 0] 66)) (by go_simp) ?_
          obtain ⟨b11, hb11⟩ : ∃ b11, b11 = w21.drew.heap.size := ⟨_, rfl⟩
          have HA11 := hid (show Has (w21.drew.alloc (.cells #[.int .i64 0, .int .i64 0] 66)) (blk b11 #[.int .i64 0, .int .i64 0] 66 + (blk b10 #[.int .i64 sx, .int .i64 sy] 66 + (pts g (.map es2 clock2) + (m2 + (blk w.heap.size #[.int .i64 ax, .int .i64 ay] 66 + MS.all w))))) by rw [hb11]; exact HD.out.alloc _)
          have EA11 := hid (ED.out.trans (Ext.alloc w21.drew (.cells #[.int .i64 0, .int .i64 0] 66)))
          rw [← hb11]
          generalize w21.drew.alloc (.cells #[.int .i64 0, .int .i64 0] 66) = wa at *
          clear hb11 hS
          have hS : (fun W' : World => W'.cell? ⟨bo, oo, none⟩ = some (.int .i64 xx) ∧ W'.cell? ⟨bo, oo + 1, none⟩ = some (.int .i64 xy) ∧ W'.cell? ⟨b10, 0, none⟩ = some (.int .i64 sx) ∧ W'.cell? ⟨b10, 1, none⟩ = some (.int .i64 sy)) wa := ⟨N0.out.c0 ((HA11.out.eq (b := (m2 + (blk b11 #[.int .i64 0, .int .i64 0] 66 + (blk b10 #[.int .i64 sx, .int .i64 sy] 66 + (pts g (.map es2 clock2) + (blk w.heap.size #[.int .i64 ax, .int .i64 ay] 66 + MS.all w)))))) (by ac_rfl)).left), N1.out.c0 ((HA11.out.eq (b := (m2 + (blk b11 #[.int .i64 0, .int .i64 0] 66 + (blk b10 #[.int .i64 sx, .int .i64 sy] 66 + (pts g (.map es2 clock2) + (blk w.heap.size #[.int .i64 ax, .int .i64 ay] 66 + MS.all w)))))) (by ac_rfl)).left), (HA11.out.eq (b := (blk b10 #[.int .i64 sx, .int .i64 sy] 66 + (blk b11 #[.int .i64 0, .int .i64 0] 66 + (pts g (.map es2 clock2) + (m2 + (blk w.heap.size #[.int .i64 ax, .int .i64 ay] 66 + MS.all w)))))) (by ac_rfl)).at_ (i := 0) rfl, (HA11.out.eq (b := (blk b10 #[.int .i64 sx, .int .i64 sy] 66 + (blk b11 #[.int .i64 0, .int .i64 0] 66 + (pts g (.map es2 clock2) + (m2 + (blk w.heap.size #[.int .i64 ax, .int .i64 ay] 66 + MS.all w)))))) (by ac_rfl)).at_ (i := 1) rfl⟩
          refine ⟨fun _ => hS, ?_⟩
          simp only [Act.put, List.setIfInBounds_toArray, List.set_cons_zero, List.set_cons_succ]
          refine txt_op rfl rfl ?_
          refine op_store_whole (.tmp 11) (.tmp 42) 66 rfl 2 size66 b11 (.agg #[.int .i64 yx, .int .i64 yy]) rfl rfl rfl (by simp [Value.cells, Value.oneCell']) #[.int .i64 0, .int .i64 0] 66 _ HA11.out rfl ?_
          intro w7 j1 j2
          have H7 := hid (show Has w7 (blk b11 #[.int .i64 yx, .int .i64 yy] 66 + (blk b10 #[.int .i64 sx, .int .i64 sy] 66 + (pts g (.map es2 clock2) + (m2 + (blk w.heap.size #[.int .i64 ax, .int .i64 ay] 66 + MS.all w))))) from j1.eq (by unfold blk; ac_rfl))
          have E7 := hid (EA11.out.trans j2)
          clear j1 j2 hS
          refine ⟨fun h => absurd rfl h, ?_⟩
          refine txt_done ?_
          try simp only [Act.put]
          clear hw1 hw2
          have z0 := (H7.out.eq (b := (blk b11 #[.int .i64 yx, .int .i64 yy] 66 + (blk b10 #[.int .i64 sx, .int .i64 sy] 66 + (pts g (.map es2 clock2) + (m2 + (blk w.heap.size #[.int .i64 ax, .int .i64 ay] 66 + MS.all w)))))) (by ac_rfl)).at_ (i := 0) rfl
          have z1 := (H7.out.eq (b := (blk b11 #[.int .i64 yx, .int .i64 yy] 66 + (blk b10 #[.int .i64 sx, .int .i64 sy] 66 + (pts g (.map es2 clock2) + (m2 + (blk w.heap.size #[.int .i64 ax, .int .i64 ay] 66 + MS.all w)))))) (by ac_rfl)).at_ (i := 1) rfl
          have hlk := HS2.out.look1 pair66 und83 (zero4 w7) ((H7.out.eq (b := (pts g (.map es2 clock2) + (blk b11 #[.int .i64 yx, .int .i64 yy] 66 + (blk b10 #[.int .i64 sx, .int .i64 sy] 66 + (m2 + (blk w.heap.size #[.int .i64 ax, .int .i64 ay] 66 + MS.all w)))))) (by ac_rfl)).get) (q := (yx, yy)) Hysm.out
          rw [lk_mapL'] at hlk
          by_cases hsn : (yx, yy) ∈ s2
          · have hlk : (Instr.lookup 83 (.map (some g)) (.agg #[.int .i64 yx, .int .i64 yy]) false).run Tryd.prog w7 = .ok (.bool true) w7 := by rw [decide_eq_true hsn] at hlk; exact hlk
            have hsk := hid (HI2.out.skip Hx2.out Hyk.out (.inl hsn))
            clear hsn
            go_wp2
            go_roundw
            case rel => exact ⟨k + 1, s2, es2, clock2, m2, Hk.out, by go_num, Hx2.out, (by have h := HC2.out; rw [Hn2.out] at h ⊢; exact h), HS2.out, hsk.out, (H7.out.eq (b := (pts g (.map es2 clock2) + (m2 + (blk w.heap.size #[.int .i64 ax, .int .i64 ay] 66 + MS.all w))) + ((blk b11 #[.int .i64 yx, .int .i64 yy] 66 + blk b10 #[.int .i64 sx, .int .i64 sy] 66))) (by ac_rfl)).left, E7.out⟩
            case measure => have := Hk.out; simp [intOf]; omega
          · have hlk : (Instr.lookup 83 (.map (some g)) (.agg #[.int .i64 yx, .int .i64 yy]) false).run Tryd.prog w7 = .ok (.bool false) w7 := by rw [decide_eq_false hsn] at hlk; exact hlk
            have Hsn := hid hsn
            clear hsn
            have hcl := Hcl.out w7 ((H7.out.eq (b := ((blk b11 #[.int .i64 yx, .int .i64 yy] 66 + (blk b10 #[.int .i64 sx, .int .i64 sy] 66 + (pts g (.map es2 clock2) + (m2 + blk w.heap.size #[.int .i64 ax, .int .i64 ay] 66)))) + MS.all w)) (by ac_rfl)).right) yx yy Hysm.out
            cases hok : okB (yx, yy) with
            | false =>
              rw [hok] at hcl
              have hsk := hid (HI2.out.skip Hx2.out Hyk.out (.inr (by rw [hok]; simp)))
              have HCL := hid hcl
              clear hok hcl
              go_wp2_with (go_at_call 64; refine (HCL.out).mono ?_; rintro e31 w31 ⟨rfl, k31⟩; have H31 := hid (k31.1 _ H7.out); have E31 := hid (E7.out.trans k31.2); clear k31)
              go_roundw
              case rel => exact ⟨k + 1, s2, es2, clock2, m2, Hk.out, by go_num, Hx2.out, (by have h := HC2.out; rw [Hn2.out] at h ⊢; exact h), HS2.out, hsk.out, (H31.out.eq (b := (pts g (.map es2 clock2) + (m2 + (blk w.heap.size #[.int .i64 ax, .int .i64 ay] 66 + MS.all w))) + ((blk b11 #[.int .i64 yx, .int .i64 yy] 66 + blk b10 #[.int .i64 sx, .int .i64 sy] 66))) (by ac_rfl)).left, E31.out⟩
              case measure => have := Hk.out; simp [intOf]; omega
            | true =>
              rw [hok] at hcl
              have hin := HI2.out.ins Hx2.out Hyk.out hok
              have hii : insN s2 (yx, yy) = s2 ++ [(yx, yy)] := by unfold insN; rw [if_neg Hsn.out]
              have hget := hid (show (s2 ++ [(yx, yy)])[i]? = some (xx, xy) by rw [List.getElem?_append_left Hi2.out]; exact Hx2.out)
              have hdrp := hid (show (s2 ++ [(yx, yy)]).drop i = s2.drop i ++ [(yx, yy)] from List.drop_append_of_le_length (Nat.le_of_lt Hi2.out))
              rw [hii] at hin
              have Hin := hid hin
              have Hii := hid hii
              have HCL := hid hcl
              clear hok hcl hin hii
              go_wp2_with (first
                | (at_builtin; refine wpList_push rfl (.tmp 54) (.tmp 56) row29 rfl (.slice (some ⟨bo, oo, none⟩) n2 c2) rfl _ rfl (by simp) ClR ClR.one ClR.len (s2.drop i) (yx, yy) m2 0 (blk b11 #[.int .i64 yx, .int .i64 yy] 66 + (blk b10 #[.int .i64 sx, .int .i64 sy] 66 + (pts g (.map es5 clock5) + (blk w.heap.size #[.int .i64 ax, .int .i64 ay] 66 + MS.all w)))) HC2.out ⟨rfl, rfl⟩ (H32.out.eq (by rw [MS.zero_add]; ac_rfl)) n2 Hn2.out.symm (by omega) (by omega) ?_; intro A33 c33 w33 m9 j4 j5 j6; have D33 := hid j4; have H33 := hid (show Has w33 (blk b11 #[.int .i64 yx, .int .i64 yy] 66 + (blk b10 #[.int .i64 sx, .int .i64 sy] 66 + (pts g (.map es5 clock5) + (m9 + (blk w.heap.size #[.int .i64 ax, .int .i64 ay] 66 + MS.all w))))) from j5.eq (by ac_rfl)); have E33 := hid (E32.out.trans j6); clear j4 j5 j6)
                | (refine wpList_putM pair66 und83 rfl (.tmp 52) (.tmp 53) (.const (.bool true)) (.inl rfl) g rfl (yx, yy) rfl (.bool true) rfl HS2.out Hysm.out _ (H31.out.eq (b := (pts g (.map es2 clock2) + (blk b11 #[.int .i64 yx, .int .i64 yy] 66 + (blk b10 #[.int .i64 sx, .int .i64 sy] 66 + (m2 + (blk w.heap.size #[.int .i64 ax, .int .i64 ay] 66 + MS.all w)))))) (by ac_rfl)) ?_; intro es5 clock5 w32 j1 j2 j3; rw [mapL_snoc', Hii.out] at j1; have S5 := hid j1; have E32 := hid (E31.out.trans j3); have H32 := hid (show Has w32 (blk b11 #[.int .i64 yx, .int .i64 yy] 66 + (blk b10 #[.int .i64 sx, .int .i64 sy] 66 + (pts g (.map es5 clock5) + (m2 + (blk w.heap.size #[.int .i64 ax, .int .i64 ay] 66 + MS.all w))))) from j2.eq (by ac_rfl)); clear j1 j2 j3 z0 z1; have z0 := (H32.out.eq (b := (blk b11 #[.int .i64 yx, .int .i64 yy] 66 + (blk b10 #[.int .i64 sx, .int .i64 sy] 66 + (pts g (.map es5 clock5) + (m2 + (blk w.heap.size #[.int .i64 ax, .int .i64 ay] 66 + MS.all w)))))) (by ac_rfl)).at_ (i := 0) rfl; have z1 := (H32.out.eq (b := (blk b11 #[.int .i64 yx, .int .i64 yy] 66 + (blk b10 #[.int .i64 sx, .int .i64 sy] 66 + (pts g (.map es5 clock5) + (m2 + (blk w.heap.size #[.int .i64 ax, .int .i64 ay] 66 + MS.all w)))))) (by ac_rfl)).at_ (i := 1) rfl)
                | (go_at_call 64; refine (HCL.out).mono ?_; rintro e31 w31 ⟨rfl, k31⟩; have H31 := hid (k31.1 _ H7.out); have E31 := hid (E7.out.trans k31.2); clear k31; clear z0 z1 hlk; have z0 := (H31.out.eq (b := (blk b11 #[.int .i64 yx, .int .i64 yy] 66 + (blk b10 #[.int .i64 sx, .int .i64 sy] 66 + (pts g (.map es2 clock2) + (m2 + (blk w.heap.size #[.int .i64 ax, .int .i64 ay] 66 + MS.all w)))))) (by ac_rfl)).at_ (i := 0) rfl; have z1 := (H31.out.eq (b := (blk b11 #[.int .i64 yx, .int .i64 yy] 66 + (blk b10 #[.int .i64 sx, .int .i64 sy] 66 + (pts g (.map es2 clock2) + (m2 + (blk w.heap.size #[.int .i64 ax, .int .i64 ay] 66 + MS.all w)))))) (by ac_rfl)).at_ (i := 1) rfl))
              go_roundw
              case rel => exact ⟨k + 1, s2 ++ [(yx, yy)], es5, clock5, m9, Hk.out, by go_num, hget.out, (by rw [hdrp.out]; exact D33.out), S5.out, Hin.out, (H33.out.eq (b := (pts g (.map es5 clock5) + (m9 + (blk w.heap.size #[.int .i64 ax, .int .i64 ay] 66 + MS.all w))) + ((blk b11 #[.int .i64 yx, .int .i64 yy] 66 + blk b10 #[.int .i64 sx, .int .i64 sy] 66))) (by ac_rfl)).left, E33.out⟩
              case measure => have := Hk.out; simp [intOf]; omega
        · have hke : k = ns := by omega
          subst hke
          have hnx := hid (HI2.out.next Hx2.out (by unfold stepL; rw [List.length_map, ← Hns.out]; exact Nat.le_refl _))
          obtain ⟨n3, rfl⟩ : ∃ n3, n2 = n3 + 1 := ⟨n2 - 1, by omega⟩
          obtain ⟨c3, rfl⟩ : ∃ c3, c2 = c3 + 1 := ⟨c2 - 1, by have := Hnc2.out; omega⟩
          obtain ⟨A3, hA3⟩ : ∃ A3, A3 = (if c3 = 0 then some (⟨bo, oo, none⟩ : Addr) else some ⟨bo, oo + 2, none⟩) := ⟨_, rfl⟩
          have hsl := slice_tail bo oo n3 c3 wr
          rw [← hA3] at hsl
          have hdr : s2.drop i = (xx, xy) :: s2.drop (i + 1) := by
            obtain ⟨h1, h2⟩ := List.getElem?_eq_some_iff.1 Hx2.out
            rw [List.drop_eq_getElem_cons h1, h2]
          have hC3 : Cls (s2.drop (i + 1)) (.slice A3 n3 c3) m2 := by
            rw [hA3]
            have h := HC2.out
            rw [hdr] at h
            exact h.tail
          have HC3 := hid hC3
          have Hsl := hid hsl
          have h3I : ((n3 + 1 : Nat) : Int) = (n3 : Int) + 1 := by omega
          clear hlk hk hdr hC3 hA3 hsl
          go_wp2_with (refine wpList_run rfl _ _ (ex_slice29 rfl Hsl.out) ?_)
          go_roundw
          case rel => exact ⟨i + 1, s2, es2, clock2, m2, Hi2.out, HC3.out, HS2.out, hnx.out, HW2.out, HE2.out⟩
          case measure =>
            have e1 := mpSize_of HW.out.get HS.out
            have e2 := mpSize_of HW2.out.get HS2.out
            have e3 := Hni.out
            have e4 := Hni2.out
            have e5 := Hl2.out
            have e6 := Hl101.out
            rw [mapL_len] at e1 e2
            rw [e1, e2]
            simp only [lenSl]
            omega
    · have hn0 : n = 0 := by omega
      subst hn0
      have hie : i = sn.length := by have := Hni.out; omega
      have hfin := hid (fun q => (show RInv (stepL st) (fun q => okB q = true) (ax, ay) sn sn.length 0 from by have h := HI.out; rw [hie] at h; exact h).fin q)
      clear hlt hi hie
      go_wp2
      go_ret
      exact ⟨g, sn, es, clock, rfl, HS.out, hfin.out, fun M hM => (Has.with_all hM (HW.out.eq (b := (pts g (.map es clock) + (m + blk w.heap.size #[.int .i64 ax, .int .i64 ay] 66)) + MS.all w) (by ac_rfl))).eq (b := (pts g (.map es clock) + M) + (m + blk w.heap.size #[.int .i64 ax, .int .i64 ay] 66)) (by ac_rfl) |>.left, HE.out⟩
theorem reached_57 {w : World} {cap : Value} {okB : Cl → Bool} {st : List Cl} {B : Option Addr} {cs ns : Nat} {ax ay : Int} (hst : RdS (MS.all w) RT.cl st (.slice B ns cs)) (hns : ns = st.length) (hs9 : st.length ≤ 9) (hs1 : ∀ s ∈ st, (-1 ≤ s.1 ∧ s.1 ≤ 1) ∧ -1 ≤ s.2 ∧ s.2 ≤ 1) (ha : near1 (ax, ay)) (hok : ∀ q, okB q = true → near1 q)
    (hcl : ∀ W, Has W (MS.all w) → ∀ x y : Int, small (x, y) → Calls Tryd.prog 57 #[.agg #[.int .i64 x, .int .i64 y], cap] W fun e w' => e = .returned (.bool (okB (x, y))) ∧ Kp W w') :
    Calls Tryd.prog 58 #[.agg #[.int .i64 ax, .int .i64 ay], .func (.func 57) #[] #[cap], .slice B ns cs] w (ReachPost (stepL st) (fun q => okB q = true) (ax, ay) w) := by
  have Hcl := hid hcl
  have hBc : ns ≤ cs := by rw [hns]; exact (hns ▸ hst).cells.2.1
  have Hst := hid (fun (i : Nat) (d : Cl) (h : st[i]? = some d) => (show RdS (MS.all w) RT.cl st (.slice B st.length cs) from hns ▸ hst).getCl h)
  have Hs1 := hid hs1
  have Hns := hid hns
  have hns9 : ns ≤ 9 := by omega
  have hnsI : (ns : Int) ≤ 9 := by omega
  have Hok := hid hok
  have Hsm := hid (show small (ax, ay) from by unfold near1 at ha; unfold small; simp only at *; omega)
  have Hlen := hid (fun (sn : List Cl) (i k : Nat) (h : RInv (stepL st) (fun q => okB q = true) (ax, ay) sn i k) => show sn.length ≤ 101 ∧ ∀ x ∈ sn, near1 x from by
    refine ⟨?_, fun x hx => ?_⟩
    · have h1 := h.len (l := glL (-1) (-1) 10 10 0 0) (fun x hx => by
        have := hok x hx
        unfold near1 at this
        rw [mem_gl (by decide)]
        omega)
      rw [gl_len (by decide)] at h1
      exact h1
    · cases h.all x hx with
      | refl => exact ha
      | step _ _ ho => exact hok _ ho)
  have HA := hid (show Has (w.alloc (.cells #[.int .i64 ax, .int .i64 ay] 66)) (blk w.heap.size #[.int .i64 ax, .int .i64 ay] 66 + MS.all w) from (Has.all w).alloc _)
  have HEA := hid (Ext.alloc w (.cells #[.int .i64 ax, .int .i64 ay] 66))
  have HaF := hid (fun (W : World) (X : MS) (h : Has W (X + MS.all w)) => h.right)
  clear hst hns hs9 hs1 ha hok hcl
  go_enter Tryd.func58, Tryd.ntmps58
  go_wp2_with (first
    | (refine wpList_putM pair66 und83 rfl (.tmp 12) (.tmp 13) (.const (.bool true)) (.inr rfl) g rfl (ax, ay) rfl (.bool true) rfl EntsAre.none Hsm.out _ H1.out ?_; intro es2 clock2 w2 j1 j2 j3; have S2 := hid j1; have H2 := hid j2; have E2 := hid (E1.out.trans j3); clear j1 j2 j3 u0 u1; have u0 := H2.out.right.at_ (i := 0) rfl; have u1 := H2.out.right.at_ (i := 1) rfl; have HO := hid (show Has (w2.alloc (.cells #[.int .i64 ax, .int .i64 ay] 66)) (blk w2.heap.size #[.int .i64 ax, .int .i64 ay] 66 + (pts g (.map es2 clock2) + (blk w.heap.size #[.int .i64 ax, .int .i64 ay] 66 + MS.all w))) from H2.out.alloc _); have EO := hid (E2.out.trans (Ext.alloc _ (.cells #[.int .i64 ax, .int .i64 ay] 66))))
    | (refine wpList_run rfl _ _ (ex_makeMap rfl) ?_; obtain ⟨g, hg⟩ : ∃ g, g = (w.alloc (.cells #[.int .i64 ax, .int .i64 ay] 66)).heap.size := ⟨_, rfl⟩; have H1 := hid (show Has ((w.alloc (.cells #[.int .i64 ax, .int .i64 ay] 66)).alloc (.map #[] 0)) (pts g (.map #[] 0) + (blk w.heap.size #[.int .i64 ax, .int .i64 ay] 66 + MS.all w)) by rw [hg]; exact HA.out.alloc _); have E1 := hid (HEA.out.trans (Ext.alloc _ (.map #[] 0))); rw [← hg]; generalize (w.alloc (.cells #[.int .i64 ax, .int .i64 ay] 66)).alloc (.map #[] 0) = w1 at *; clear hg; have u0 := H1.out.right.at_ (i := 0) rfl; have u1 := H1.out.right.at_ (i := 1) rfl))
  clear u0 u1 H1 E1 HA HEA
  go_loopw [8] (fun v8 wr => ∃ (i : Nat) (sn : List Cl) (es : Array MapEntry) (clock : Nat) (m : MS), i ≤ sn.length ∧ Cls (sn.drop i) v8 m ∧ EntsAre (mapL sn) es clock ∧ RInv (stepL st) (fun q => okB q = true) (ax, ay) sn i 0 ∧ Has wr (pts g (.map es clock) + (m + (blk w.heap.size #[.int .i64 ax, .int .i64 ay] 66 + MS.all w))) ∧ Ext w wr) (fun v wr => 101 + lenSl v - mpSize wr g)
  case atStart => exact ⟨0, [(ax, ay)], es2, clock2, blk w2.heap.size #[.int .i64 ax, .int .i64 ay] 66, by simp, ⟨[.int .i64 ax, .int .i64 ay], blk w2.heap.size #[.int .i64 ax, .int .i64 ay] 66, 0, Sl.made (e := 66) (sz := 2) (n := 1) _ #[.int .i64 ax, .int .i64 ay] (by simp [maxLen]) (by simp), cls_row1 (ax, ay), (MS.add_zero _).symm⟩, S2.out, RInv.start, HO.out.eq (by ac_rfl), EO.out⟩
  case round =>
    clear H2 E2 HO EO S2
    obtain ⟨i, sn, es, clock, m, hi, hC, hS, hI, hW, hE⟩ := hrel
    obtain ⟨A8, c8, rfl, hA8, hnc, hcm⟩ := SlR.form hC
    obtain ⟨n, hn⟩ : ∃ n, n = (sn.drop i).length := ⟨_, rfl⟩
    have hni : n + i = sn.length := by rw [hn, List.length_drop]; omega
    have hl101 := (Hlen.out sn i 0 hI).1
    rw [← hn] at hC hnc ⊢
    have Hn := hid hn
    have Hni := hid hni
    have Hl101 := hid hl101
    have HC := hid hC
    have HS := hid hS
    have HI := hid hI
    have HW := hid hW
    have HE := hid hE
    have hnI : (n : Int) ≤ 101 := by omega
    clear hC hS hI hW hE hn hni hA8 hcm
    by_cases hlt : 0 < n
    · have hltI : (0 : Int) < n := by omega
      have hlt2 : i < sn.length := by have := Hni.out; omega
      obtain ⟨x, hx⟩ : ∃ x, sn[i]? = some x := ⟨_, List.getElem?_eq_getElem hlt2⟩
      have hxn := (Hlen.out sn i 0 HI.out).2 x (List.mem_of_getElem? hx)
      obtain ⟨xx, xy⟩ := x
      have Hx := hid hx
      have Hxn := hid hxn
      have hdN : ∀ d : Decidable (0 < n), @decide (0 < n) d = true := fun d => by simp [hlt]
      have Hnc := hid hnc
      clear hlt hi hlt2 hx hxn hl101 hnc
      go_wp2
      clear hltI hdN
      go_loopw [8, 24] (fun v8 v24 wr => ∃ (k : Nat) (sn : List Cl) (es : Array MapEntry) (clock : Nat) (m : MS), k ≤ ns ∧ v24 = .int .i64 k ∧ sn[i]? = some (xx, xy) ∧ Cls (sn.drop i) v8 m ∧ EntsAre (mapL sn) es clock ∧ RInv (stepL st) (fun q => okB q = true) (ax, ay) sn i k ∧ Has wr (pts g (.map es clock) + (m + (blk w.heap.size #[.int .i64 ax, .int .i64 ay] 66 + MS.all w))) ∧ Ext w wr) (fun _ v _ => ns - (intOf v).toNat)
      case atStart => exact ⟨0, sn, es, clock, m, Nat.zero_le _, rfl, Hx.out, (by have h := HC.out; rw [Hn.out] at h ⊢; exact h), HS.out, HI.out, HW.out, HE.out⟩
      case round =>
        obtain ⟨k, s2, es2, clock2, m2, hk, rfl, hx2, hC2, hS2, hI2, hW2, hE2⟩ := hrel
        obtain ⟨A2, c2, rfl, _, hnc2, hcm2⟩ := SlR.form hC2
        obtain ⟨n2, hn2⟩ : ∃ n2, n2 = (s2.drop i).length := ⟨_, rfl⟩
        have hi2 : i < s2.length := (List.getElem?_eq_some_iff.1 hx2).1
        have hni2 : n2 + i = s2.length := by rw [hn2, List.length_drop]; omega
        have hl2 := (Hlen.out s2 i k hI2).1
        have hn2p : 0 < n2 := by omega
        rw [← hn2] at hC2 hnc2 ⊢
        obtain ⟨bo, oo, hbo, n0, n1⟩ := hC2.rd.getCl (i := 0) (q := (xx, xy)) (by rw [List.getElem?_drop, Nat.add_zero]; exact hx2)
        subst hbo
        rw [show oo + 0 * 2 = oo by omega] at n0 n1
        simp only at n0 n1
        have N0 := hid n0
        have N1 := hid n1
        have Hn2 := hid hn2
        have Hni2 := hid hni2
        have Hl2 := hid hl2
        have HC2 := hid hC2
        have HS2 := hid hS2
        have HI2 := hid hI2
        have HW2 := hid hW2
        have HE2 := hid hE2
        have Hx2 := hid hx2
        have Hi2 := hid hi2
        have Hnc2 := hid hnc2
        have hn2I : (0 : Int) < n2 := by omega
        have hn2J : (n2 : Int) ≤ 101 := by omega
        clear hC2 hS2 hI2 hW2 hE2 hx2 n0 n1 hn2 hni2 hl2 hi2 hcm2 hnc2
        by_cases hlk : k < ns
        · have hlkI : (k : Int) < ns := by omega
          have hkc : k < cs := by omega
          have Hk := hid hlk
          obtain ⟨s, hsk⟩ : ∃ s, st[k]? = some s := ⟨_, List.getElem?_eq_getElem (by rw [← Hns.out]; exact hlk)⟩
          have hyk : (stepL st (xx, xy))[k]? = some (xx + s.1, xy + s.2) := by unfold stepL; rw [List.getElem?_map, hsk]; rfl
          obtain ⟨bs, os, hbs, t0, t1⟩ := Hst.out k s hsk
          have hs1 := Hs1.out s (List.mem_of_getElem? hsk)
          subst hbs
          obtain ⟨sx, sy⟩ := s
          simp only at t0 t1 hs1 hyk
          have y0 := t0.c0 (HaF.out wr _ (HW2.out.eq (b := (pts g (.map es2 clock2) + (m2 + blk w.heap.size #[.int .i64 ax, .int .i64 ay] 66)) + MS.all w) (by ac_rfl)))
          have y1 := t1.c0 (HaF.out wr _ (HW2.out.eq (b := (pts g (.map es2 clock2) + (m2 + blk w.heap.size #[.int .i64 ax, .int .i64 ay] 66)) + MS.all w) (by ac_rfl)))
          have hxn := Hxn.out
          unfold near1 at hxn
          simp only at hxn
          obtain ⟨yx, hyx⟩ : ∃ yx, yx = xx + sx := ⟨_, rfl⟩
          obtain ⟨yy, hyy⟩ : ∃ yy, yy = xy + sy := ⟨_, rfl⟩
          rw [← hyx, ← hyy] at hyk
          have hw1 : IntKind.i64.wrap (xx + sx) = yx := by rw [IntKind.wrap_i64]; omega
          have hw2 : IntKind.i64.wrap (xy + sy) = yy := by rw [IntKind.wrap_i64]; omega
          have Hysm := hid (show small (yx, yy) from by unfold small; simp only; omega)
          have Hyk := hid hyk
          have Hw := hid (And.intro hw1 hw2)
          clear hlk hk hsk t0 t1 hs1 hyk hxn hyx hyy hw1 hw2
          obtain ⟨b10, hb10⟩ : ∃ b10, b10 = wr.heap.size := ⟨_, rfl⟩; have HAb10 := hid (show Has (wr.alloc (.cells #[.int .i64 0, .int .i64 0] 66)) (blk b10 #[.int .i64 0, .int .i64 0] 66 + (pts g (.map es2 clock2) + (m2 + (blk w.heap.size #[.int .i64 ax, .int .i64 ay] 66 + MS.all w)))) by rw [hb10]; exact HW2.out.alloc _); have Hb10 := hid hb10; clear hb10
          go_wp2_with (rw [← Hb10.out]; refine wpList_store_whole rfl (.tmp 10) (.tmp 27) 66 rfl 2 size66 b10 (.agg #[.int .i64 sx, .int .i64 sy]) rfl rfl rfl (by simp [Value.cells, Value.oneCell']) #[.int .i64 0, .int .i64 0] 66 _ HAb10.out rfl ?_; intro w21 j1 j2; have H21 := hid (show Has w21 (blk b10 #[.int .i64 sx, .int .i64 sy] 66 + (pts g (.map es2 clock2) + (m2 + (blk w.heap.size #[.int .i64 ax, .int .i64 ay] 66 + MS.all w)))) from j1.eq (by unfold blk; ac_rfl)); have E21 := hid ((HE2.out.trans (Ext.alloc _ _)).trans j2); clear j1 j2)
          clear y0 y1
          have HD := hid (show Has w21.drew (blk b10 #[.int .i64 sx, .int .i64 sy] 66 + (pts g (.map es2 clock2) + (m2 + (blk w.heap.size #[.int .i64 ax, .int .i64 ay] 66 + MS.all w)))) from H21.out.drew)
          have ED := hid (E21.out.trans (Ext.drew _))
          obtain ⟨hw1, hw2⟩ := Hw.out
          have hS : (fun W' : World => W'.cell? ⟨bo, oo, none⟩ = some (.int .i64 xx) ∧ W'.cell? ⟨bo, oo + 1, none⟩ = some (.int .i64 xy) ∧ W'.cell? ⟨b10, 0, none⟩ = some (.int .i64 sx) ∧ W'.cell? ⟨b10, 1, none⟩ = some (.int .i64 sy)) w21.drew := ⟨N0.out.c0 ((HD.out.eq (b := (m2 + (blk b10 #[.int .i64 sx, .int .i64 sy] 66 + (pts g (.map es2 clock2) + (blk w.heap.size #[.int .i64 ax, .int .i64 ay] 66 + MS.all w))))) (by ac_rfl)).left), N1.out.c0 ((HD.out.eq (b := (m2 + (blk b10 #[.int .i64 sx, .int .i64 sy] 66 + (pts g (.map es2 clock2) + (blk w.heap.size #[.int .i64 ax, .int .i64 ay] 66 + MS.all w))))) (by ac_rfl)).left), (HD.out.eq (b := (blk b10 #[.int .i64 sx, .int .i64 sy] 66 + (pts g (.map es2 clock2) + (m2 + (blk w.heap.size #[.int .i64 ax, .int .i64 ay] 66 + MS.all w))))) (by ac_rfl)).at_ (i := 0) rfl, (HD.out.eq (b := (blk b10 #[.int .i64 sx, .int .i64 sy] 66 + (pts g (.map es2 clock2) + (m2 + (blk w.heap.size #[.int .i64 ax, .int .i64 ay] 66 + MS.all w))))) (by ac_rfl)).at_ (i := 1) rfl⟩
          refine wp_region_txt (fun W' => W'.cell? ⟨bo, oo, none⟩ = some (.int .i64 xx) ∧ W'.cell? ⟨bo, oo + 1, none⟩ = some (.int .i64 xy) ∧ W'.cell? ⟨b10, 0, none⟩ = some (.int .i64 sx) ∧ W'.cell? ⟨b10, 1, none⟩ = some (.int .i64 sy)) (some 16)
            [(0, true), (1, true), (2, true), (3, true), (4, true), (5, true), (6, true), (7, true), (8, true), (9, true), (10, true), (11, true), (12, true), (13, true), (14, true), (15, false), (16, false)] (by kernel_rfl) rfl (by kernel_rfl) (by kernel_rfl) (by repeat (first | with_reducible refine PanicOk.thn ?_ | with_reducible refine PanicOk.blk ?_ | exact PanicOk.body _ _ _)) ?_
          repeat (first
            | (refine txt_off hS rfl rfl ?_; simp only [Act.put, List.setIfInBounds_toArray, List.set_cons_zero, List.set_cons_succ])
            | (refine txt_quiet ?_ hS rfl rfl (fun W hW => ?_) ?_
               rotate_left 1
               · obtain ⟨hW1, hW2, hW3, hW4⟩ := hW
                 go_simp
                 exact rfl
               simp only [Act.put, List.setIfInBounds_toArray, List.set_cons_zero, List.set_cons_succ]))
          refine txt_op rfl rfl ?_
          refine op_run (.pointer (some ⟨w21.drew.heap.size, 0, none⟩)) (w21.drew.alloc (.cells #[.int .i64 0, .int .i64 0] 66)) (by go_simp) ?_
          obtain ⟨b11, hb11⟩ : ∃ b11, b11 = w21.drew.heap.size := ⟨_, rfl⟩
          have HA11 := hid (show Has (w21.drew.alloc (.cells #[.int .i64 0, .int .i64 0] 66)) (blk b11 #[.int .i64 0, .int .i64 0] 66 + (blk b10 #[.int .i64 sx, .int .i64 sy] 66 + (pts g (.map es2 clock2) + (m2 + (blk w.heap.size #[.int .i64 ax, .int .i64 ay] 66 + MS.all w))))) by rw [hb11]; exact HD.out.alloc _)
          have EA11 := hid (ED.out.trans (Ext.alloc w21.drew (.cells #[.int .i64 0, .int .i64 0] 66)))
          rw [← hb11]
          generalize w21.drew.alloc (.cells #[.int .i64 0, .int .i64 0] 66) = wa at *
          clear hb11 hS
          have hS : (fun W' : World => W'.cell? ⟨bo, oo, none⟩ = some (.int .i64 xx) ∧ W'.cell? ⟨bo, oo + 1, none⟩ = some (.int .i64 xy) ∧ W'.cell? ⟨b10, 0, none⟩ = some (.int .i64 sx) ∧ W'.cell? ⟨b10, 1, none⟩ = some (.int .i64 sy)) wa := ⟨N0.out.c0 ((HA11.out.eq (b := (m2 + (blk b11 #[.int .i64 0, .int .i64 0] 66 + (blk b10 #[.int .i64 sx, .int .i64 sy] 66 + (pts g (.map es2 clock2) + (blk w.heap.size #[.int .i64 ax, .int .i64 ay] 66 + MS.all w)))))) (by ac_rfl)).left), N1.out.c0 ((HA11.out.eq (b := (m2 + (blk b11 #[.int .i64 0, .int .i64 0] 66 + (blk b10 #[.int .i64 sx, .int .i64 sy] 66 + (pts g (.map es2 clock2) + (blk w.heap.size #[.int .i64 ax, .int .i64 ay] 66 + MS.all w)))))) (by ac_rfl)).left), (HA11.out.eq (b := (blk b10 #[.int .i64 sx, .int .i64 sy] 66 + (blk b11 #[.int .i64 0, .int .i64 0] 66 + (pts g (.map es2 clock2) + (m2 + (blk w.heap.size #[.int .i64 ax, .int .i64 ay] 66 + MS.all w)))))) (by ac_rfl)).at_ (i := 0) rfl, (HA11.out.eq (b := (blk b10 #[.int .i64 sx, .int .i64 sy] 66 + (blk b11 #[.int .i64 0, .int .i64 0] 66 + (pts g (.map es2 clock2) + (m2 + (blk w.heap.size #[.int .i64 ax, .int .i64 ay] 66 + MS.all w)))))) (by ac_rfl)).at_ (i := 1) rfl⟩
          refine ⟨fun _ => hS, ?_⟩
          simp only [Act.put, List.setIfInBounds_toArray, List.set_cons_zero, List.set_cons_succ]
          refine txt_op rfl rfl ?_
          refine op_store_whole (.tmp 11) (.tmp 42) 66 rfl 2 size66 b11 (.agg #[.int .i64 yx, .int .i64 yy]) rfl rfl rfl (by simp [Value.cells, Value.oneCell']) #[.int .i64 0, .int .i64 0] 66 _ HA11.out rfl ?_
          intro w7 j1 j2
          have H7 := hid (show Has w7 (blk b11 #[.int .i64 yx, .int .i64 yy] 66 + (blk b10 #[.int .i64 sx, .int .i64 sy] 66 + (pts g (.map es2 clock2) + (m2 + (blk w.heap.size #[.int .i64 ax, .int .i64 ay] 66 + MS.all w))))) from j1.eq (by unfold blk; ac_rfl))
          have E7 := hid (EA11.out.trans j2)
          clear j1 j2 hS
          refine ⟨fun h => absurd rfl h, ?_⟩
          refine txt_done ?_
          try simp only [Act.put]
          clear hw1 hw2
          have z0 := (H7.out.eq (b := (blk b11 #[.int .i64 yx, .int .i64 yy] 66 + (blk b10 #[.int .i64 sx, .int .i64 sy] 66 + (pts g (.map es2 clock2) + (m2 + (blk w.heap.size #[.int .i64 ax, .int .i64 ay] 66 + MS.all w)))))) (by ac_rfl)).at_ (i := 0) rfl
          have z1 := (H7.out.eq (b := (blk b11 #[.int .i64 yx, .int .i64 yy] 66 + (blk b10 #[.int .i64 sx, .int .i64 sy] 66 + (pts g (.map es2 clock2) + (m2 + (blk w.heap.size #[.int .i64 ax, .int .i64 ay] 66 + MS.all w)))))) (by ac_rfl)).at_ (i := 1) rfl
          have hlk := HS2.out.look1 pair66 und83 (zero4 w7) ((H7.out.eq (b := (pts g (.map es2 clock2) + (blk b11 #[.int .i64 yx, .int .i64 yy] 66 + (blk b10 #[.int .i64 sx, .int .i64 sy] 66 + (m2 + (blk w.heap.size #[.int .i64 ax, .int .i64 ay] 66 + MS.all w)))))) (by ac_rfl)).get) (q := (yx, yy)) Hysm.out
          rw [lk_mapL'] at hlk
          by_cases hsn : (yx, yy) ∈ s2
          · have hlk : (Instr.lookup 83 (.map (some g)) (.agg #[.int .i64 yx, .int .i64 yy]) false).run Tryd.prog w7 = .ok (.bool true) w7 := by rw [decide_eq_true hsn] at hlk; exact hlk
            have hsk := hid (HI2.out.skip Hx2.out Hyk.out (.inl hsn))
            clear hsn
            go_wp2
            go_roundw
            case rel => exact ⟨k + 1, s2, es2, clock2, m2, Hk.out, by go_num, Hx2.out, (by have h := HC2.out; rw [Hn2.out] at h ⊢; exact h), HS2.out, hsk.out, (H7.out.eq (b := (pts g (.map es2 clock2) + (m2 + (blk w.heap.size #[.int .i64 ax, .int .i64 ay] 66 + MS.all w))) + ((blk b11 #[.int .i64 yx, .int .i64 yy] 66 + blk b10 #[.int .i64 sx, .int .i64 sy] 66))) (by ac_rfl)).left, E7.out⟩
            case measure => have := Hk.out; simp [intOf]; omega
          · have hlk : (Instr.lookup 83 (.map (some g)) (.agg #[.int .i64 yx, .int .i64 yy]) false).run Tryd.prog w7 = .ok (.bool false) w7 := by rw [decide_eq_false hsn] at hlk; exact hlk
            have Hsn := hid hsn
            clear hsn
            have hcl := Hcl.out w7 ((H7.out.eq (b := ((blk b11 #[.int .i64 yx, .int .i64 yy] 66 + (blk b10 #[.int .i64 sx, .int .i64 sy] 66 + (pts g (.map es2 clock2) + (m2 + blk w.heap.size #[.int .i64 ax, .int .i64 ay] 66)))) + MS.all w)) (by ac_rfl)).right) yx yy Hysm.out
            cases hok : okB (yx, yy) with
            | false =>
              rw [hok] at hcl
              have hsk := hid (HI2.out.skip Hx2.out Hyk.out (.inr (by rw [hok]; simp)))
              have HCL := hid hcl
              clear hok hcl
              go_wp2_with (go_at_call 57; refine (HCL.out).mono ?_; rintro e31 w31 ⟨rfl, k31⟩; have H31 := hid (k31.1 _ H7.out); have E31 := hid (E7.out.trans k31.2); clear k31)
              go_roundw
              case rel => exact ⟨k + 1, s2, es2, clock2, m2, Hk.out, by go_num, Hx2.out, (by have h := HC2.out; rw [Hn2.out] at h ⊢; exact h), HS2.out, hsk.out, (H31.out.eq (b := (pts g (.map es2 clock2) + (m2 + (blk w.heap.size #[.int .i64 ax, .int .i64 ay] 66 + MS.all w))) + ((blk b11 #[.int .i64 yx, .int .i64 yy] 66 + blk b10 #[.int .i64 sx, .int .i64 sy] 66))) (by ac_rfl)).left, E31.out⟩
              case measure => have := Hk.out; simp [intOf]; omega
            | true =>
              rw [hok] at hcl
              have hin := HI2.out.ins Hx2.out Hyk.out hok
              have hii : insN s2 (yx, yy) = s2 ++ [(yx, yy)] := by unfold insN; rw [if_neg Hsn.out]
              have hget := hid (show (s2 ++ [(yx, yy)])[i]? = some (xx, xy) by rw [List.getElem?_append_left Hi2.out]; exact Hx2.out)
              have hdrp := hid (show (s2 ++ [(yx, yy)]).drop i = s2.drop i ++ [(yx, yy)] from List.drop_append_of_le_length (Nat.le_of_lt Hi2.out))
              rw [hii] at hin
              have Hin := hid hin
              have Hii := hid hii
              have HCL := hid hcl
              clear hok hcl hin hii
              go_wp2_with (first
                | (at_builtin; refine wpList_push rfl (.tmp 54) (.tmp 56) row29 rfl (.slice (some ⟨bo, oo, none⟩) n2 c2) rfl _ rfl (by simp) ClR ClR.one ClR.len (s2.drop i) (yx, yy) m2 0 (blk b11 #[.int .i64 yx, .int .i64 yy] 66 + (blk b10 #[.int .i64 sx, .int .i64 sy] 66 + (pts g (.map es5 clock5) + (blk w.heap.size #[.int .i64 ax, .int .i64 ay] 66 + MS.all w)))) HC2.out ⟨rfl, rfl⟩ (H32.out.eq (by rw [MS.zero_add]; ac_rfl)) n2 Hn2.out.symm (by omega) (by omega) ?_; intro A33 c33 w33 m9 j4 j5 j6; have D33 := hid j4; have H33 := hid (show Has w33 (blk b11 #[.int .i64 yx, .int .i64 yy] 66 + (blk b10 #[.int .i64 sx, .int .i64 sy] 66 + (pts g (.map es5 clock5) + (m9 + (blk w.heap.size #[.int .i64 ax, .int .i64 ay] 66 + MS.all w))))) from j5.eq (by ac_rfl)); have E33 := hid (E32.out.trans j6); clear j4 j5 j6)
                | (refine wpList_putM pair66 und83 rfl (.tmp 52) (.tmp 53) (.const (.bool true)) (.inl rfl) g rfl (yx, yy) rfl (.bool true) rfl HS2.out Hysm.out _ (H31.out.eq (b := (pts g (.map es2 clock2) + (blk b11 #[.int .i64 yx, .int .i64 yy] 66 + (blk b10 #[.int .i64 sx, .int .i64 sy] 66 + (m2 + (blk w.heap.size #[.int .i64 ax, .int .i64 ay] 66 + MS.all w)))))) (by ac_rfl)) ?_; intro es5 clock5 w32 j1 j2 j3; rw [mapL_snoc', Hii.out] at j1; have S5 := hid j1; have E32 := hid (E31.out.trans j3); have H32 := hid (show Has w32 (blk b11 #[.int .i64 yx, .int .i64 yy] 66 + (blk b10 #[.int .i64 sx, .int .i64 sy] 66 + (pts g (.map es5 clock5) + (m2 + (blk w.heap.size #[.int .i64 ax, .int .i64 ay] 66 + MS.all w))))) from j2.eq (by ac_rfl)); clear j1 j2 j3 z0 z1; have z0 := (H32.out.eq (b := (blk b11 #[.int .i64 yx, .int .i64 yy] 66 + (blk b10 #[.int .i64 sx, .int .i64 sy] 66 + (pts g (.map es5 clock5) + (m2 + (blk w.heap.size #[.int .i64 ax, .int .i64 ay] 66 + MS.all w)))))) (by ac_rfl)).at_ (i := 0) rfl; have z1 := (H32.out.eq (b := (blk b11 #[.int .i64 yx, .int .i64 yy] 66 + (blk b10 #[.int .i64 sx, .int .i64 sy] 66 + (pts g (.map es5 clock5) + (m2 + (blk w.heap.size #[.int .i64 ax, .int .i64 ay] 66 + MS.all w)))))) (by ac_rfl)).at_ (i := 1) rfl)
                | (go_at_call 57; refine (HCL.out).mono ?_; rintro e31 w31 ⟨rfl, k31⟩; have H31 := hid (k31.1 _ H7.out); have E31 := hid (E7.out.trans k31.2); clear k31; clear z0 z1 hlk; have z0 := (H31.out.eq (b := (blk b11 #[.int .i64 yx, .int .i64 yy] 66 + (blk b10 #[.int .i64 sx, .int .i64 sy] 66 + (pts g (.map es2 clock2) + (m2 + (blk w.heap.size #[.int .i64 ax, .int .i64 ay] 66 + MS.all w)))))) (by ac_rfl)).at_ (i := 0) rfl; have z1 := (H31.out.eq (b := (blk b11 #[.int .i64 yx, .int .i64 yy] 66 + (blk b10 #[.int .i64 sx, .int .i64 sy] 66 + (pts g (.map es2 clock2) + (m2 + (blk w.heap.size #[.int .i64 ax, .int .i64 ay] 66 + MS.all w)))))) (by ac_rfl)).at_ (i := 1) rfl))
              go_roundw
              case rel => exact ⟨k + 1, s2 ++ [(yx, yy)], es5, clock5, m9, Hk.out, by go_num, hget.out, (by rw [hdrp.out]; exact D33.out), S5.out, Hin.out, (H33.out.eq (b := (pts g (.map es5 clock5) + (m9 + (blk w.heap.size #[.int .i64 ax, .int .i64 ay] 66 + MS.all w))) + ((blk b11 #[.int .i64 yx, .int .i64 yy] 66 + blk b10 #[.int .i64 sx, .int .i64 sy] 66))) (by ac_rfl)).left, E33.out⟩
              case measure => have := Hk.out; simp [intOf]; omega
        · have hke : k = ns := by omega
          subst hke
          have hnx := hid (HI2.out.next Hx2.out (by unfold stepL; rw [List.length_map, ← Hns.out]; exact Nat.le_refl _))
          obtain ⟨n3, rfl⟩ : ∃ n3, n2 = n3 + 1 := ⟨n2 - 1, by omega⟩
          obtain ⟨c3, rfl⟩ : ∃ c3, c2 = c3 + 1 := ⟨c2 - 1, by have := Hnc2.out; omega⟩
          obtain ⟨A3, hA3⟩ : ∃ A3, A3 = (if c3 = 0 then some (⟨bo, oo, none⟩ : Addr) else some ⟨bo, oo + 2, none⟩) := ⟨_, rfl⟩
          have hsl := slice_tail bo oo n3 c3 wr
          rw [← hA3] at hsl
          have hdr : s2.drop i = (xx, xy) :: s2.drop (i + 1) := by
            obtain ⟨h1, h2⟩ := List.getElem?_eq_some_iff.1 Hx2.out
            rw [List.drop_eq_getElem_cons h1, h2]
          have hC3 : Cls (s2.drop (i + 1)) (.slice A3 n3 c3) m2 := by
            rw [hA3]
            have h := HC2.out
            rw [hdr] at h
            exact h.tail
          have HC3 := hid hC3
          have Hsl := hid hsl
          have h3I : ((n3 + 1 : Nat) : Int) = (n3 : Int) + 1 := by omega
          clear hlk hk hdr hC3 hA3 hsl
          go_wp2_with (refine wpList_run rfl _ _ (ex_slice29 rfl Hsl.out) ?_)
          go_roundw
          case rel => exact ⟨i + 1, s2, es2, clock2, m2, Hi2.out, HC3.out, HS2.out, hnx.out, HW2.out, HE2.out⟩
          case measure =>
            have e1 := mpSize_of HW.out.get HS.out
            have e2 := mpSize_of HW2.out.get HS2.out
            have e3 := Hni.out
            have e4 := Hni2.out
            have e5 := Hl2.out
            have e6 := Hl101.out
            rw [mapL_len] at e1 e2
            rw [e1, e2]
            simp only [lenSl]
            omega
    · have hn0 : n = 0 := by omega
      subst hn0
      have hie : i = sn.length := by have := Hni.out; omega
      have hfin := hid (fun q => (show RInv (stepL st) (fun q => okB q = true) (ax, ay) sn sn.length 0 from by have h := HI.out; rw [hie] at h; exact h).fin q)
      clear hlt hi hie
      go_wp2
      go_ret
      exact ⟨g, sn, es, clock, rfl, HS.out, hfin.out, fun M hM => (Has.with_all hM (HW.out.eq (b := (pts g (.map es clock) + (m + blk w.heap.size #[.int .i64 ax, .int .i64 ay] 66)) + MS.all w) (by ac_rfl))).eq (b := (pts g (.map es clock) + M) + (m + blk w.heap.size #[.int .i64 ax, .int .i64 ay] 66)) (by ac_rfl) |>.left, HE.out⟩
end Go.Proofs.YtcdhimnmbpllgaaDoor

/-
  The walk of Ideals.
-/
import Derived.Test.YtnkgfgkgepadhaaPlacesW
import Derived.Test.YtnkgfgkgepadhaaBfs
namespace Go.Proofs.Ytnkgfgkgepadhaa
open Go.RowKit
set_option linter.unusedVariables false
set_option linter.unusedSimpArgs false
set_option maxHeartbeats 4000000
set_option maxRecDepth 100000

section
variable {P : Program} {w : World} {o : Oper} {ops : Array Oper} {rest : List Oper} {a : Act} {Q : Exit → Act → World → Prop}
theorem wpList_skip (hgd : o.guard = none) (w' : World) (hrun : (execOp a.eval o).run P w = .ok .skip w') (h : wpList P ops Q rest (a.put o.dst undef) w') : wpList P ops Q (o :: rest) a w :=
  wpList_plain hgd fun _ hK => by
    unfold Oper.wp
    rw [hrun]
    exact hK _ _ h
end
theorem ex_insert {a : Act} {o : Oper} {x k y : Operand} {W W' : World} (ho : o.op = .insert 136 x k y) (h : (Instr.mapUpdate 136 (a.eval x) (a.eval k) (a.eval y)).run Try.prog W = .ok () W') : (execOp a.eval o).run Try.prog W = .ok .skip W' := by
  simp only [execOp, ho, Sem.run_bind, h, Result.andThen, Sem.run_pure]
theorem ex_update {a : Act} {o : Oper} {x k y : Operand} {W W' : World} (ho : o.op = .mapUpdate 136 x k y) (h : (Instr.mapUpdate 136 (a.eval x) (a.eval k) (a.eval y)).run Try.prog W = .ok () W') : (execOp a.eval o).run Try.prog W = .ok .skip W' := by
  simp only [execOp, ho, Sem.run_bind, h, Result.andThen, Sem.run_pure]
theorem ex_look {a : Act} {o : Oper} {x k : Operand} {v : Value} {W : World} (ho : o.op = .lookup 136 x k false) (h : (Instr.lookup 136 (a.eval x) (a.eval k) false).run Try.prog W = .ok v W) : (execOp a.eval o).run Try.prog W = .ok (.value v) W := by
  simp only [execOp, ho, Sem.run_bind, h, Result.andThen, Sem.run_pure]
/-- A place that is put into the set. -/
theorem wpList_put {w : World} {o : Oper} {ops : Array Oper} {rest : List Oper} {a : Act} {Q : Exit → Act → World → Prop} (hgd : o.guard = none) (x k y : Operand) (ho : o.op = .insert 136 x k y ∨ o.op = .mapUpdate 136 x k y) (g : Nat) (hx : a.eval x = .map (some g)) (q : List Int) (hk : a.eval k = plV q) (hy : a.eval y = .bool true)
    {S : List (List Int)} {es : Array MapEntry} {clock : Nat} (hS : SetAt S es clock) (hq : plOk q) (hno : ¬ q ∈ S) (F : MS) (hH : Has w (pts g (.map es clock) + F))
    (h : ∀ es' clock' w', SetAt (S ++ [q]) es' clock' → Has w' (pts g (.map es' clock') + F) → Ext w w' → wpList Try.prog ops Q rest (a.put o.dst undef) w') : wpList Try.prog ops Q (o :: rest) a w := by
  obtain ⟨h1, h2⟩ := hS.put hH.get hq hno
  refine wpList_skip hgd _ ?_ (h _ _ _ h2 hH.setMap (Ext.setMap _ _ _))
  rcases ho with ho | ho
  · exact ex_insert ho (by rw [hx, hk, hy]; exact h1)
  · exact ex_update ho (by rw [hx, hk, hy]; exact h1)
theorem ex_slice137 {a : Act} {o : Oper} {x lo : Operand} {v : Value} {W : World} (ho : o.op = .slice 137 x (some lo) none none) (h : (Instr.sliceAt 137 (a.eval x) (some (a.eval lo)) none none).run Try.prog W = .ok v W) : (execOp a.eval o).run Try.prog W = .ok (.value v) W := by
  simp only [execOp, ho, Option.map, Sem.run_bind, h, Result.andThen, Sem.run_pure]
theorem plOk0 : plOk place0 := ⟨rfl, fun a ha => by simp [place0] at ha; omega⟩

def msz (W : World) (g : Nat) : Nat := match W.heap[g]? with | some (.map es _) => es.size | _ => 0
def sln : Value → Nat | .slice _ n _ => n | _ => 0
theorem msz_of {W : World} {g : Nat} {es : Array MapEntry} {clock : Nat} (h : W.heap[g]? = some (.map es clock)) : msz W g = es.size := by unfold msz; rw [h]
theorem pls_start (b : Nat) : Pls [place0] (.slice (some ⟨b, 0, none⟩) 1 1) (blk b #[.int .i64 0, .int .i64 0, .int .i64 0, .int .i64 0, .int .i64 0] 135) :=
  ⟨[.int .i64 0, .int .i64 0, .int .i64 0, .int .i64 0, .int .i64 0], _, 0, Sl.made b #[.int .i64 0, .int .i64 0, .int .i64 0, .int .i64 0, .int .i64 0] (by simp [maxLen]) rfl, RowsR.one ⟨rfl, rfl, rfl⟩, (MS.add_zero _).symm⟩
theorem len_map {W : World} {g : Nat} {es : Array MapEntry} {clock : Nat} (h : W.heap[g]? = some (.map es clock)) (hs : es.size ≤ 1000000) : Sem.run Try.prog (Builtin.len_ #[136] 3 #[.map (some g)]) W = .ok (.int .i64 es.size) W := by
  have h1 : (es.size : Int) ≤ 9223372036854775807 := by omega
  simp [Builtin.len_, MapKept.run_getObj_map h, run_underlying Try.underlying136, Result.andThen, h1, goInt]
/-- The claims while Ideals runs. -/
def IdAt (n : Nat) (needs : List (List (Int × Int))) (g : Nat) (R : MS) (S : List (List Int)) (p : Nat) (v : Value) (W : World) : Prop :=
  S.length ≤ 100000 ∧ p ≤ S.length ∧ ∃ mq es clock, Pls (S.drop p) v mq ∧ SetAt S es clock ∧ Has W (pts g (.map es clock) + (mq + R))

theorem list5 {x : List Int} (h : x.length = 5) : ∃ a b c d e, x = [a, b, c, d, e] :=
  match x, h with
  | [a, b, c, d, e], _ => ⟨a, b, c, d, e, rfl⟩

/-- What Ideals returns. -/
def IdealsPost (n : Nat) (needs : List (List (Int × Int))) (F : MS) (w : World) (e : Ending) (w' : World) : Prop :=
  ((∃ S, BfsInv n needs S S.length ∧ S.length ≤ 100000 ∧ e = .returned (.tuple #[.int .i64 S.length, .int .i64 0])) ∨
   (∃ (S : List (List Int)) (y : List Int), S.Nodup ∧ (∀ x ∈ S, Reach n needs x) ∧ S.length = 100000 ∧ Reach n needs y ∧ ¬ y ∈ S ∧ e = .returned (.tuple #[.int .i64 0, .int .i64 8]))) ∧ Has w' F ∧ Ext w w'
theorem ideals_ok {F : MS} {n : Nat} {l : List Ev} {h : Hist} {A : Option Addr} {k c : Nat} {w : World} (hr : RdS F RT.ev l (.slice A k c)) (hH : Has w F) (h2 : 2 ≤ n) (h5 : n ≤ 5) (h60 : l.length ≤ 60) (hrun : Hist.run n (Hist.zero n) l = some h) :
    Calls Try.prog 44 #[.int .i64 n, .slice A k c] w (IdealsPost n h.needs F w) := by
  obtain ⟨rfl, _⟩ := hr.cells
  have Hrec := hid (recalled_ok hr hH h2 h5 h60 hrun)
  have Hok := hid (hist_ok (by omega) (HistOk.zero n) hrun)
  obtain ⟨needs, hneeds⟩ : ∃ x, x = h.needs := ⟨_, rfl⟩
  rw [← hneeds] at Hrec ⊢
  have Hlen := hid (show needs.length = n by rw [hneeds]; exact Hok.out.len)
  have Hrow := hid (show ∀ r ∈ needs, r.length ≤ 60 ∧ ∀ a ∈ r, 0 ≤ a.1 ∧ a.1 < n ∧ 0 ≤ a.2 ∧ a.2 ≤ 60 from fun r hrr => by
    rw [hneeds] at hrr
    obtain ⟨x1, x2⟩ := Hok.out.row r hrr
    exact ⟨by omega, fun a ha => by obtain ⟨y1, y2, y3, y4⟩ := x2 a ha; exact ⟨y1, y2, y3, by omega⟩⟩)
  have nI : (n : Int) ≤ 5 := by omega
  have HH := hid hH
  clear hr hH hrun hneeds Hok
  clear h
  go_enter Try.func44, Try.ntmps44
  go_wp2_with (first
    | (go_at_call 79; refine Hrec.out.mono ?_; rintro e w1 ⟨hb, m, rfl, k1, k2, k3⟩; have K1 := hid k1; have K2 := hid k2; have K3 := hid k3; clear k1 k2 k3)
    | (refine wpList_run rfl _ _ (ex_makeMap rfl) ?_; have K4 := hid (K2.out.alloc (.map #[] 0)); have K5 := hid (K3.out.trans (Ext.alloc _ (.map #[] 0))))
    | (refine wpList_put rfl (.tmp 22) (.tmp 23) (.const (.bool true)) (.inl rfl) w1.heap.size rfl place0 rfl rfl SetAt.none plOk0 (by simp) _ K4.out ?_; intro es0 clock0 w2 k1 k2 k3; have K6 := hid k1; have K7 := hid k2; have K8 := hid (K5.out.trans k3); clear k1 k2 k3))
  obtain ⟨g, hg⟩ : ∃ g, g = w1.heap.size := ⟨_, rfl⟩
  rw [← hg] at K7 ⊢
  clear hg K4 K5 K2 K3
  go_loopw [9] (fun v wr => ∃ S p, BfsInv n needs S p ∧ IdAt n needs g (m + F) S p v wr ∧ Ext w wr) (fun v W => 100001 - (msz W g - sln v))
  case atStart =>
    refine ⟨[place0], 0, BfsInv.start n needs, ⟨by simp, by simp, blk w2.heap.size #[.int .i64 0, .int .i64 0, .int .i64 0, .int .i64 0, .int .i64 0] 135, es0, clock0, pls_start _, K6.out, ?_⟩, K8.out.trans (Ext.alloc _ _)⟩
    exact (K7.out.alloc (.cells #[.int .i64 0, .int .i64 0, .int .i64 0, .int .i64 0, .int .i64 0] 135)).eq (by unfold blk; ac_rfl)
  case round =>
    obtain ⟨S, p, hB, ⟨hS1, hp, mq, es, clock, hq, hset, hHr⟩, hE⟩ := hrel
    obtain ⟨A9, c9, rfl, _⟩ := SlR.form hq
    have HB := hid hB
    have Hq := hid hq
    have Hset := hid hset
    have HHr := hid hHr
    have HE := hid hE
    clear hB hq hset hHr hE K6 K7 K8
    by_cases hlt : p < S.length
    · have Hlt := hid hlt
      obtain ⟨x, hx⟩ : ∃ x, x = S.getD p [] := ⟨_, rfl⟩
      have Hx := hid hx
      have hdrop : S.drop p = x :: S.drop (p + 1) := by rw [hx, List.drop_eq_getElem_cons hlt]; simp [List.getD, hlt]
      have Hmid := hid (BfsMid.start HB.out hlt)
      have hdl : (S.drop p).length = (S.drop (p + 1)).length + 1 := by rw [hdrop]; rfl
      obtain ⟨nd, hnd⟩ : ∃ nd, nd = (S.drop p).length := ⟨_, rfl⟩
      have hnd0 : (0 : Int) < nd := by omega
      rw [← hnd]
      rw [← hnd] at Hq
      have Hnd := hid hnd
      clear hnd
      have hr0 := HB.out.reach x (by rw [hx]; simp [List.getD, hlt])
      have Hrch := hid hr0
      have hdt : ∀ i : Decidable (0 < nd), @decide (0 < nd) i = true := fun i => @decide_eq_true _ i (by omega)
      clear hlt hx hdl hr0
      go_wp2
      clear hnd0 hdt
      go_loopw [9, 33] (fun v9 v wq => ∃ s : Nat, s ≤ n ∧ v = .int .i64 s ∧ ∃ S', BfsMid n needs S' p s ∧ S'.getD p [] = x ∧ IdAt n needs g (m + F) S' p v9 wq ∧ Ext w wq) (fun _ v _ => n - (intOf v).toNat)
      case atStart => exact ⟨0, Nat.zero_le _, rfl, S, Hmid.out, Hx.out.symm, ⟨hS1, hp, mq, es, clock, Hq.out, Hset.out, HHr.out⟩, HE.out⟩
      case round =>
        obtain ⟨s, hs, rfl, S', hM, hSx, ⟨hS2, hp2, mq2, es2, clock2, hq2, hset2, hHr2⟩, hE2⟩ := hrel
        have hpl := hM.lt
        have hdr : S'.drop p = x :: S'.drop (p + 1) := by rw [← hSx, List.drop_eq_getElem_cons hpl]; simp [List.getD, hpl]
        have HM := hid hM
        have HSx := hid hSx
        have Hset2 := hid hset2
        have HE2 := hid hE2
        by_cases hls : s < n
        · have Hls := hid hls
          have hlsI : (s : Int) < n := by omega
          have hq3 := hq2
          rw [hdr] at hq3
          obtain ⟨b, o, c2, cur, rfl, rfl, hx5, hcells, hrest⟩ := pls_cons hq3
          obtain ⟨dn, hdn⟩ : ∃ dn, dn = (S'.drop (p + 1)).length := ⟨_, rfl⟩
          rw [← hdn] at hq2 ⊢
          have Hdn := hid hdn
          clear hdn hrest
          obtain ⟨x0, x1, x2, x3, x4, hxl⟩ := list5 hx5
          have hHq : Has wr (blk b cur 135 + (pts g (.map es2 clock2) + (m + F))) := hHr2.eq (by ac_rfl)
          have hc0 := hcells 0 (by omega)
          have hc1 := hcells 1 (by omega)
          have hc2 := hcells 2 (by omega)
          have hc3 := hcells 3 (by omega)
          have hc4 := hcells 4 (by omega)
          rw [hxl] at hc0 hc1 hc2 hc3 hc4
          simp only [List.getD_cons_zero, List.getD_cons_succ, Nat.add_zero] at hc0 hc1 hc2 hc3 hc4
          have f0 := hHq.at_ hc0
          have f1 := hHq.at_ hc1
          have f2 := hHq.at_ hc2
          have f3 := hHq.at_ hc3
          have f4 := hHq.at_ hc4
          have HHq := hid hHq
          have Hq2 := hid hq2
          have Hxl := hid hxl
          obtain ⟨xs, hxs⟩ : ∃ xs, xs = x.getD s 0 := ⟨_, rfl⟩
          have hxb := Hrch.out.bound h5 s
          rw [← hxs] at hxb
          have hxr : ((needs.getD s []).length : Int) ≤ 60 := by
            have := (Hrow.out (needs.getD s []) (by have := Hlen.out; simp [List.getD, show s < needs.length by omega])).1
            omega
          have Hcs := hid (show (#[.int .i64 x0, .int .i64 x1, .int .i64 x2, .int .i64 x3, .int .i64 x4] : Array Value) = (x.map (Value.int .i64)).toArray by rw [hxl]; rfl)
          have Hci := hid (show (#[.int .i64 x0, .int .i64 x1, .int .i64 x2, .int .i64 x3, .int .i64 x4] : Array Value)[s]? = some (.int .i64 xs) by
            rw [Hcs.out, hxs]; simp [List.getD, show s < x.length by omega])
          have Hcb := hid (show (#[.int .i64 x0, .int .i64 x1, .int .i64 x2, .int .i64 x3, .int .i64 x4] : Array Value).setIfInBounds s (.int .i64 (xs + 1)) = ((bump x s).map (Value.int .i64)).toArray by
            rw [Hcs.out, hxs, List.setIfInBounds_toArray, ← List.map_set]; rfl)
          have hw1 : IntKind.i64.wrap (xs + 1) = xs + 1 := by rw [IntKind.wrap_i64]; omega
          have Hxs := hid hxs
          have hs5 : (s : Int) < 5 := by omega
          clear hM hSx hset2 hE2 hls hq2 hq3 hcells hHq hc0 hc1 hc2 hc3 hc4 hHr2 hdr hxl hxs
          go_wp2_with (first
            | (refine wpList_store_whole rfl (.tmp 11) (.tmp 38) 135 rfl 5 size135 wr.heap.size (.agg #[.int .i64 x0, .int .i64 x1, .int .i64 x2, .int .i64 x3, .int .i64 x4]) rfl rfl rfl (by simp [Value.cells, Value.oneCell']) #[.int .i64 0, .int .i64 0, .int .i64 0, .int .i64 0, .int .i64 0] 135 _ (HHq.out.alloc _) rfl ?_; intro w5 k1 k2; have J1 := hid (show Has w5 (blk wr.heap.size #[.int .i64 x0, .int .i64 x1, .int .i64 x2, .int .i64 x3, .int .i64 x4] 135 + _) from k1); have J2 := hid ((HE2.out.trans (Ext.alloc _ _)).trans k2); have f5 := J1.out.at_ Hci.out; clear k1 k2)
            | (refine wpList_store_blk rfl (.tmp 43) (.tmp 42) 3 rfl size3 wr.heap.size s (.int .i64 (xs + 1)) rfl rfl rfl #[.int .i64 x0, .int .i64 x1, .int .i64 x2, .int .i64 x3, .int .i64 x4] 135 _ J1.out (arr_lt Hci.out) ?_; intro w6 k1 k2; rw [Hcb.out] at k1; have J3 := hid k1; have J4 := hid (J2.out.trans k2); clear k1 k2 f5))
          have HHist := hid (K1.out.rd)
          obtain ⟨vn, a1, kn⟩ := HHist.out
          obtain ⟨An, cn, rfl, _⟩ := kn.form
          obtain ⟨y, hy⟩ : ∃ y, y = bump x s := ⟨_, rfl⟩
          have Hy := hid hy
          rw [← hy] at J3
          have hy5 : y.length = 5 := by rw [hy]; unfold bump; rw [List.length_set]; exact hx5
          obtain ⟨y0, y1, y2, y3, y4, hyl⟩ := list5 hy5
          obtain ⟨r, hr⟩ : ∃ r, needs[s]? = some r := ⟨_, List.getElem?_eq_getElem (by rw [Hlen.out]; exact Hls.out)⟩
          obtain ⟨b1, o1, Ar, cr, hA1, e1, kr, hcr, _⟩ := kn.getSl hr
          have hyok : plOk y := ⟨hy5, fun u hu => by
            rw [hy] at hu
            unfold bump at hu
            rcases List.mem_or_eq_of_mem_set hu with hu | rfl
            · obtain ⟨t, ht, rfl⟩ := List.getElem_of_mem hu
              have := Hrch.out.bound h5 t
              have hg : x.getD t 0 = x[t] := by simp [List.getD, ht]
              have hrt : ((needs.getD t []).length : Int) ≤ 60 := by
                by_cases htn : t < needs.length
                · have := (Hrow.out (needs.getD t []) (by simp [List.getD, htn])).1
                  omega
                · simp [List.getD, List.getElem?_eq_none (show needs.length ≤ t by omega)]
              rw [hg] at this
              omega
            · rw [← Hxs.out]; omega⟩
          subst hA1
          obtain ⟨gn, hgn⟩ : ∃ gn, gn = wr.heap.size := ⟨_, rfl⟩
          rw [← hgn] at J3 ⊢
          have Hgn := hid hgn
          clear hgn
          have Hyok := hid hyok
          have hys : y.getD s 0 = xs + 1 := by rw [hy, bump_get (by omega), if_pos rfl, ← Hxs.out]
          have keep : ∀ (W : World) (X : MS), Has W (X + (blk gn (y.map (Value.int .i64)).toArray 135 + (pts g (.map es2 clock2) + (m + F)))) → (W.heap[g]? = some (.map es2 clock2) ∧ W.cell? ⟨gn, 0, none⟩ = some (.int .i64 y0) ∧ W.cell? ⟨gn, 1, none⟩ = some (.int .i64 y1) ∧ W.cell? ⟨gn, 2, none⟩ = some (.int .i64 y2) ∧ W.cell? ⟨gn, 3, none⟩ = some (.int .i64 y3) ∧ W.cell? ⟨gn, 4, none⟩ = some (.int .i64 y4) ∧ W.cell? ⟨gn, s, none⟩ = some (.int .i64 (xs + 1)) ∧ W.cell? ⟨hb, 1, none⟩ = some (.slice (some ⟨b1, o1, none⟩) needs.length cn) ∧ W.cell? ⟨b1, o1 + s, none⟩ = some (.slice Ar r.length cr)) := fun W X h => by
            have h1 : Has W (blk gn (y.map (Value.int .i64)).toArray 135 + (X + (pts g (.map es2 clock2) + (m + F)))) := h.eq (by ac_rfl)
            have h2 : Has W (pts g (.map es2 clock2) + (X + (blk gn (y.map (Value.int .i64)).toArray 135 + (m + F)))) := h.eq (by ac_rfl)
            have h3 : Has W (m + (X + (blk gn (y.map (Value.int .i64)).toArray 135 + (pts g (.map es2 clock2) + F)))) := h.eq (by ac_rfl)
            refine ⟨h2.get, ?_, ?_, ?_, ?_, ?_, ?_, a1.c0 h3.left, e1.c0 h3.left⟩
            · exact h1.at_ (by rw [hyl]; rfl)
            · exact h1.at_ (by rw [hyl]; rfl)
            · exact h1.at_ (by rw [hyl]; rfl)
            · exact h1.at_ (by rw [hyl]; rfl)
            · exact h1.at_ (by rw [hyl]; rfl)
            · refine h1.at_ ?_
              rw [← hys]; simp [List.getD, show s < y.length by omega]
          have hS := keep w6.drew (blk b cur 135) (J3.out.drew.eq (by ac_rfl))
          have Keep := hid keep
          have Hyl := hid hyl
          clear keep hy hyok
          have hlook : ∀ W : World, W.heap[g]? = some (.map es2 clock2) → (Instr.lookup 136 (.map (some g)) (plV y) false).run Try.prog W = .ok (.bool (decide (y ∈ S'))) W := fun W h => Hset2.out.look h Hyok.out
          rw [hyl] at hlook
          refine wp_region_txt (fun W => W.heap[g]? = some (.map es2 clock2) ∧ W.cell? ⟨gn, 0, none⟩ = some (.int .i64 y0) ∧ W.cell? ⟨gn, 1, none⟩ = some (.int .i64 y1) ∧ W.cell? ⟨gn, 2, none⟩ = some (.int .i64 y2) ∧ W.cell? ⟨gn, 3, none⟩ = some (.int .i64 y3) ∧ W.cell? ⟨gn, 4, none⟩ = some (.int .i64 y4) ∧ W.cell? ⟨gn, s, none⟩ = some (.int .i64 (xs + 1)) ∧ W.cell? ⟨hb, 1, none⟩ = some (.slice (some ⟨b1, o1, none⟩) needs.length cn) ∧ W.cell? ⟨b1, o1 + s, none⟩ = some (.slice Ar r.length cr)) none
            [(0, true), (1, true), (2, true), (3, true), (4, true), (5, true), (6, true), (7, true), (8, true), (9, true), (10, true), (11, true), (12, true), (13, true), (14, true), (15, true), (16, true)] (by kernel_rfl) rfl (by kernel_rfl) (by kernel_rfl) (by repeat (first | with_reducible refine PanicOk.thn ?_ | with_reducible refine PanicOk.blk ?_ | exact PanicOk.body _ _ _)) ?_
          repeat
            (refine txt_quiet ?_ hS rfl rfl (fun W hW => ?_) ?_
             rotate_left 1
             · obtain ⟨hW1, hW2, hW3, hW4, hW5, hW6, hW7, hW8, hW9⟩ := hW
               go_simp
               exact rfl
             simp only [Act.put, List.setIfInBounds_toArray, List.set_cons_zero, List.set_cons_succ])
          refine txt_quiet (.bool (decide (y ∈ S'))) hS rfl rfl (fun W hW => ex_look (x := .tmp 44) (k := .tmp 45) rfl (by rw [hyl]; exact hlook W hW.1)) ?_
          simp only [Act.put, List.setIfInBounds_toArray, List.set_cons_zero, List.set_cons_succ]
          have hsl : (s : Int) < needs.length := by rw [Hlen.out]; exact hlsI
          cases hin : decide (y ∈ S') with
          | true =>
            repeat
              (refine txt_quiet ?_ hS rfl rfl (fun W hW => ?_) ?_
               rotate_left 1
               · obtain ⟨hW1, hW2, hW3, hW4, hW5, hW6, hW7, hW8, hW9⟩ := hW
                 go_simp
                 exact rfl
               simp only [Act.put, List.setIfInBounds_toArray, List.set_cons_zero, List.set_cons_succ])
            repeat (refine txt_off hS rfl rfl ?_; simp only [Act.put, List.setIfInBounds_toArray, List.set_cons_zero, List.set_cons_succ])
            repeat
              (refine txt_quiet ?_ hS rfl rfl (fun W hW => ?_) ?_
               rotate_left 1
               · obtain ⟨hW1, hW2, hW3, hW4, hW5, hW6, hW7, hW8, hW9⟩ := hW
                 go_simp
                 exact rfl
               simp only [Act.put, List.setIfInBounds_toArray, List.set_cons_zero, List.set_cons_succ])
            refine txt_done ?_
            have hmem : y ∈ S' := of_decide_eq_true hin
            have Hmem := hid hmem
            clear hS hmem hlook
            go_wp2
            go_roundw
            case rel => exact ⟨s + 1, Hls.out, by go_num, S', HM.out.skip (fun _ => by rw [HSx.out, ← Hy.out]; exact Hmem.out), HSx.out, ⟨hS2, hp2, _, es2, clock2, Hq2.out, Hset2.out, J3.out.right.drew.eq (by ac_rfl)⟩, J4.out.trans (Ext.drew _)⟩
            case measure => have := Hls.out; simp [intOf]; omega
          | false =>
            repeat
              (refine txt_quiet ?_ hS rfl rfl (fun W hW => ?_) ?_
               rotate_left 1
               · obtain ⟨hW1, hW2, hW3, hW4, hW5, hW6, hW7, hW8, hW9⟩ := hW
                 go_simp
                 exact rfl
               simp only [Act.put, List.setIfInBounds_toArray, List.set_cons_zero, List.set_cons_succ])
            refine txt_done ?_
            have hmem : ¬ y ∈ S' := of_decide_eq_false hin
            have Hno := hid hmem
            have Hrg := hid (show needs.getD s [] = r by simp [List.getD, hr])
            by_cases hgt : (r.length : Int) < xs + 1
            · have Hgt := hid hgt
              clear hS hmem hlook
              go_wp2
              go_roundw
              case rel => exact ⟨s + 1, Hls.out, by go_num, S', HM.out.skip (fun hm => by
                rw [HSx.out] at hm
                simp only [mayGo, Bool.and_eq_true, decide_eq_true_eq] at hm
                rw [Hrg.out, ← Hxs.out] at hm
                have := Hgt.out
                omega), HSx.out, ⟨hS2, hp2, _, es2, clock2, Hq2.out, Hset2.out, J3.out.right.drew.eq (by ac_rfl)⟩, J4.out.trans (Ext.drew _)⟩
              case measure => have := Hls.out; simp [intOf]; omega
            · obtain ⟨xn, hxn⟩ : ∃ k : Nat, xs = k := ⟨xs.toNat, by omega⟩
              subst hxn
              have hxr2 : xn < r.length := by omega
              obtain ⟨q, ha⟩ : ∃ q, r[xn]? = some q := ⟨_, List.getElem?_eq_getElem hxr2⟩
              obtain ⟨b3, o3, hA3, e3, e4⟩ := kr.getNeed ha
              subst hA3
              obtain ⟨z1, z2, z3, z4⟩ := (Hrow.out r (List.mem_of_getElem? hr)).2 q (List.mem_of_getElem? ha)
              obtain ⟨q1, q2⟩ := q
              simp only at e3 e4 z1 z2 z3 z4
              obtain ⟨qi, hqi⟩ : ∃ k : Nat, q1 = k := ⟨q1.toNat, by omega⟩
              subst hqi
              have hqn : qi < n := by omega
              obtain ⟨yv, hyv⟩ : ∃ v, v = y.getD qi 0 := ⟨_, rfl⟩
              have Hyv := hid hyv
              have hyq : y[qi]? = some yv := by rw [hyv]; simp [List.getD, show qi < y.length by omega]
              have Hneed := hid (show needAt needs x s = ((qi : Int), q2) by unfold needAt; rw [Hrg.out, ← Hxs.out, Int.toNat_natCast]; simp [List.getD, ha])
              have hw2 : IntKind.i64.wrap ((xn : Int) + 1 - 1) = xn := by rw [IntKind.wrap_i64]; omega
              have hw3 : IntKind.i64.wrap (xn : Int) = xn := by rw [IntKind.wrap_i64]; omega
              have hxI : (xn : Int) < r.length := by omega
              have hq5 : (qi : Int) < 5 := by omega
              have Hmay := hid (show yv < q2 → mayGo needs x s = false from fun h => by
                cases hmg : mayGo needs x s with
                | false => rfl
                | true =>
                  exfalso
                  simp only [mayGo, Bool.and_eq_true, decide_eq_true_eq] at hmg
                  rw [Hneed.out, ← Hy.out] at hmg
                  simp only [Int.toNat_natCast] at hmg
                  rw [← Hyv.out] at hmg
                  omega)
              have Hmay2 := hid (show q2 ≤ yv → mayGo needs x s = true from fun h => by
                simp only [mayGo, Bool.and_eq_true, decide_eq_true_eq]
                rw [Hneed.out, ← Hy.out]
                simp only [Int.toNat_natCast]
                rw [← Hyv.out, Hrg.out, ← Hxs.out]
                exact ⟨by omega, by omega⟩)
              have keep2 : ∀ (W : World) (X : MS), Has W (X + (blk gn (y.map (Value.int .i64)).toArray 135 + (pts g (.map es2 clock2) + (m + F)))) → (W.cell? ⟨gn, s, none⟩ = some (.int .i64 (xn + 1)) ∧ W.cell? ⟨hb, 1, none⟩ = some (.slice (some ⟨b1, o1, none⟩) needs.length cn) ∧ W.cell? ⟨b1, o1 + s, none⟩ = some (.slice (some ⟨b3, o3, none⟩) r.length cr) ∧ W.cell? ⟨b3, o3 + xn * 2, none⟩ = some (.int .i64 qi) ∧ W.cell? ⟨b3, o3 + xn * 2 + 1, none⟩ = some (.int .i64 q2) ∧ W.cell? ⟨gn, qi, none⟩ = some (.int .i64 yv)) := fun W X h => by
                obtain ⟨_, _, _, _, _, _, k1, k2, k3⟩ := Keep.out W X h
                have h1 : Has W (blk gn (y.map (Value.int .i64)).toArray 135 + (X + (pts g (.map es2 clock2) + (m + F)))) := h.eq (by ac_rfl)
                have h3 : Has W (m + (X + (blk gn (y.map (Value.int .i64)).toArray 135 + (pts g (.map es2 clock2) + F)))) := h.eq (by ac_rfl)
                exact ⟨k1, k2, k3, e3.c0 h3.left, e4.c0 h3.left, h1.at_ (by simp [hyq])⟩
              have hT := keep2 w6.drew.drew (blk b cur 135) (J3.out.drew.drew.eq (by ac_rfl))
              have Keep2 := hid keep2
              have Hrq := hid hr
              clear hS hmem hlook keep2 e3 e4 hyq hyv ha z1 z2 z3 z4 a1 kn kr e1
              go_wp2
              refine wp_region_txt (fun W => W.cell? ⟨gn, s, none⟩ = some (.int .i64 (xn + 1)) ∧ W.cell? ⟨hb, 1, none⟩ = some (.slice (some ⟨b1, o1, none⟩) needs.length cn) ∧ W.cell? ⟨b1, o1 + s, none⟩ = some (.slice (some ⟨b3, o3, none⟩) r.length cr) ∧ W.cell? ⟨b3, o3 + xn * 2, none⟩ = some (.int .i64 qi) ∧ W.cell? ⟨b3, o3 + xn * 2 + 1, none⟩ = some (.int .i64 q2) ∧ W.cell? ⟨gn, qi, none⟩ = some (.int .i64 yv)) (some 14)
                [(0, true), (1, true), (2, true), (3, true), (4, true), (5, true), (6, true), (7, true), (8, true), (9, true), (10, true), (11, true), (12, true), (13, false), (14, false)] (by kernel_rfl) rfl (by kernel_rfl) (by kernel_rfl) (by repeat (first | with_reducible refine PanicOk.thn ?_ | with_reducible refine PanicOk.blk ?_ | exact PanicOk.body _ _ _)) ?_
              repeat
                (refine txt_quiet ?_ hT rfl rfl (fun W hW => ?_) ?_
                 rotate_left 1
                 · obtain ⟨hW1, hW2, hW3, hW4, hW5, hW6⟩ := hW
                   go_simp
                   exact rfl
                 simp only [Act.put, List.setIfInBounds_toArray, List.set_cons_zero, List.set_cons_succ])
              refine txt_op rfl rfl ?_
              refine op_run (.pointer (some ⟨w6.drew.drew.heap.size, 0, none⟩)) (w6.drew.drew.alloc (.cells #[.int .i64 0, .int .i64 0] 143)) (by go_simp) ?_
              have J5 : Has (w6.drew.drew.alloc (.cells #[.int .i64 0, .int .i64 0] 143)) (blk w6.drew.drew.heap.size #[.int .i64 0, .int .i64 0] 143 + _) := J3.out.drew.drew.alloc (.cells #[.int .i64 0, .int .i64 0] 143)
              have J6 := hid (((J4.out.trans (Ext.drew _)).trans (Ext.drew _)).trans (Ext.alloc _ (.cells #[.int .i64 0, .int .i64 0] 143)))
              generalize w6.drew.drew.heap.size = gm at *
              generalize w6.drew.drew.alloc _ = w7 at *
              have J5' := hid J5
              clear J5
              refine ⟨fun _ => Keep2.out w7 (blk gm #[.int .i64 0, .int .i64 0] 143 + blk b cur 135) (J5'.out.eq (by ac_rfl)), ?_⟩
              simp only [Act.put, List.setIfInBounds_toArray, List.set_cons_zero, List.set_cons_succ]
              refine txt_op rfl rfl ?_
              refine op_store_whole (.tmp 12) (.tmp 73) 143 rfl 2 size143 gm (.agg #[.int .i64 qi, .int .i64 q2]) rfl rfl rfl (by simp [Value.cells, Value.oneCell']) #[.int .i64 0, .int .i64 0] 143 _ J5'.out rfl ?_
              intro w8 k4 E4
              refine ⟨fun h => absurd rfl h, ?_⟩
              simp only [Act.put]
              refine txt_done ?_
              have J7 := hid (show Has w8 (blk gm #[.int .i64 qi, .int .i64 q2] 143 + (blk gn (y.map (Value.int .i64)).toArray 135 + (blk b cur 135 + (pts g (.map es2 clock2) + (m + F))))) from (show Has w8 (blk gm #[.int .i64 qi, .int .i64 q2] 143 + _) from k4).eq (by ac_rfl))
              have J8 := hid (J6.out.trans E4)
              clear hT k4 E4 hw2
              go_wp2
              have hU : w8.drew.cell? ⟨gm, 0, none⟩ = some (.int .i64 qi) ∧ w8.drew.cell? ⟨gm, 1, none⟩ = some (.int .i64 q2) ∧ w8.drew.cell? ⟨gn, qi, none⟩ = some (.int .i64 yv) := ⟨J7.out.drew.at_ rfl, J7.out.drew.at_ rfl, (Keep2.out w8.drew (blk gm #[.int .i64 qi, .int .i64 q2] 143 + blk b cur 135) (J7.out.drew.eq (by ac_rfl))).2.2.2.2.2⟩
              refine wp_region_txt (fun W => W.cell? ⟨gm, 0, none⟩ = some (.int .i64 qi) ∧ W.cell? ⟨gm, 1, none⟩ = some (.int .i64 q2) ∧ W.cell? ⟨gn, qi, none⟩ = some (.int .i64 yv)) none
                [(0, true), (1, true), (2, true), (3, true), (4, true), (5, true), (6, true)] (by kernel_rfl) rfl (by kernel_rfl) (by kernel_rfl) (by repeat (first | with_reducible refine PanicOk.thn ?_ | with_reducible refine PanicOk.blk ?_ | exact PanicOk.body _ _ _)) ?_
              repeat
                (refine txt_quiet ?_ hU rfl rfl (fun W hW => ?_) ?_
                 rotate_left 1
                 · obtain ⟨hW1, hW2, hW3⟩ := hW
                   go_simp
                   exact rfl
                 simp only [Act.put, List.setIfInBounds_toArray, List.set_cons_zero, List.set_cons_succ])
              refine txt_done ?_
              by_cases hlt2 : yv < q2
              · have hmf := Hmay.out hlt2
                have Hmf := hid hmf
                clear hU hmf
                go_wp2
                go_roundw
                case rel => exact ⟨s + 1, Hls.out, by go_num, S', HM.out.skip (fun hm => by
                  rw [HSx.out, Hmf.out] at hm
                  cases hm), HSx.out, ⟨hS2, hp2, _, es2, clock2, Hq2.out, Hset2.out, J7.out.right.right.drew.eq (by ac_rfl)⟩, J8.out.trans (Ext.drew _)⟩
                case measure => have := Hls.out; simp [intOf]; omega
              · have hmf := Hmay2.out (by omega)
                have Hmf := hid hmf
                have J9 := hid (show Has w8.drew (pts g (.map es2 clock2) + (blk gn (y.map (Value.int .i64)).toArray 135 + (blk gm #[.int .i64 qi, .int .i64 q2] 143 + (blk b cur 135 + (m + F))))) from J7.out.drew.eq (by ac_rfl))
                have hlm := len_map J9.out.get (by rw [Hset2.out.size]; omega)
                rw [Hset2.out.size] at hlm
                clear hU hmf
                by_cases hfull : (S'.length : Int) = 100000
                · have Hfull := hid hfull
                  go_wp2
                  go_ret2
                  refine ⟨.inr ⟨S', y, HM.out.inv.nodup, HM.out.inv.reach, by have := Hfull.out; omega, by rw [Hy.out]; exact .step Hrch.out Hls.out Hmf.out, Hno.out, rfl⟩, ?_, J8.out.trans (Ext.drew _)⟩
                  exact (J9.out.eq (b := (pts g (.map es2 clock2) + (blk gn (y.map (Value.int .i64)).toArray 135 + (blk gm #[.int .i64 qi, .int .i64 q2] 143 + (blk b cur 135 + m)))) + F) (by ac_rfl)).right
                · obtain ⟨v0, v1, v2, v3, v4⟩ : w8.drew.cell? ⟨gn, 0, none⟩ = some (.int .i64 y0) ∧ w8.drew.cell? ⟨gn, 1, none⟩ = some (.int .i64 y1) ∧ w8.drew.cell? ⟨gn, 2, none⟩ = some (.int .i64 y2) ∧ w8.drew.cell? ⟨gn, 3, none⟩ = some (.int .i64 y3) ∧ w8.drew.cell? ⟨gn, 4, none⟩ = some (.int .i64 y4) := by
                    obtain ⟨_, k0, k1, k2, k3, k4, _⟩ := Keep.out w8.drew (blk gm #[.int .i64 qi, .int .i64 q2] 143 + blk b cur 135) (J7.out.drew.eq (by ac_rfl))
                    exact ⟨k0, k1, k2, k3, k4⟩
                  have Hnf := hid hfull
                  have hS3 : S'.length < 100000 := by omega
                  go_wp2_with (first
                    | (refine wpList_put rfl (.tmp 84) (.tmp 85) (.const (.bool true)) (.inr rfl) g rfl y (by rw [Hyl.out]; rfl) rfl Hset2.out Hyok.out Hno.out _ J9.out ?_; intro es3 clock3 w9 k1 k2 k3; have L1 := hid k1; have L2 := hid k2; have L3 := hid ((J8.out.trans (Ext.drew _)).trans k3); have L4 := hid (k2.eq (b := blk gn (y.map (Value.int .i64)).toArray 135 + (pts g (.map es3 clock3) + (blk gm #[.int .i64 qi, .int .i64 q2] 143 + (blk b cur 135 + (m + F))))) (by ac_rfl)); have u0 : w9.cell? ⟨gn, 0, none⟩ = some (.int .i64 y0) := L4.out.at_ (by rw [Hyl.out]; rfl); have u1 : w9.cell? ⟨gn, 1, none⟩ = some (.int .i64 y1) := L4.out.at_ (by rw [Hyl.out]; rfl); have u2 : w9.cell? ⟨gn, 2, none⟩ = some (.int .i64 y2) := L4.out.at_ (by rw [Hyl.out]; rfl); have u3 : w9.cell? ⟨gn, 3, none⟩ = some (.int .i64 y3) := L4.out.at_ (by rw [Hyl.out]; rfl); have u4 : w9.cell? ⟨gn, 4, none⟩ = some (.int .i64 y4) := L4.out.at_ (by rw [Hyl.out]; rfl); clear k1 k2 k3 v0 v1 v2 v3 v4 hlm)
                    | (at_builtin; refine wpList_push rfl (.tmp 86) (.tmp 88) row137 rfl _ rfl _ rfl rfl PlR PlR.one PlR.len (S'.drop p) y (blk b cur 135) 0 (pts g (.map es3 clock3) + (blk gn (y.map (Value.int .i64)).toArray 135 + (blk gm #[.int .i64 qi, .int .i64 q2] 143 + (m + F)))) Hq2.out ⟨by rw [Hyl.out]; rfl, by rw [Hyl.out]; rfl, rfl⟩ (L2.out.eq (by rw [MS.zero_add]; ac_rfl)) (dn + 1) (by rw [Hdn.out]; have := HM.out.lt; simp only [List.length_drop]; omega) (by rw [Hdn.out]; simp only [List.length_drop]; omega) (by omega) ?_; intro A7 c7 w10 m7 k1 k2 k3; have M1 := hid k1; have M2 := hid k2; have M3 := hid (L3.out.trans k3); clear k1 k2 k3))
                  go_roundw
                  case rel =>
                    have hadd := HM.out.add Hls.out (by rw [HSx.out]; exact Hmf.out) (by rw [HSx.out, ← Hy.out]; exact Hno.out)
                    rw [HSx.out, ← Hy.out] at hadd
                    have hpl := HM.out.lt
                    refine ⟨s + 1, Hls.out, by go_num, S' ++ [y], hadd, ?_, ⟨by simp; omega, by simp; omega, m7, es3, clock3, ?_, L1.out, (M2.out.eq (b := (blk gn (y.map (Value.int .i64)).toArray 135 + blk gm #[.int .i64 qi, .int .i64 q2] 143) + (pts g (.map es3 clock3) + (m7 + (m + F)))) (by ac_rfl)).right⟩, M3.out⟩
                    · rw [← HSx.out]; simp [List.getD, List.getElem?_append_left hpl]
                    · rw [List.drop_append_of_le_length hp2]; exact M1.out
                  case measure => have := Hls.out; simp [intOf]; omega
        · have hse : s = n := by omega
          subst hse
          have hq3 := hq2
          rw [hdr] at hq3
          obtain ⟨b, o, c2, cur, rfl, rfl, hx5, hcells, hrest⟩ := pls_cons hq3
          obtain ⟨dn, hdn⟩ : ∃ dn, dn = (S'.drop (p + 1)).length := ⟨_, rfl⟩
          rw [← hdn] at hrest ⊢
          have Hdn := hid hdn
          have Hrest := hid hrest
          have HHr2 := hid hHr2
          have Hold := hid (msz_of HHr.out.get)
          have Hnew := hid (msz_of hHr2.get)
          clear hdn hrest hcells hq3 hq2 hdr hHr2 hM hSx hset2 hE2
          go_wp2_with (refine wpList_run rfl _ _ (ex_slice137 rfl (slice137 b o dn c2 _)) ?_)
          go_roundw
          case rel => exact ⟨S', p + 1, HM.out.done, ⟨hS2, hpl, _, es2, clock2, Hrest.out, Hset2.out, HHr2.out⟩, HE2.out⟩
          case measure =>
            rw [Hold.out, Hnew.out, Hset.out.size, Hset2.out.size]
            simp only [sln]
            have := Hdn.out
            simp only [List.length_drop] at this
            have h3 := Hnd.out
            simp only [List.length_drop] at h3
            omega
    · have hpe : p = S.length := by omega
      subst hpe
      have hd : (S.drop S.length).length = 0 := by simp
      have hmap := HHr.out.get
      have hes := Hset.out.size
      rw [hd]
      clear hd
      have hlm := len_map hmap (by omega)
      rw [hes] at hlm
      have Hfin := hid (show Has wr F from HHr.out.right.right.right)
      clear hmap hes
      go_wp2
      go_ret2
      exact ⟨.inl ⟨S, HB.out, hS1, rfl⟩, Hfin.out, HE.out⟩
end Go.Proofs.Ytnkgfgkgepadhaa

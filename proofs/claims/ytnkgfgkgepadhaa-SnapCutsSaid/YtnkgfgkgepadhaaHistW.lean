/-
  The walk of recalled.
-/
import Derived.Test.YtnkgfgkgepadhaaHist
namespace Go.Proofs.Ytnkgfgkgepadhaa
open Go.RowKit Go.MapKept Go.ChangeMaps
open Go.WideMaps (KeyLaw)
set_option linter.unusedVariables false
set_option linter.unusedSimpArgs false
set_option maxHeartbeats 4000000
set_option maxRecDepth 100000

/-! ### In memory -/
def NeedR (a : Int × Int) (cs : List Value) (m : MS) : Prop := cs = [.int .i64 a.1, .int .i64 a.2] ∧ m = 0
theorem NeedR.len : ∀ a cs m, NeedR a cs m → cs.length = 2 := fun a cs m h => by rw [h.1]; rfl
theorem NeedR.one : ∀ a cs m, NeedR a cs m → ∀ u ∈ cs, u.oneCell' = true := fun a cs m h u hu => by
  rw [h.1] at hu; simp at hu; rcases hu with rfl | rfl <;> rfl
def Needs : List (Int × Int) → Value → MS → Prop := SlR 143 2 NeedR
def Needs2 : List (List (Int × Int)) → Value → MS → Prop := SlR 138 1 (El Needs)
def IsHist (n : Int) (needs : List (List (Int × Int))) (b : Nat) (m : MS) : Prop := ∃ vn mn, m = blk b #[.int .i64 n, vn] 141 + mn ∧ Needs2 needs vn mn
theorem info138 : (Try.prog.info? 138).map (fun i => (i.zero, i.size, i.bytes)) = some (some (.slice none 0 0), 1, 24) := by kernel_rfl
theorem info143 : (Try.prog.info? 143).map (fun i => (i.zero, i.size, i.bytes)) = some (some (.agg #[.int .i64 0, .int .i64 0]), 2, 16) := by kernel_rfl
theorem row139 : RowTy Try.prog 139 138 (.slice none 0 0) 1 24 := ⟨Try.underlying139, info138, rfl⟩
theorem row138 : RowTy Try.prog 138 143 (.agg #[.int .i64 0, .int .i64 0]) 2 16 := ⟨Try.underlying138, info143, rfl⟩
theorem size138 : (Try.prog.info? 138).map (·.size) = some 1 := by kernel_rfl
theorem size143 : (Try.prog.info? 143).map (·.size) = some 2 := by kernel_rfl
theorem rows_noNeeds : ∀ n : Nat, RowsR (El Needs) (List.replicate n []) (List.replicate n (.slice none 0 0)) 0
  | 0 => RowsR.nil
  | n + 1 => ⟨[.slice none 0 0], 0, _, 0, ⟨_, rfl, SlR.empty _ _ _, rfl⟩, rows_noNeeds n, rfl, (MS.zero_add 0).symm⟩
theorem made_needs {n : Nat} {v : Value} {m : MS} (h : Sl 138 1 v n (madeCells (Value.slice none 0 0).cells (n * 1)).toList m) : Needs2 (List.replicate n []) v m := by
  have e : (madeCells (Value.slice none 0 0).cells (n * 1)).toList = List.replicate n (.slice none 0 0) := by
    rw [Nat.mul_one]; exact toList_madeCells_one (.slice none 0 0) n
  rw [e] at h
  exact ⟨_, m, 0, by simpa using h, rows_noNeeds n, (MS.add_zero m).symm⟩
section
variable {P : Program} {w : World} {o : Oper} {a : Act} {Q : Exit → Act → World → Prop} {ops : Array Oper} {rest : List Oper}
/-- An operation whose run is known. -/
theorem wpList_run (hgd : o.guard = none) (v : Value) (w' : World) (hrun : (execOp a.eval o).run P w = .ok (.value v) w') (h : wpList P ops Q rest (a.put o.dst v) w') : wpList P ops Q (o :: rest) a w :=
  wpList_plain hgd fun _ hK => by
    unfold Oper.wp
    rw [hrun]
    exact hK _ _ h
end
theorem ex_lookup {a : Act} {o : Oper} {x k : Operand} {v : Value} {W : World} (ho : o.op = .lookup 154 x k false) (h : (Instr.lookup 154 (a.eval x) (a.eval k) false).run Try.prog W = .ok v W) : (execOp a.eval o).run Try.prog W = .ok (.value v) W := by
  simp only [execOp, ho, Sem.run_bind, h, Result.andThen, Sem.run_pure]
theorem ex_entry {a : Act} {o : Oper} {x k : Operand} {v : Value} {W W' : World} (ho : o.op = .mapEntry 154 x k) (h : (Instr.mapEntry 154 (a.eval x) (a.eval k)).run Try.prog W = .ok v W') : (execOp a.eval o).run Try.prog W = .ok (.value v) W' := by
  simp only [execOp, ho, Sem.run_bind, h, Result.andThen, Sem.run_pure]
theorem ex_store {a : Act} {o : Oper} {x s y : Operand} {W W' : World} (ho : o.op = .entryStore 154 x s y) (h : (Instr.entryStore 154 (a.eval x) (a.eval s) (a.eval y)).run Try.prog W = .ok () W') : (execOp a.eval o).run Try.prog W = .ok .skip W' := by
  simp only [execOp, ho, Sem.run_bind, h, Result.andThen, Sem.run_pure]
theorem op_skip {P : Program} {w : World} {o : Oper} {a : Act} {K : Act → World → Prop} {Q : Exit → Act → World → Prop} (w' : World) (hrun : (execOp a.eval o).run P w = .ok .skip w') (h : K (a.put o.dst undef) w') : opWp P o a w K Q := by
  unfold opWp Oper.wp
  rw [hrun]
  exact h
theorem ex_makeMap {P : Program} {a : Act} {o : Oper} {t : TypeId} {W : World} (ho : o.op = .makeMap t none) : (execOp a.eval o).run P W = .ok (.value (.map (some W.heap.size))) (W.alloc (.map #[] 0)) := by
  simp [execOp, ho, Instr.makeMap, Result.andThen]
theorem zero22 (w : World) : (zeroValue 22).run Try.prog w = .ok (.slice none 0 0) w := by kernel_rfl
/-- Lookup of a pair. -/
theorem lookup154 {s : List ((Int × Int) × List Int)} {es : Array MapEntry} {clock : Nat} {me : MS} {g : Nat} {q : Int × Int} (hR : MapR s es.toList me) (hst : Stamped es clock) (hq : small q) :
    ∃ v m1 m2, me = m1 + m2 ∧ Ints (sGet s q) v m1 ∧ ∀ W : World, W.heap[g]? = some (.map es clock) → (Instr.lookup 154 (.map (some g)) (pairV q) false).run Try.prog W = .ok v W := by
  obtain ⟨kl, hkl⟩ := key_small hq
  by_cases hex : ∃ (j : Nat) (e0 : MapEntry), es.toList[j]? = some e0 ∧ e0.key = pairV q
  · obtain ⟨j, e0, h1, h2⟩ := hex
    obtain ⟨m1, m2, k1, k2, _⟩ := hR.some hst.2.2 h1 h2
    refine ⟨e0.val, m1, m2, k1, k2, fun W hW => ?_⟩
    rcases map_lookup law155 Try.underlying154 (zero22 W) hW hR.keys hkl with ⟨_, h3⟩ | ⟨j', e1, h3, h4, h5⟩
    · exact absurd h2 (h3 e0 (List.mem_of_getElem? h1))
    · have hj : j' = j := by
        have g1 : (es.toList.map (·.key))[j']? = some (pairV q) := by rw [List.getElem?_map, h4]; simp [h5]
        have g2 : (es.toList.map (·.key))[j]? = some (pairV q) := by rw [List.getElem?_map, h1]; simp [h2]
        have l1 := (List.getElem?_eq_some_iff.1 g1).1
        exact (List.getElem?_inj l1 hst.2.2).1 (by rw [g1, g2])
      subst hj
      rw [h1] at h4
      injection h4 with h4
      rw [h4]; exact h3
  · have hno : ∀ x ∈ es.toList, x.key ≠ pairV q := fun x hx e => by
      obtain ⟨j, hj, rfl⟩ := List.mem_iff_getElem.1 hx
      exact hex ⟨j, _, List.getElem?_eq_getElem hj, e⟩
    obtain ⟨k1, _⟩ := hR.none hno
    refine ⟨.slice none 0 0, 0, me, (MS.zero_add me).symm, by rw [k1]; exact SlR.empty _ _ _, fun W hW => ?_⟩
    rcases map_lookup law155 Try.underlying154 (zero22 W) hW hR.keys hkl with ⟨h3, _⟩ | ⟨j', e1, _, h4, h5⟩
    · exact h3
    · exact absurd h5 (hno e1 (List.mem_of_getElem? h4))
/-- An entry of a pair, then a store into it. -/
theorem put154 {s : List ((Int × Int) × List Int)} {es : Array MapEntry} {clock : Nat} {me : MS} {g : Nat} {q : Int × Int} (hR : MapR s es.toList me) (hst : Stamped es clock) (hq : small q) :
    ∃ v m1 m2 st es1 clock1, me = m1 + m2 ∧ Ints (sGet s q) v m1 ∧ (sGet s q ≠ [] → es1 = es ∧ clock1 = clock) ∧
      (∀ W : World, W.heap[g]? = some (.map es clock) → (Instr.lookup 154 (.map (some g)) (pairV q) false).run Try.prog W = .ok v W) ∧
      (∀ W : World, W.heap[g]? = some (.map es clock) → (Instr.mapEntry 154 (.map (some g)) (pairV q)).run Try.prog W = .ok (.tuple #[v, goInt st]) (setBlock W g (.map es1 clock1))) ∧
      ∀ (l : List Int) (v' : Value) (m' : MS), Ints l v' m' → ∃ es' clock', MapR (sPut s q l) es'.toList (m' + m2) ∧ Stamped es' clock' ∧
        ∀ W : World, W.heap[g]? = some (.map es1 clock1) → (Instr.entryStore 154 (.map (some g)) (goInt st) v').run Try.prog W = .ok () (setBlock W g (.map es' clock')) := by
  obtain ⟨kl, hkl⟩ := key_small hq
  by_cases hex : ∃ (j : Nat) (e0 : MapEntry), es.toList[j]? = some e0 ∧ e0.key = pairV q
  · obtain ⟨j, e0, h1, h2⟩ := hex
    obtain ⟨m1, m2, k1, k2, k3⟩ := hR.some hst.2.2 h1 h2
    refine ⟨e0.val, m1, m2, e0.born, es, clock, k1, k2, fun _ => ⟨rfl, rfl⟩, fun W hW => ?_, fun W hW => map_entry_old law155 Try.underlying154 hW hst hR.keys hkl h1 h2, fun l v' m' hl => ⟨es.modify j (fun e' => { e' with val := v' }), clock, ?_, stamped_modify hst _ _ (fun _ _ => rfl) (fun _ _ _ => rfl), fun W hW => map_store_old hst h1 hW⟩⟩
    · rcases map_lookup law155 Try.underlying154 (zero22 W) hW hR.keys hkl with ⟨_, h3⟩ | ⟨j', e1, h3, h4, h5⟩
      · exact absurd h2 (h3 e0 (List.mem_of_getElem? h1))
      · have hj := key_once hst.2.2 h1 h4 h2 h5
        subst hj
        rw [h1] at h4
        injection h4 with h4
        rw [h4]; exact h3
    have := k3 v' e0.born l m' hl
    rw [Array.toList_modify, modify_eq_set _ _ _ _ h1]
    rw [← h2] at this
    exact this
  · have hno : ∀ x ∈ es.toList, x.key ≠ pairV q := fun x hx e => by
      obtain ⟨j, hj, rfl⟩ := List.mem_iff_getElem.1 hx
      exact hex ⟨j, _, List.getElem?_eq_getElem hj, e⟩
    obtain ⟨k1, k2⟩ := hR.none hno
    refine ⟨.slice none 0 0, 0, me, clock, es.push ⟨pairV q, .slice none 0 0, clock⟩, clock + 1, (MS.zero_add me).symm, by rw [k1]; exact SlR.empty _ _ _, fun h => absurd k1 h, fun W hW => ?_, fun W hW => map_entry_new law155 Try.underlying154 (zero22 W) hW hR.keys hkl hno,
      fun l v' m' hl => ⟨es.push ⟨pairV q, v', clock⟩, clock + 1, ?_, stamped_push hst hno, fun W hW => map_store_new hst hW⟩⟩
    · rcases map_lookup law155 Try.underlying154 (zero22 W) hW hR.keys hkl with ⟨h3, _⟩ | ⟨j', e1, _, h4, h5⟩
      · exact h3
      · exact absurd h5 (hno e1 (List.mem_of_getElem? h4))
    have := k2 v' clock l m' hq hl
    simpa using this
/-- A map's block turned. -/
theorem Has.setMap {w : World} {g : Nat} {o o' : Obj} {F : MS} (h : Has w (pts g o + F)) : Has (setBlock w g o') (pts g o' + F) :=
  h.upd (fun i hi => by simp [setBlock, Ne.symm hi]) (by have := h.lt; simp [setBlock, this]) (by simp [setBlock])
theorem Ext.setMap (w : World) (g : Nat) (o : Obj) : Ext w (setBlock w g o) := ⟨rfl, rfl, rfl, by simp [setBlock]⟩

theorem sizeOf_ints {x : Int} {l : List Int} {v : Value} {m : MS} (h : Ints (x :: l) v m) :
    ∃ b o c cur, v = .slice (some ⟨b, o, none⟩) (l.length + 1) c ∧ m = blk b cur 3 ∧ cur[o]? = some (.int .i64 x) ∧ Ints l (.slice (some ⟨b, restOff c o, none⟩) l.length (c - 1)) m := by
  have h1 := Ints.cells h
  rcases h1 with ⟨hl, ⟨_, h0, _⟩ | ⟨bl, off, c, cur, rfl, rfl, k1, k2, k3, k4⟩⟩
  · simp at h0
  · simp only [List.length_cons, Nat.mul_one] at k1 k3 k4
    refine ⟨bl, off, c, cur, rfl, rfl, by have := k4 0 (by omega); simpa using this, Ints.of ⟨by simp, .inr ⟨bl, restOff c off, c - 1, cur, rfl, rfl, by omega, by omega, by unfold restOff; split <;> omega, fun j hj => ?_⟩⟩⟩
    have := k4 (j + 1) (by omega)
    unfold restOff
    rw [if_neg (by omega), show off + 1 + j = off + (j + 1) by omega, this]
    simp
theorem Hist.run_append (n : Int) : ∀ (l l' : List Ev) (h : Hist), Hist.run n h (l ++ l') = match Hist.run n h l with | none => none | some h' => Hist.run n h' l'
  | [], l', h => rfl
  | a :: l, l', h => by
    simp only [List.cons_append, Hist.run]
    cases h.step n a with
    | none => rfl
    | some h' => exact Hist.run_append n l l' h'
theorem slice22 (bl off n c : Nat) (w : World) :
    (Instr.sliceAt 22 (.slice (some ⟨bl, off, none⟩) (n + 1) c) (some (.int .i64 1)) none none).run Try.prog w = .ok (.slice (some ⟨bl, restOff c off, none⟩) n (c - 1)) w := slice_rest 22 3 Try.underlying22 (by kernel_rfl) bl off n c w
theorem run_slice22 {a : Act} {dst : Option Tmp} {x lo : Operand} {ty : TypeId} {pos : String} {af : Array Edge} {g : Option (Nat × Bool)} {v : Value} {W : World} (h : (Instr.sliceAt 22 (a.eval x) (some (a.eval lo)) none none).run Try.prog W = .ok v W) :
    (execOp a.eval { dst := dst, op := .slice 22 x (some lo) none none, type := ty, pos := pos, after := af, guard := g }).run Try.prog W = .ok (.value v) W := by
  simp only [execOp, Option.map, Sem.run_bind, h, Result.andThen, Sem.run_pure]
def recErr (n : Int) (l : List Ev) : Int := if n < 2 ∨ 5 < n then 2 else if 60 < l.length then 3 else match Hist.run n (Hist.zero n.toNat) l with | none => 2 | some _ => 0
def RecPost (F : MS) (w : World) (n : Int) (l : List Ev) (e : Ending) (w' : World) : Prop :=
  (recErr n l ≠ 0 ∧ e = .returned (.tuple #[.pointer none, .int .i64 (recErr n l)]) ∧ Has w' F ∧ Ext w w') ∨
  (∃ k h hb m, n = (k : Nat) ∧ 2 ≤ k ∧ k ≤ 5 ∧ l.length ≤ 60 ∧ Hist.run n (Hist.zero k) l = some h ∧ HistOk k l.length h ∧ e = .returned (.tuple #[.pointer (some ⟨hb, 0, none⟩), .int .i64 0]) ∧ IsHist n h.needs hb m ∧ Has w' (m + F) ∧ Ext w w')
/-- What the loop keeps. -/
def HistInv (F : MS) (w : World) (n hb g : Nat) (l : List Ev) (v : Value) (wr : World) : Prop :=
  ∃ (t : Nat) (h : Hist) (vn : Value) (mn : MS) (es : Array MapEntry) (clock : Nat) (me : MS), t ≤ l.length ∧ v = .int .i64 t ∧ Hist.run n (Hist.zero n) (l.take t) = some h ∧ HistOk n t h ∧ Needs2 h.needs vn mn ∧ Stamped es clock ∧ MapR h.sent es.toList me ∧
    Has wr (blk hb #[.int .i64 n, vn] 141 + (mn + (pts g (.map es clock) + (me + F)))) ∧ Ext w wr

theorem recalled_any {F : MS} {n : Int} {l : List Ev} {A : Option Addr} {k c : Nat} {w : World} (hr : RdS F RT.ev l (.slice A k c)) (hH : Has w F) :
    Calls Try.prog 79 #[.int .i64 n, .slice A k c] w (RecPost F w n l) := by
  obtain ⟨rfl, hc1, hc2, _⟩ := hr.cells
  have HH := hid hH
  have Hr := hid hr
  have qm : (l.length : Int) ≤ 9223372036854775807 := by unfold maxLen at hc2; omega
  clear hr hH hc1 hc2
  by_cases h2 : n < 2
  · have e := hid (show recErr n l = 2 by unfold recErr; rw [if_pos (.inl h2)])
    go_enter Try.func79, Try.ntmps79
    go_wp2
    go_ret2
    exact .inl ⟨by rw [e.out]; decide, by rw [e.out]; rfl, HH.out, Ext.refl w⟩
  · by_cases h5 : 5 < n
    · have e := hid (show recErr n l = 2 by unfold recErr; rw [if_pos (.inr h5)])
      go_enter Try.func79, Try.ntmps79
      go_wp2
      go_ret2
      exact .inl ⟨by rw [e.out]; decide, by rw [e.out]; rfl, HH.out, Ext.refl w⟩
    · by_cases h60 : (60 : Int) < l.length
      · have e := hid (show recErr n l = 3 by unfold recErr; rw [if_neg (by omega), if_pos (by omega)])
        go_enter Try.func79, Try.ntmps79
        go_wp2
        go_ret2
        exact .inl ⟨by rw [e.out]; decide, by rw [e.out]; rfl, HH.out, Ext.refl w⟩
      · obtain ⟨n', rfl⟩ := Int.eq_ofNat_of_zero_le (show 0 ≤ n by omega)
        have Hrec := hid (show recErr n' l = match Hist.run n' (Hist.zero n') l with | none => 2 | some _ => 0 by unfold recErr; rw [if_neg (by omega), if_neg (by omega), Int.toNat_natCast])
        have n5 : n' ≤ 5 := by omega
        have n2 : 2 ≤ n' := by omega
        have n5I : (n' : Int) ≤ 5 := by omega
        have l60 : l.length ≤ 60 := by omega
        have l60I : (l.length : Int) ≤ 60 := by omega
        clear qm
        go_enter Try.func79, Try.ntmps79
        go_wp2_with (first
          | (refine wpList_make_sl rfl (.tmp 23) (.tmp 23) 139 rfl 138 _ 1 24 Try.underlying139 info138 .i64 .i64 n' rfl rfl (by omega) (by simp only [maxLen]; omega) F HH.out ?_; intro v' w1 m1 j1 j2 j3 _; obtain ⟨A1, c1, rfl, _⟩ := j1.form; have J1 := hid (made_needs j1); have J2 := hid j2; have J3 := hid j3; clear j1 j2 j3)
          | (refine wpList_run rfl _ _ (ex_makeMap rfl) ?_
             have HB := hid ((J2.out.alloc (.cells #[.int .i64 n', .slice A1 n' c1] 141)).alloc (.map #[] 0))
             have HE := hid ((J3.out.trans (Ext.alloc w1 (.cells #[.int .i64 n', .slice A1 n' c1] 141))).trans (Ext.alloc _ (.map #[] 0)))))
        have HB2 := hid (show Has ((w1.alloc (.cells #[.int .i64 n', .slice A1 n' c1] 141)).alloc (.map #[] 0)) (blk w1.heap.size #[.int .i64 n', .slice A1 n' c1] 141 + (m1 + (pts (w1.heap.size + 1) (.map #[] 0) + (0 + F)))) from by
          have := HB.out
          rw [show (w1.alloc (.cells #[.int .i64 n', .slice A1 n' c1] 141)).heap.size = w1.heap.size + 1 by simp] at this
          rw [MS.zero_add]
          exact this.eq (by show _ + (blk _ _ _ + _) = _; ac_rfl))
        clear HB J2 J3
        generalize w1.alloc _ = wA at *
        generalize wA.alloc _ = wB at *
        generalize hgg : w1.heap.size + 1 = g at *
        generalize w1.heap.size = hb at *
        clear hgg
        have HI := hid (show HistInv F w n' hb g l (.int .i64 0) wB from ⟨0, Hist.zero n', _, m1, #[], 0, 0, Nat.zero_le _, rfl, rfl, HistOk.zero n', J1.out, stamped_empty 0, ⟨rfl, rfl⟩, HB2.out, HE.out⟩)
        clear HB2 HE J1
        go_loopw [30] (fun v wr => HistInv F w n' hb g l v wr) (fun v _ => l.length - (intOf v).toNat)
        case atStart => exact HI.out
        case round =>
          obtain ⟨t, h, vn, mn, es, clock, me, ht, rfl, hrun, hok, hvn, hst, hmr, hHt, hEt⟩ := hrel
          obtain ⟨An, cn, rfl, _⟩ := SlR.form hvn
          rw [hok.len] at hvn hHt
          have Hrun := hid hrun
          have Hok := hid hok
          have Hvn := hid hvn
          have Hms := hid (And.intro hst hmr)
          have HHt := hid hHt
          have HEt := hid hEt
          clear hrun hok hvn hst hmr hHt hEt
          by_cases hlt : t < l.length
          · obtain ⟨x, hx⟩ : ∃ x, l[t]? = some x := ⟨_, List.getElem?_eq_getElem hlt⟩
            obtain ⟨b1, o1, Ak, ck, hA, e0, e1, e2, e3, e4, _⟩ := Hr.out.getEv hx
            subst hA
            have hF : Has wr (0 + F) := by rw [MS.zero_add]; exact HHt.out.right.right.right.right
            have f0 := e0.cell hF
            have f1 := e1.cell hF
            have f2 := e2.cell hF
            have f3 := e3.cell hF
            have f4 := e4.cell hF
            have hfb := World.block_lt_of_cell? _ _ f0
            simp only at hfb
            have hsp : l = l.take (t + 1) ++ l.drop (t + 1) := (List.take_append_drop _ _).symm
            have hstep : Hist.run n' (Hist.zero n') (l.take (t + 1)) = h.step n' x := by rw [take_more hx, Hist.run_snoc, Hrun.out]
            have Hnone := hid (show h.step n' x = none → recErr n' l = 2 from fun hn => by
              rw [Hrec.out, hsp, Hist.run_append, hstep, hn])
            have Hstep := hid hstep
            have Hlt := hid hlt
            have hltI : (t : Int) < l.length := by omega
            have Hbad := hid (show evBad n' x → recErr n' l = 2 from fun hb => Hnone.out (by unfold Hist.step; rw [if_pos hb]))
            have Hstp := hid (show h.step n' x = _ from rfl)
            generalize hs0 : x.station = s at *
            generalize hs1 : x.what = wh at *
            generalize hs2 : x.other = ot at *
            generalize hs3 : x.pieces = pc at *
            generalize x.clock.length = kl at *
            have Hx := hid (And.intro hs0 (And.intro hs1 hs2))
            clear hF hx hsp hstep e0 e1 e2 e3 e4 hlt hs0 hs1 hs2 hs3
            have Hb := hid (show ∀ (q : s < 0 ∨ (n' : Int) ≤ s ∨ ot < 0 ∨ (n' : Int) ≤ ot ∨ wh < 1 ∨ 3 < wh), recErr n' l = 2 from fun q => Hbad.out (by obtain ⟨x0, x1, x2⟩ := Hx.out; unfold evBad; rw [x0, x1, x2]; exact q))
            by_cases b0 : s < 0
            · have e := hid (Hb.out (by omega))
              go_wp2
              go_ret2
              exact .inl ⟨by rw [e.out]; decide, by rw [e.out]; rfl, (HHt.out.alloc _).right.right.right.right.right, HEt.out.trans (Ext.alloc _ _)⟩
            by_cases b1 : (n' : Int) ≤ s
            · have e := hid (Hb.out (by omega))
              go_wp2
              go_ret2
              exact .inl ⟨by rw [e.out]; decide, by rw [e.out]; rfl, (HHt.out.alloc _).right.right.right.right.right, HEt.out.trans (Ext.alloc _ _)⟩
            by_cases b2 : ot < 0
            · have e := hid (Hb.out (by omega))
              go_wp2
              go_ret2
              exact .inl ⟨by rw [e.out]; decide, by rw [e.out]; rfl, (HHt.out.alloc _).right.right.right.right.right, HEt.out.trans (Ext.alloc _ _)⟩
            by_cases b3 : (n' : Int) ≤ ot
            · have e := hid (Hb.out (by omega))
              go_wp2
              go_ret2
              exact .inl ⟨by rw [e.out]; decide, by rw [e.out]; rfl, (HHt.out.alloc _).right.right.right.right.right, HEt.out.trans (Ext.alloc _ _)⟩
            by_cases b4 : wh < 1
            · have e := hid (Hb.out (by omega))
              go_wp2
              go_ret2
              exact .inl ⟨by rw [e.out]; decide, by rw [e.out]; rfl, (HHt.out.alloc _).right.right.right.right.right, HEt.out.trans (Ext.alloc _ _)⟩
            by_cases b5 : 3 < wh
            · have e := hid (Hb.out (by omega))
              go_wp2
              go_ret2
              exact .inl ⟨by rw [e.out]; decide, by rw [e.out]; rfl, (HHt.out.alloc _).right.right.right.right.right, HEt.out.trans (Ext.alloc _ _)⟩
            have hbad : ¬ evBad n' x := fun hb => by obtain ⟨x0, x1, x2⟩ := Hx.out; unfold evBad at hb; rw [x0, x1, x2] at hb; omega
            obtain ⟨si, rfl⟩ := Int.eq_ofNat_of_zero_le (show 0 ≤ s by omega)
            obtain ⟨oi, rfl⟩ := Int.eq_ofNat_of_zero_le (show 0 ≤ ot by omega)
            have Hgood := hid hbad
            have hsn : si < n' := by omega
            obtain ⟨bn, on, cn', curn, ci, q1, q2, e1, hmn, ⟨vr, hci, hrow, hone⟩, hcell, hput⟩ := SlR.take El.len Hvn.out (i := si) (by rw [Hok.out.len]; exact hsn)
            rw [Hok.out.len] at e1
            injection e1 with e1 e1n e1'
            subst e1; subst e1'
            clear e1n
            obtain ⟨row, hrowe⟩ : ∃ row, row = h.needs[si]'(by rw [Hok.out.len]; exact hsn) := ⟨_, rfl⟩
            rw [← hrowe] at hrow
            obtain ⟨Ar, cr, rfl, _⟩ := SlR.form hrow
            subst hci
            have hrm : row ∈ h.needs := by rw [hrowe]; exact List.getElem_mem _
            have Hrl := hid (Hok.out.row row hrm).1
            have hrlI : (row.length : Int) ≤ 60 := by have := Hrl.out; omega
            have hgetD : h.needs.getD si [] = row := by rw [hrowe]; simp [List.getD, Hok.out.len, hsn]
            have Hadd := hid (show ∀ a : Int × Int, h.add (si : Int) a = h.needs.set si (row ++ [a]) from fun a => by unfold Hist.add; rw [Int.toNat_natCast, hgetD])
            have Hcell := hid (show curn[on + si]? = some (.slice Ar row.length cr) from by have := hcell 0 (by omega); simpa using this)
            have Hput := hid (show ∀ (B7 : Option Addr) (d7 : Nat) (row' : List (Int × Int)) (m7 : MS), Needs row' (.slice B7 (row.length + 1) d7) m7 → Needs2 (h.needs.set si row') (.slice (some ⟨bn, on, none⟩) n' cn) (blk bn (curn.setIfInBounds (on + si) (.slice B7 (row.length + 1) d7)) 138 + (m7 + q2)) from fun B7 d7 row' m7 h7 => by
              have hlt := arr_lt Hcell.out
              have := hput row' [.slice B7 (row.length + 1) d7] m7 (curn.setIfInBounds (on + si) (.slice B7 (row.length + 1) d7)) ⟨_, rfl, h7, rfl⟩ (by simp) (fun k hk => by rw [Array.getElem?_setIfInBounds_ne (by omega)]) (fun j hj => by
                obtain rfl : j = 0 := by omega
                simp [hlt])
              exact this)
            have Hrow := hid (show Needs row (.slice Ar row.length cr) q1 from hrow)
            have Hmn := hid hmn
            have hsnI : (si : Int) < n' := by omega
            have hwr1 : IntKind.i64.wrap ((row.length : Int) + 1) = (row.length : Int) + 1 := by rw [IntKind.wrap_i64]; omega
            have Hxx := hid (show h.step n' x = if wh = 2 then some ⟨h.add (si : Int) (0, 0), sPut h.sent ((si : Int), (oi : Int)) (sGet h.sent ((si : Int), (oi : Int)) ++ [(row.length : Int) + 1])⟩ else if wh = 3 then (match sGet h.sent ((oi : Int), (si : Int)) with | [] => none | a :: q => some ⟨h.add (si : Int) ((oi : Int), a), sPut h.sent ((oi : Int), (si : Int)) q⟩) else some ⟨h.add (si : Int) (0, 0), h.sent⟩ from by
              obtain ⟨x0, x1, x2⟩ := Hx.out
              unfold Hist.step
              rw [if_neg Hgood.out, x0, x1, x2, Int.toNat_natCast, hgetD]
              rfl)
            have hsm : small ((si : Int), (oi : Int)) ∧ small ((oi : Int), (si : Int)) := by unfold small; simp only; omega
            have Hsm := hid hsm
            clear hrowe hrow hone hcell hput hmn hrm hgetD hbad hsm
            have hw123 : wh = 1 ∨ wh = 2 ∨ wh = 3 := by omega
            rcases hw123 with rfl | rfl | rfl
            · have Hst := hid (show h.step n' x = some ⟨h.add (si : Int) (0, 0), h.sent⟩ from by rw [Hxx.out]; rfl)
              have Hsx := hid (show Hist.run n' (Hist.zero n') (l.take (t + 1)) = some ⟨h.add (si : Int) (0, 0), h.sent⟩ from Hstep.out.trans Hst.out)
              have Hs2 := hid Hms.out.1
              have Hm2 := hid (show MapR h.sent es.toList me from Hms.out.2)
              have HA := hid ((HHt.out.alloc (.cells #[.int .i64 si, .int .i64 1, .int .i64 oi, .int .i64 pc, .slice Ak kl ck] 68)).alloc (.cells #[.int .i64 0, .int .i64 0] 143))
              have E22 := hid ((HEt.out.trans (Ext.alloc wr (.cells #[.int .i64 si, .int .i64 1, .int .i64 oi, .int .i64 pc, .slice Ak kl ck] 68))).trans (Ext.alloc _ (.cells #[.int .i64 0, .int .i64 0] 143)))
              have HA2 := hid (show Has ((wr.alloc (.cells #[.int .i64 si, .int .i64 1, .int .i64 oi, .int .i64 pc, .slice Ak kl ck] 68)).alloc (.cells #[.int .i64 0, .int .i64 0] 143)) (blk hb #[.int .i64 n', .slice (some ⟨bn, on, none⟩) n' cn] 141 + (blk bn curn 138 + (q1 + (q2 + (blk wr.heap.size #[.int .i64 si, .int .i64 1, .int .i64 oi, .int .i64 pc, .slice Ak kl ck] 68 + (blk (wr.heap.size + 1) #[.int .i64 0, .int .i64 0] 143 + (pts g (.map es clock) + (me + (0 + F))))))))) from by
                have := HA.out
                rw [show (wr.alloc (.cells #[.int .i64 si, .int .i64 1, .int .i64 oi, .int .i64 pc, .slice Ak kl ck] 68)).heap.size = wr.heap.size + 1 by simp] at this
                rw [MS.zero_add]
                exact this.eq (by rw [Hmn.out]; show blk _ _ _ + (blk _ _ _ + _) = _; ac_rfl))
              clear HA
              go_wp2
              clear f0 f1 f2 f3 f4 hfb
              generalize wr.alloc _ = wa at *
              generalize wa.alloc _ = wb at *
              generalize wr.heap.size + 1 = g10 at *
              generalize wr.heap.size = g9 at *
              have H22 := hid (show Has wb (blk hb #[.int .i64 n', .slice (some ⟨bn, on, none⟩) n' cn] 141 + (blk bn curn 138 + (q1 + (q2 + (blk g9 #[.int .i64 si, .int .i64 1, .int .i64 oi, .int .i64 pc, .slice Ak kl ck] 68 + (blk g10 #[.int .i64 0, .int .i64 0] 143 + (pts g (.map es clock) + (me + (0 + F))))))))) from HA2.out)
              have keep : ∀ (W : World) (X : MS), Has W (X + (blk bn curn 138 + (blk hb #[.int .i64 n', .slice (some ⟨bn, on, none⟩) n' cn] 141 + (blk g9 #[.int .i64 si, .int .i64 1, .int .i64 oi, .int .i64 pc, .slice Ak kl ck] 68 + (blk g10 #[.int .i64 0, .int .i64 0] 143 + (q2 + (pts g (.map es clock) + (me + (0 + F))))))))) → W.cell? ⟨hb, 1, none⟩ = some (.slice (some ⟨bn, on, none⟩) n' cn) ∧ W.cell? ⟨g9, 0, none⟩ = some (.int .i64 si) ∧ W.cell? ⟨bn, on + si, none⟩ = some (.slice Ar row.length cr) ∧ W.cell? ⟨g10, 0, none⟩ = some (.int .i64 0) ∧ W.cell? ⟨g10, 1, none⟩ = some (.int .i64 0) := fun W X h =>
                have h9 := h.eq (b := blk g9 #[.int .i64 si, .int .i64 1, .int .i64 oi, .int .i64 pc, .slice Ak kl ck] 68 + (X + (blk bn curn 138 + (blk hb #[.int .i64 n', .slice (some ⟨bn, on, none⟩) n' cn] 141 + (blk g10 #[.int .i64 0, .int .i64 0] 143 + (q2 + (pts g (.map es clock) + (me + (0 + F))))))))) (by ac_rfl)
                have h10 := h.eq (b := blk g10 #[.int .i64 0, .int .i64 0] 143 + (X + (blk bn curn 138 + (blk hb #[.int .i64 n', .slice (some ⟨bn, on, none⟩) n' cn] 141 + (blk g9 #[.int .i64 si, .int .i64 1, .int .i64 oi, .int .i64 pc, .slice Ak kl ck] 68 + (q2 + (pts g (.map es clock) + (me + (0 + F))))))))) (by ac_rfl)
                ⟨(h.eq (b := blk hb #[.int .i64 n', .slice (some ⟨bn, on, none⟩) n' cn] 141 + (X + (blk bn curn 138 + (blk g9 #[.int .i64 si, .int .i64 1, .int .i64 oi, .int .i64 pc, .slice Ak kl ck] 68 + (blk g10 #[.int .i64 0, .int .i64 0] 143 + (q2 + (pts g (.map es clock) + (me + (0 + F))))))))) (by ac_rfl)).at_ rfl, h9.at_ rfl, (h.eq (b := blk bn curn 138 + (X + (blk hb #[.int .i64 n', .slice (some ⟨bn, on, none⟩) n' cn] 141 + (blk g9 #[.int .i64 si, .int .i64 1, .int .i64 oi, .int .i64 pc, .slice Ak kl ck] 68 + (blk g10 #[.int .i64 0, .int .i64 0] 143 + (q2 + (pts g (.map es clock) + (me + (0 + F))))))))) (by ac_rfl)).at_ Hcell.out, h10.at_ rfl, h10.at_ rfl⟩
              have H3 := hid (show Has wb.drew (q1 + (blk bn curn 138 + (blk hb #[.int .i64 n', .slice (some ⟨bn, on, none⟩) n' cn] 141 + (blk g9 #[.int .i64 si, .int .i64 1, .int .i64 oi, .int .i64 pc, .slice Ak kl ck] 68 + (blk g10 #[.int .i64 0, .int .i64 0] 143 + (q2 + (pts g (.map es clock) + (me + (0 + F))))))))) from H22.out.drew.eq (by ac_rfl))
              have hS := keep _ _ H3.out
              have Hkeep := hid keep
              clear keep
              refine wp_region_txt (fun W => W.cell? ⟨hb, 1, none⟩ = some (.slice (some ⟨bn, on, none⟩) n' cn) ∧ W.cell? ⟨g9, 0, none⟩ = some (.int .i64 si) ∧ W.cell? ⟨bn, on + si, none⟩ = some (.slice Ar row.length cr) ∧ W.cell? ⟨g10, 0, none⟩ = some (.int .i64 0) ∧ W.cell? ⟨g10, 1, none⟩ = some (.int .i64 0)) (some 18)
                [(0, true), (1, true), (2, true), (3, true), (4, true), (5, true), (6, true), (7, true), (8, true), (9, true), (10, true), (11, true), (12, true), (13, true), (14, true), (15, false), (16, false), (17, true), (18, false)] (by kernel_rfl) rfl (by kernel_rfl) (by kernel_rfl) (by repeat (first | with_reducible refine PanicOk.thn ?_ | with_reducible refine PanicOk.blk ?_ | exact PanicOk.body _ _ _)) ?_
              repeat
                (refine txt_quiet ?_ hS rfl rfl (fun W hW => ?_) ?_
                 rotate_left 1
                 · obtain ⟨hW1, hW2, hW3, hW4, hW5⟩ := hW
                   go_simp
                   exact rfl
                 simp only [Act.put, List.setIfInBounds_toArray, List.set_cons_zero, List.set_cons_succ])
              refine txt_op rfl rfl ?_
              refine op_run (.slice (some ⟨wb.heap.size, 0, none⟩) 1 1) (wb.drew.alloc (.cells #[.int .i64 0, .int .i64 0] 143)) (by go_simp) ?_
              have hS6 := Hkeep.out (wb.drew.alloc (.cells #[.int .i64 0, .int .i64 0] 143)) (pts wb.heap.size (.cells #[.int .i64 0, .int .i64 0] 143) + q1) ((H3.out.alloc _).eq (by show pts wb.heap.size _ + _ = _; ac_rfl))
              refine ⟨fun _ => hS6, ?_⟩
              simp only [Act.put, List.setIfInBounds_toArray, List.set_cons_zero, List.set_cons_succ]
              clear hS
              refine txt_op rfl rfl ?_
              refine op_push (.tmp 131) (.tmp 133) row138 rfl (.slice Ar row.length cr) rfl _ rfl rfl NeedR NeedR.one NeedR.len row (0, 0) q1 0 _ Hrow.out (show NeedR (0, 0) [.int .i64 0, .int .i64 0] 0 from ⟨rfl, rfl⟩) (H3.out.eq (b := q1 + (0 + (blk bn curn 138 + (blk hb #[.int .i64 n', .slice (some ⟨bn, on, none⟩) n' cn] 141 + (blk g9 #[.int .i64 si, .int .i64 1, .int .i64 oi, .int .i64 pc, .slice Ak kl ck] 68 + (blk g10 #[.int .i64 0, .int .i64 0] 143 + (q2 + (pts g (.map es clock) + (me + (0 + F)))))))))) (congrArg (q1 + ·) (MS.zero_add _).symm)) row.length rfl (by have := Hrl.out; omega) (by omega) ?_
              intro B7 d7 w7 m7 j4 j5 j6
              have hS7 := Hkeep.out w7 m7 j5
              refine ⟨fun _ => hS7, ?_⟩
              simp only [Act.put, List.setIfInBounds_toArray, List.set_cons_zero, List.set_cons_succ]
              clear hS6
              repeat
                (refine txt_quiet ?_ hS7 rfl rfl (fun W hW => ?_) ?_
                 rotate_left 1
                 · obtain ⟨hW1, hW2, hW3, hW4, hW5⟩ := hW
                   go_simp
                   exact rfl
                 simp only [Act.put, List.setIfInBounds_toArray, List.set_cons_zero, List.set_cons_succ])
              refine txt_op rfl rfl ?_
              refine op_store_blk (.tmp 135) (.tmp 134) 138 rfl size138 bn (on + si) (.slice B7 (row.length + 1) d7) rfl rfl rfl curn 138 _ (j5.eq (b := blk bn curn 138 + (m7 + (blk hb #[.int .i64 n', .slice (some ⟨bn, on, none⟩) n' cn] 141 + (blk g9 #[.int .i64 si, .int .i64 1, .int .i64 oi, .int .i64 pc, .slice Ak kl ck] 68 + (blk g10 #[.int .i64 0, .int .i64 0] 143 + (q2 + (pts g (.map es clock) + (me + (0 + F))))))))) (by ac_rfl)) (arr_lt Hcell.out) ?_
              intro w8 j7 j8
              refine ⟨fun h => absurd rfl h, ?_⟩
              simp only [Act.put]
              refine txt_done ?_
              have J4 := hid j4
              have H8 := hid ((j7.eq (b := (blk g9 #[.int .i64 si, .int .i64 1, .int .i64 oi, .int .i64 pc, .slice Ak kl ck] 68 + (blk g10 #[.int .i64 0, .int .i64 0] 143 + 0)) + (blk hb #[.int .i64 n', .slice (some ⟨bn, on, none⟩) n' cn] 141 + ((blk bn (curn.setIfInBounds (on + si) (.slice B7 (row.length + 1) d7)) 138 + (m7 + q2)) + (pts g (.map es clock) + (me + F))))) (by ac_rfl)).right)
              have E8 := hid (((E22.out.trans (Ext.drew _)).trans j6).trans j8)
              clear hS7 j4 j5 j6 j7 j8 H3
              go_wp2
              go_roundw
              case rel => exact ⟨t + 1, ⟨h.add (si : Int) (0, 0), h.sent⟩, _, _, es, clock, me, Hlt.out, by go_num, Hsx.out, Hok.out.step (by omega) Hst.out, by show Needs2 (h.add (si : Int) (0, 0)) _ _; rw [Hadd.out]; exact Hput.out _ _ _ _ J4.out, Hs2.out, Hm2.out, H8.out, E8.out⟩
              case measure => have := Hlt.out; simp [intOf]; omega
            · have Hst := hid (show h.step n' x = some ⟨h.add (si : Int) (0, 0), sPut h.sent ((si : Int), (oi : Int)) (sGet h.sent ((si : Int), (oi : Int)) ++ [(row.length : Int) + 1])⟩ from by rw [Hxx.out]; rfl)
              have Hsx := hid (show Hist.run n' (Hist.zero n') (l.take (t + 1)) = some ⟨h.add (si : Int) (0, 0), sPut h.sent ((si : Int), (oi : Int)) (sGet h.sent ((si : Int), (oi : Int)) ++ [(row.length : Int) + 1])⟩ from Hstep.out.trans Hst.out)
              obtain ⟨v, m1, m2, st, es1, clock1, hme, hInts, _, _, hent, hsto⟩ := put154 (g := g) Hms.out.2 Hms.out.1 Hsm.out.1
              obtain ⟨Aq, cq, rfl, _⟩ := SlR.form hInts
              have Hent := hid hent
              have Hsto := hid hsto
              have HInts := hid hInts
              have Hme := hid hme
              have Hql := hid (Hok.out.get ((si : Int), (oi : Int))).1
              clear hent hsto hInts hme
              generalize sGet h.sent ((si : Int), (oi : Int)) = qq at *
              have HA := hid (((HHt.out.alloc (.cells #[.int .i64 si, .int .i64 2, .int .i64 oi, .int .i64 pc, .slice Ak kl ck] 68)).alloc (.cells #[.int .i64 0, .int .i64 0] 143)).alloc (.cells #[.int .i64 si, .int .i64 oi] 155))
              have E21 := hid (((HEt.out.trans (Ext.alloc wr (.cells #[.int .i64 si, .int .i64 2, .int .i64 oi, .int .i64 pc, .slice Ak kl ck] 68))).trans (Ext.alloc _ (.cells #[.int .i64 0, .int .i64 0] 143))).trans (Ext.alloc _ (.cells #[.int .i64 si, .int .i64 oi] 155)))
              have HA2 := hid (show Has (((wr.alloc (.cells #[.int .i64 si, .int .i64 2, .int .i64 oi, .int .i64 pc, .slice Ak kl ck] 68)).alloc (.cells #[.int .i64 0, .int .i64 0] 143)).alloc (.cells #[.int .i64 si, .int .i64 oi] 155)) (pts g (.map es clock) + (blk hb #[.int .i64 n', .slice (some ⟨bn, on, none⟩) n' cn] 141 + (blk bn curn 138 + (q1 + (q2 + (blk wr.heap.size #[.int .i64 si, .int .i64 2, .int .i64 oi, .int .i64 pc, .slice Ak kl ck] 68 + (blk (wr.heap.size + 1) #[.int .i64 0, .int .i64 0] 143 + (blk (wr.heap.size + 2) #[.int .i64 si, .int .i64 oi] 155 + (me + F))))))))) from by
                have := HA.out
                rw [show ((wr.alloc (.cells #[.int .i64 si, .int .i64 2, .int .i64 oi, .int .i64 pc, .slice Ak kl ck] 68)).alloc (.cells #[.int .i64 0, .int .i64 0] 143)).heap.size = wr.heap.size + 2 by simp, show (wr.alloc (.cells #[.int .i64 si, .int .i64 2, .int .i64 oi, .int .i64 pc, .slice Ak kl ck] 68)).heap.size = wr.heap.size + 1 by simp] at this
                exact this.eq (by rw [Hmn.out]; show blk _ _ _ + (blk _ _ _ + (blk _ _ _ + _)) = _; ac_rfl))
              clear HA
              go_wp2
              clear f0 f1 f2 f3 f4 hfb
              generalize wr.alloc _ = wa at *
              generalize wa.alloc _ = wb at *
              generalize wb.alloc _ = wc at *
              generalize wr.heap.size + 2 = g11 at *
              generalize wr.heap.size + 1 = g10 at *
              generalize wr.heap.size = g9 at *
              have keep : ∀ (W : World) (X : MS), Has W (X + (blk hb #[.int .i64 n', .slice (some ⟨bn, on, none⟩) n' cn] 141 + (blk bn curn 138 + (blk g9 #[.int .i64 si, .int .i64 2, .int .i64 oi, .int .i64 pc, .slice Ak kl ck] 68 + (blk g11 #[.int .i64 si, .int .i64 oi] 155 + (q1 + (q2 + (blk g10 #[.int .i64 0, .int .i64 0] 143 + F)))))))) → W.cell? ⟨g11, 0, none⟩ = some (.int .i64 si) ∧ W.cell? ⟨g11, 1, none⟩ = some (.int .i64 oi) ∧ W.cell? ⟨hb, 1, none⟩ = some (.slice (some ⟨bn, on, none⟩) n' cn) ∧ W.cell? ⟨g9, 0, none⟩ = some (.int .i64 si) ∧ W.cell? ⟨bn, on + si, none⟩ = some (.slice Ar row.length cr) := fun W X h =>
                have h11 := h.eq (b := blk g11 #[.int .i64 si, .int .i64 oi] 155 + (X + (blk hb #[.int .i64 n', .slice (some ⟨bn, on, none⟩) n' cn] 141 + (blk bn curn 138 + (blk g9 #[.int .i64 si, .int .i64 2, .int .i64 oi, .int .i64 pc, .slice Ak kl ck] 68 + (q1 + (q2 + (blk g10 #[.int .i64 0, .int .i64 0] 143 + F)))))))) (by ac_rfl)
                ⟨h11.at_ rfl, h11.at_ rfl, (h.eq (b := blk hb #[.int .i64 n', .slice (some ⟨bn, on, none⟩) n' cn] 141 + (X + (blk bn curn 138 + (blk g9 #[.int .i64 si, .int .i64 2, .int .i64 oi, .int .i64 pc, .slice Ak kl ck] 68 + (blk g11 #[.int .i64 si, .int .i64 oi] 155 + (q1 + (q2 + (blk g10 #[.int .i64 0, .int .i64 0] 143 + F)))))))) (by ac_rfl)).at_ rfl, (h.eq (b := blk g9 #[.int .i64 si, .int .i64 2, .int .i64 oi, .int .i64 pc, .slice Ak kl ck] 68 + (X + (blk hb #[.int .i64 n', .slice (some ⟨bn, on, none⟩) n' cn] 141 + (blk bn curn 138 + (blk g11 #[.int .i64 si, .int .i64 oi] 155 + (q1 + (q2 + (blk g10 #[.int .i64 0, .int .i64 0] 143 + F)))))))) (by ac_rfl)).at_ rfl, (h.eq (b := blk bn curn 138 + (X + (blk hb #[.int .i64 n', .slice (some ⟨bn, on, none⟩) n' cn] 141 + (blk g9 #[.int .i64 si, .int .i64 2, .int .i64 oi, .int .i64 pc, .slice Ak kl ck] 68 + (blk g11 #[.int .i64 si, .int .i64 oi] 155 + (q1 + (q2 + (blk g10 #[.int .i64 0, .int .i64 0] 143 + F)))))))) (by ac_rfl)).at_ Hcell.out⟩
              have H3 := hid (show Has wc.drew ((pts g (.map es clock) + me) + (blk hb #[.int .i64 n', .slice (some ⟨bn, on, none⟩) n' cn] 141 + (blk bn curn 138 + (blk g9 #[.int .i64 si, .int .i64 2, .int .i64 oi, .int .i64 pc, .slice Ak kl ck] 68 + (blk g11 #[.int .i64 si, .int .i64 oi] 155 + (q1 + (q2 + (blk g10 #[.int .i64 0, .int .i64 0] 143 + F)))))))) from HA2.out.drew.eq (by ac_rfl))
              have hS := keep _ _ H3.out
              have Hkp := hid keep
              clear keep HA2
              refine wp_region_txt (fun W => W.cell? ⟨g11, 0, none⟩ = some (.int .i64 si) ∧ W.cell? ⟨g11, 1, none⟩ = some (.int .i64 oi) ∧ W.cell? ⟨hb, 1, none⟩ = some (.slice (some ⟨bn, on, none⟩) n' cn) ∧ W.cell? ⟨g9, 0, none⟩ = some (.int .i64 si) ∧ W.cell? ⟨bn, on + si, none⟩ = some (.slice Ar row.length cr)) (some 17)
                [(0, true), (1, true), (2, true), (3, true), (4, true), (5, true), (6, true), (7, true), (8, true), (9, true), (10, true), (11, true), (12, false), (13, false), (14, true), (16, true), (15, false), (17, false)] (by kernel_rfl) rfl (by kernel_rfl) (by kernel_rfl) (by repeat (first | with_reducible refine PanicOk.thn ?_ | with_reducible refine PanicOk.blk ?_ | exact PanicOk.body _ _ _)) ?_
              repeat
                (refine txt_quiet ?_ hS rfl rfl (fun W hW => ?_) ?_
                 rotate_left 1
                 · obtain ⟨hW1, hW2, hW3, hW4, hW5⟩ := hW
                   go_simp
                   exact rfl
                 simp only [Act.put, List.setIfInBounds_toArray, List.set_cons_zero, List.set_cons_succ])
              refine txt_op rfl rfl ?_
              refine op_run (.slice (some ⟨wc.heap.size, 0, none⟩) 1 1) (wc.drew.alloc (.cells #[.int .i64 ((row.length : Int) + 1)] 3)) (by go_simp) ?_
              have H4 := hid (show Has (wc.drew.alloc (.cells #[.int .i64 ((row.length : Int) + 1)] 3)) (pts g (.map es clock) + ((blk wc.heap.size #[.int .i64 ((row.length : Int) + 1)] 3 + me) + (blk hb #[.int .i64 n', .slice (some ⟨bn, on, none⟩) n' cn] 141 + (blk bn curn 138 + (blk g9 #[.int .i64 si, .int .i64 2, .int .i64 oi, .int .i64 pc, .slice Ak kl ck] 68 + (blk g11 #[.int .i64 si, .int .i64 oi] 155 + (q1 + (q2 + (blk g10 #[.int .i64 0, .int .i64 0] 143 + F))))))))) from (H3.out.alloc (.cells #[.int .i64 ((row.length : Int) + 1)] 3)).eq (by show blk wc.heap.size _ _ + _ = _; ac_rfl))
              have hS4 := Hkp.out _ (pts g (.map es clock) + (blk wc.heap.size #[.int .i64 ((row.length : Int) + 1)] 3 + me)) (H4.out.eq (by ac_rfl))
              refine ⟨fun _ => hS4, ?_⟩
              simp only [Act.put, List.setIfInBounds_toArray, List.set_cons_zero, List.set_cons_succ]
              clear hS
              have E4 := hid ((E21.out.trans (Ext.drew _)).trans (Ext.alloc wc.drew (.cells #[.int .i64 ((row.length : Int) + 1)] 3)))
              generalize wc.heap.size = gx at *
              generalize wc.drew.alloc _ = wd at *
              refine txt_op rfl rfl ?_
              refine op_run (.tuple #[.slice Aq qq.length cq, goInt st]) (setBlock wd g (.map es1 clock1)) (ex_entry rfl (Hent.out wd H4.out.get)) ?_
              have H5 := hid (show Has (setBlock wd g (.map es1 clock1)) (pts g (.map es1 clock1) + ((blk gx #[.int .i64 ((row.length : Int) + 1)] 3 + me) + (blk hb #[.int .i64 n', .slice (some ⟨bn, on, none⟩) n' cn] 141 + (blk bn curn 138 + (blk g9 #[.int .i64 si, .int .i64 2, .int .i64 oi, .int .i64 pc, .slice Ak kl ck] 68 + (blk g11 #[.int .i64 si, .int .i64 oi] 155 + (q1 + (q2 + (blk g10 #[.int .i64 0, .int .i64 0] 143 + F))))))))) from H4.out.setMap)
              have hS5 := Hkp.out _ (pts g (.map es1 clock1) + (blk gx #[.int .i64 ((row.length : Int) + 1)] 3 + me)) (H5.out.eq (by ac_rfl))
              refine ⟨fun _ => hS5, ?_⟩
              simp only [Act.put, List.setIfInBounds_toArray, List.set_cons_zero, List.set_cons_succ]
              clear hS4
              have E5 := hid (E4.out.trans (Ext.setMap wd g (.map es1 clock1)))
              generalize setBlock wd g _ = we at *
              repeat
                (refine txt_quiet ?_ hS5 rfl rfl (fun W hW => ?_) ?_
                 rotate_left 1
                 · obtain ⟨hW1, hW2, hW3, hW4, hW5⟩ := hW
                   go_simp
                   exact rfl
                 simp only [Act.put, List.setIfInBounds_toArray, List.set_cons_zero, List.set_cons_succ])
              refine txt_op rfl rfl ?_
              refine op_append_sl (.tmp 75) (.tmp 86) 22 rfl 3 _ 1 8 Try.underlying22 info3 rfl (.slice Aq qq.length cq) rfl (some ⟨gx, 0, none⟩) 1 1 rfl qq.length (qq.map (Value.int .i64)) m1 _ (Ints.cells HInts.out) (H5.out.eq (b := m1 + (pts g (.map es1 clock1) + ((blk gx #[.int .i64 ((row.length : Int) + 1)] 3 + m2) + (blk hb #[.int .i64 n', .slice (some ⟨bn, on, none⟩) n' cn] 141 + (blk bn curn 138 + (blk g9 #[.int .i64 si, .int .i64 2, .int .i64 oi, .int .i64 pc, .slice Ak kl ck] 68 + (blk g11 #[.int .i64 si, .int .i64 oi] 155 + (q1 + (q2 + (blk g10 #[.int .i64 0, .int .i64 0] 143 + F)))))))))) (by rw [Hme.out]; ac_rfl)) [.int .i64 ((row.length : Int) + 1)] rfl (by simp)
                (fun a ha => by injection ha with ha; subst ha; exact World.news_of_block (H5.out.eq (b := blk gx #[.int .i64 ((row.length : Int) + 1)] 3 + (pts g (.map es1 clock1) + (me + (blk hb #[.int .i64 n', .slice (some ⟨bn, on, none⟩) n' cn] 141 + (blk bn curn 138 + (blk g9 #[.int .i64 si, .int .i64 2, .int .i64 oi, .int .i64 pc, .slice Ak kl ck] 68 + (blk g11 #[.int .i64 si, .int .i64 oi] 155 + (q1 + (q2 + (blk g10 #[.int .i64 0, .int .i64 0] 143 + F)))))))))) (by ac_rfl)).row) (by simp [Value.oneCell']) (by have := Hql.out; simp only [maxLen]; omega) (by have := Hql.out; omega) ?_
              intro v7 w7 mz j4 j5 j6
              obtain ⟨A7, c7, rfl, _⟩ := j4.form
              have hS7 := Hkp.out w7 (mz + (pts g (.map es1 clock1) + (blk gx #[.int .i64 ((row.length : Int) + 1)] 3 + m2))) (j5.eq (by ac_rfl))
              refine ⟨fun _ => hS7, ?_⟩
              simp only [Act.put, List.setIfInBounds_toArray, List.set_cons_zero, List.set_cons_succ]
              clear hS5
              have hI7 : Ints (qq ++ [(row.length : Int) + 1]) (.slice A7 (qq.length + 1) c7) mz := Ints.of (by simpa using j4)
              obtain ⟨es', clock', hR', hst', hrun'⟩ := Hsto.out _ _ _ hI7
              have H7 := hid (j5.eq (b := pts g (.map es1 clock1) + (mz + ((blk gx #[.int .i64 ((row.length : Int) + 1)] 3 + m2) + (blk hb #[.int .i64 n', .slice (some ⟨bn, on, none⟩) n' cn] 141 + (blk bn curn 138 + (blk g9 #[.int .i64 si, .int .i64 2, .int .i64 oi, .int .i64 pc, .slice Ak kl ck] 68 + (blk g11 #[.int .i64 si, .int .i64 oi] 155 + (q1 + (q2 + (blk g10 #[.int .i64 0, .int .i64 0] 143 + F)))))))))) (by ac_rfl))
              refine txt_op rfl rfl ?_
              refine op_skip (setBlock w7 g (.map es' clock')) (ex_store rfl (hrun' w7 H7.out.get)) ?_
              refine ⟨fun h => absurd rfl h, ?_⟩
              simp only [Act.put]
              refine txt_done ?_
              have H22 := hid (show Has (setBlock w7 g (.map es' clock')) (blk hb #[.int .i64 n', .slice (some ⟨bn, on, none⟩) n' cn] 141 + (blk bn curn 138 + (q1 + (q2 + (blk g9 #[.int .i64 si, .int .i64 2, .int .i64 oi, .int .i64 pc, .slice Ak kl ck] 68 + (blk g10 #[.int .i64 0, .int .i64 0] 143 + (pts g (.map es' clock') + ((mz + m2) + ((blk g11 #[.int .i64 si, .int .i64 oi] 155 + blk gx #[.int .i64 ((row.length : Int) + 1)] 3) + F))))))))) from H7.out.setMap.eq (by ac_rfl))
              have E22 := hid ((E5.out.trans j6).trans (Ext.setMap w7 g (.map es' clock')))
              have Hs2 := hid hst'
              have Hm2 := hid hR'
              clear hS7 j4 j5 j6 hI7 hrun' H7 H5 H4 H3 hst' hR'
              generalize setBlock w7 g _ = wz at *
              go_wp2
              have keep : ∀ (W : World) (X : MS), Has W (X + (blk bn curn 138 + (blk hb #[.int .i64 n', .slice (some ⟨bn, on, none⟩) n' cn] 141 + (blk g9 #[.int .i64 si, .int .i64 2, .int .i64 oi, .int .i64 pc, .slice Ak kl ck] 68 + (blk g10 #[.int .i64 0, .int .i64 0] 143 + (q2 + (pts g (.map es' clock') + ((mz + m2) + ((blk g11 #[.int .i64 si, .int .i64 oi] 155 + blk gx #[.int .i64 ((row.length : Int) + 1)] 3) + F))))))))) → W.cell? ⟨hb, 1, none⟩ = some (.slice (some ⟨bn, on, none⟩) n' cn) ∧ W.cell? ⟨g9, 0, none⟩ = some (.int .i64 si) ∧ W.cell? ⟨bn, on + si, none⟩ = some (.slice Ar row.length cr) ∧ W.cell? ⟨g10, 0, none⟩ = some (.int .i64 0) ∧ W.cell? ⟨g10, 1, none⟩ = some (.int .i64 0) := fun W X h =>
                have h9 := h.eq (b := blk g9 #[.int .i64 si, .int .i64 2, .int .i64 oi, .int .i64 pc, .slice Ak kl ck] 68 + (X + (blk bn curn 138 + (blk hb #[.int .i64 n', .slice (some ⟨bn, on, none⟩) n' cn] 141 + (blk g10 #[.int .i64 0, .int .i64 0] 143 + (q2 + (pts g (.map es' clock') + ((mz + m2) + ((blk g11 #[.int .i64 si, .int .i64 oi] 155 + blk gx #[.int .i64 ((row.length : Int) + 1)] 3) + F))))))))) (by ac_rfl)
                have h10 := h.eq (b := blk g10 #[.int .i64 0, .int .i64 0] 143 + (X + (blk bn curn 138 + (blk hb #[.int .i64 n', .slice (some ⟨bn, on, none⟩) n' cn] 141 + (blk g9 #[.int .i64 si, .int .i64 2, .int .i64 oi, .int .i64 pc, .slice Ak kl ck] 68 + (q2 + (pts g (.map es' clock') + ((mz + m2) + ((blk g11 #[.int .i64 si, .int .i64 oi] 155 + blk gx #[.int .i64 ((row.length : Int) + 1)] 3) + F))))))))) (by ac_rfl)
                ⟨(h.eq (b := blk hb #[.int .i64 n', .slice (some ⟨bn, on, none⟩) n' cn] 141 + (X + (blk bn curn 138 + (blk g9 #[.int .i64 si, .int .i64 2, .int .i64 oi, .int .i64 pc, .slice Ak kl ck] 68 + (blk g10 #[.int .i64 0, .int .i64 0] 143 + (q2 + (pts g (.map es' clock') + ((mz + m2) + ((blk g11 #[.int .i64 si, .int .i64 oi] 155 + blk gx #[.int .i64 ((row.length : Int) + 1)] 3) + F))))))))) (by ac_rfl)).at_ rfl, h9.at_ rfl, (h.eq (b := blk bn curn 138 + (X + (blk hb #[.int .i64 n', .slice (some ⟨bn, on, none⟩) n' cn] 141 + (blk g9 #[.int .i64 si, .int .i64 2, .int .i64 oi, .int .i64 pc, .slice Ak kl ck] 68 + (blk g10 #[.int .i64 0, .int .i64 0] 143 + (q2 + (pts g (.map es' clock') + ((mz + m2) + ((blk g11 #[.int .i64 si, .int .i64 oi] 155 + blk gx #[.int .i64 ((row.length : Int) + 1)] 3) + F))))))))) (by ac_rfl)).at_ Hcell.out, h10.at_ rfl, h10.at_ rfl⟩
              have H3 := hid (show Has wz.drew (q1 + (blk bn curn 138 + (blk hb #[.int .i64 n', .slice (some ⟨bn, on, none⟩) n' cn] 141 + (blk g9 #[.int .i64 si, .int .i64 2, .int .i64 oi, .int .i64 pc, .slice Ak kl ck] 68 + (blk g10 #[.int .i64 0, .int .i64 0] 143 + (q2 + (pts g (.map es' clock') + ((mz + m2) + ((blk g11 #[.int .i64 si, .int .i64 oi] 155 + blk gx #[.int .i64 ((row.length : Int) + 1)] 3) + F))))))))) from H22.out.drew.eq (by ac_rfl))
              have hS := keep _ _ H3.out
              have Hkeep := hid keep
              clear keep
              refine wp_region_txt (fun W => W.cell? ⟨hb, 1, none⟩ = some (.slice (some ⟨bn, on, none⟩) n' cn) ∧ W.cell? ⟨g9, 0, none⟩ = some (.int .i64 si) ∧ W.cell? ⟨bn, on + si, none⟩ = some (.slice Ar row.length cr) ∧ W.cell? ⟨g10, 0, none⟩ = some (.int .i64 0) ∧ W.cell? ⟨g10, 1, none⟩ = some (.int .i64 0)) (some 18)
                [(0, true), (1, true), (2, true), (3, true), (4, true), (5, true), (6, true), (7, true), (8, true), (9, true), (10, true), (11, true), (12, true), (13, true), (14, true), (15, false), (16, false), (17, true), (18, false)] (by kernel_rfl) rfl (by kernel_rfl) (by kernel_rfl) (by repeat (first | with_reducible refine PanicOk.thn ?_ | with_reducible refine PanicOk.blk ?_ | exact PanicOk.body _ _ _)) ?_
              repeat
                (refine txt_quiet ?_ hS rfl rfl (fun W hW => ?_) ?_
                 rotate_left 1
                 · obtain ⟨hW1, hW2, hW3, hW4, hW5⟩ := hW
                   go_simp
                   exact rfl
                 simp only [Act.put, List.setIfInBounds_toArray, List.set_cons_zero, List.set_cons_succ])
              refine txt_op rfl rfl ?_
              refine op_run (.slice (some ⟨wz.heap.size, 0, none⟩) 1 1) (wz.drew.alloc (.cells #[.int .i64 0, .int .i64 0] 143)) (by go_simp) ?_
              have hS6 := Hkeep.out (wz.drew.alloc (.cells #[.int .i64 0, .int .i64 0] 143)) (pts wz.heap.size (.cells #[.int .i64 0, .int .i64 0] 143) + q1) ((H3.out.alloc _).eq (by show pts wz.heap.size _ + _ = _; ac_rfl))
              refine ⟨fun _ => hS6, ?_⟩
              simp only [Act.put, List.setIfInBounds_toArray, List.set_cons_zero, List.set_cons_succ]
              clear hS
              refine txt_op rfl rfl ?_
              refine op_push (.tmp 131) (.tmp 133) row138 rfl (.slice Ar row.length cr) rfl _ rfl rfl NeedR NeedR.one NeedR.len row (0, 0) q1 0 _ Hrow.out (show NeedR (0, 0) [.int .i64 0, .int .i64 0] 0 from ⟨rfl, rfl⟩) (H3.out.eq (b := q1 + (0 + (blk bn curn 138 + (blk hb #[.int .i64 n', .slice (some ⟨bn, on, none⟩) n' cn] 141 + (blk g9 #[.int .i64 si, .int .i64 2, .int .i64 oi, .int .i64 pc, .slice Ak kl ck] 68 + (blk g10 #[.int .i64 0, .int .i64 0] 143 + (q2 + (pts g (.map es' clock') + ((mz + m2) + ((blk g11 #[.int .i64 si, .int .i64 oi] 155 + blk gx #[.int .i64 ((row.length : Int) + 1)] 3) + F)))))))))) (congrArg (q1 + ·) (MS.zero_add _).symm)) row.length rfl (by have := Hrl.out; omega) (by omega) ?_
              intro B7 d7 w7 m7 j4 j5 j6
              have hS7 := Hkeep.out w7 m7 j5
              refine ⟨fun _ => hS7, ?_⟩
              simp only [Act.put, List.setIfInBounds_toArray, List.set_cons_zero, List.set_cons_succ]
              clear hS6
              repeat
                (refine txt_quiet ?_ hS7 rfl rfl (fun W hW => ?_) ?_
                 rotate_left 1
                 · obtain ⟨hW1, hW2, hW3, hW4, hW5⟩ := hW
                   go_simp
                   exact rfl
                 simp only [Act.put, List.setIfInBounds_toArray, List.set_cons_zero, List.set_cons_succ])
              refine txt_op rfl rfl ?_
              refine op_store_blk (.tmp 135) (.tmp 134) 138 rfl size138 bn (on + si) (.slice B7 (row.length + 1) d7) rfl rfl rfl curn 138 _ (j5.eq (b := blk bn curn 138 + (m7 + (blk hb #[.int .i64 n', .slice (some ⟨bn, on, none⟩) n' cn] 141 + (blk g9 #[.int .i64 si, .int .i64 2, .int .i64 oi, .int .i64 pc, .slice Ak kl ck] 68 + (blk g10 #[.int .i64 0, .int .i64 0] 143 + (q2 + (pts g (.map es' clock') + ((mz + m2) + ((blk g11 #[.int .i64 si, .int .i64 oi] 155 + blk gx #[.int .i64 ((row.length : Int) + 1)] 3) + F))))))))) (by ac_rfl)) (arr_lt Hcell.out) ?_
              intro w8 j7 j8
              refine ⟨fun h => absurd rfl h, ?_⟩
              simp only [Act.put]
              refine txt_done ?_
              have J4 := hid j4
              have H8 := hid ((j7.eq (b := (blk g9 #[.int .i64 si, .int .i64 2, .int .i64 oi, .int .i64 pc, .slice Ak kl ck] 68 + (blk g10 #[.int .i64 0, .int .i64 0] 143 + (blk g11 #[.int .i64 si, .int .i64 oi] 155 + blk gx #[.int .i64 ((row.length : Int) + 1)] 3))) + (blk hb #[.int .i64 n', .slice (some ⟨bn, on, none⟩) n' cn] 141 + ((blk bn (curn.setIfInBounds (on + si) (.slice B7 (row.length + 1) d7)) 138 + (m7 + q2)) + (pts g (.map es' clock') + ((mz + m2) + F))))) (by ac_rfl)).right)
              have E8 := hid (((E22.out.trans (Ext.drew _)).trans j6).trans j8)
              clear hS7 j4 j5 j6 j7 j8 H3
              go_wp2
              go_roundw
              case rel => exact ⟨t + 1, ⟨h.add (si : Int) (0, 0), sPut h.sent ((si : Int), (oi : Int)) (qq ++ [(row.length : Int) + 1])⟩, _, _, es', clock', (mz + m2), Hlt.out, by go_num, Hsx.out, Hok.out.step (by omega) Hst.out, by show Needs2 (h.add (si : Int) (0, 0)) _ _; rw [Hadd.out]; exact Hput.out _ _ _ _ J4.out, Hs2.out, Hm2.out, H8.out, E8.out⟩
              case measure => have := Hlt.out; simp [intOf]; omega
            · obtain ⟨v, m1, m2, st, es1, clock1, hme, hInts, hsame, hlook, hent, hsto⟩ := put154 (g := g) Hms.out.2 Hms.out.1 Hsm.out.2
              have Hql := hid (Hok.out.get ((oi : Int), (si : Int)))
              have Hlook := hid hlook
              have Hent := hid hent
              have Hsto := hid hsto
              have Hme := hid hme
              have Hxy := hid (show h.step n' x = (match sGet h.sent ((oi : Int), (si : Int)) with | [] => none | a :: q => some ⟨h.add (si : Int) ((oi : Int), a), sPut h.sent ((oi : Int), (si : Int)) q⟩) from by rw [Hxx.out]; rfl)
              clear hent hsto hme hlook
              have HA := hid (((HHt.out.alloc (.cells #[.int .i64 si, .int .i64 3, .int .i64 oi, .int .i64 pc, .slice Ak kl ck] 68)).alloc (.cells #[.int .i64 0, .int .i64 0] 143)).alloc (.cells #[.int .i64 oi, .int .i64 si] 155))
              have E21 := hid (((HEt.out.trans (Ext.alloc wr (.cells #[.int .i64 si, .int .i64 3, .int .i64 oi, .int .i64 pc, .slice Ak kl ck] 68))).trans (Ext.alloc _ (.cells #[.int .i64 0, .int .i64 0] 143))).trans (Ext.alloc _ (.cells #[.int .i64 oi, .int .i64 si] 155)))
              have HA2 := hid (show Has (((wr.alloc (.cells #[.int .i64 si, .int .i64 3, .int .i64 oi, .int .i64 pc, .slice Ak kl ck] 68)).alloc (.cells #[.int .i64 0, .int .i64 0] 143)).alloc (.cells #[.int .i64 oi, .int .i64 si] 155)) (pts g (.map es clock) + (blk hb #[.int .i64 n', .slice (some ⟨bn, on, none⟩) n' cn] 141 + (blk bn curn 138 + (q1 + (q2 + (blk wr.heap.size #[.int .i64 si, .int .i64 3, .int .i64 oi, .int .i64 pc, .slice Ak kl ck] 68 + (blk (wr.heap.size + 1) #[.int .i64 0, .int .i64 0] 143 + (blk (wr.heap.size + 2) #[.int .i64 oi, .int .i64 si] 155 + (me + F))))))))) from by
                have := HA.out
                rw [show ((wr.alloc (.cells #[.int .i64 si, .int .i64 3, .int .i64 oi, .int .i64 pc, .slice Ak kl ck] 68)).alloc (.cells #[.int .i64 0, .int .i64 0] 143)).heap.size = wr.heap.size + 2 by simp, show (wr.alloc (.cells #[.int .i64 si, .int .i64 3, .int .i64 oi, .int .i64 pc, .slice Ak kl ck] 68)).heap.size = wr.heap.size + 1 by simp] at this
                exact this.eq (by rw [Hmn.out]; show blk _ _ _ + (blk _ _ _ + (blk _ _ _ + _)) = _; ac_rfl))
              clear HA
              generalize hqq : sGet h.sent ((oi : Int), (si : Int)) = qq at *
              cases qq with
              | nil =>
                obtain ⟨Aq, cq, rfl, _⟩ := SlR.form hInts
                have e := hid (Hnone.out (by rw [Hxy.out]))
                clear hInts hsame
                go_wp2_with (refine wpList_run rfl (.slice Aq 0 cq) _ (ex_lookup rfl (Hlook.out _ HA2.out.get)) ?_)
                go_ret2
                exact .inl ⟨by rw [e.out]; decide, by rw [e.out]; rfl, HA2.out.right.right.right.right.right.right.right.right.right, E21.out⟩
              | cons x0 q0 =>
                obtain ⟨bq, oq, cq, curq, rfl, rfl, hc0, hI0⟩ := sizeOf_ints hInts
                obtain ⟨rfl, rfl⟩ := hsame (by simp)
                have Hst := hid (show h.step n' x = some ⟨h.add (si : Int) ((oi : Int), x0), sPut h.sent ((oi : Int), (si : Int)) q0⟩ from by rw [Hxy.out])
                have Hsx := hid (show Hist.run n' (Hist.zero n') (l.take (t + 1)) = some ⟨h.add (si : Int) ((oi : Int), x0), sPut h.sent ((oi : Int), (si : Int)) q0⟩ from Hstep.out.trans Hst.out)
                have HI0 := hid hI0
                have Hc0 := hid hc0
                have hq0 : (q0.length : Int) ≤ 60 := by have := Hql.out.1; simp only [List.length_cons] at this; omega
                clear hInts hsame hI0 hc0
                go_wp2_with (refine wpList_run rfl (.slice (some ⟨bq, oq, none⟩) (q0.length + 1) cq) _ (ex_lookup rfl (Hlook.out _ HA2.out.get)) ?_)
                clear f0 f1 f2 f3 f4 hfb
                generalize wr.alloc _ = wa at *
                generalize wa.alloc _ = wb at *
                generalize wb.alloc _ = wc at *
                generalize wr.heap.size + 2 = g11 at *
                generalize wr.heap.size + 1 = g10 at *
                generalize wr.heap.size = g9 at *
                have keep : ∀ (W : World) (X : MS), Has W (X + (pts g (.map es1 clock1) + (blk g11 #[.int .i64 oi, .int .i64 si] 155 + (blk g9 #[.int .i64 si, .int .i64 3, .int .i64 oi, .int .i64 pc, .slice Ak kl ck] 68 + (blk bq curq 3 + (blk hb #[.int .i64 n', .slice (some ⟨bn, on, none⟩) n' cn] 141 + (blk bn curn 138 + (q1 + (q2 + (m2 + F)))))))))) → W.heap[g]? = some (.map es1 clock1) ∧ W.cell? ⟨g11, 0, none⟩ = some (.int .i64 oi) ∧ W.cell? ⟨g11, 1, none⟩ = some (.int .i64 si) ∧ W.cell? ⟨g9, 2, none⟩ = some (.int .i64 oi) ∧ W.cell? ⟨bq, oq, none⟩ = some (.int .i64 x0) := fun W X h =>
                  have h11 := h.eq (b := blk g11 #[.int .i64 oi, .int .i64 si] 155 + (X + (pts g (.map es1 clock1) + (blk g9 #[.int .i64 si, .int .i64 3, .int .i64 oi, .int .i64 pc, .slice Ak kl ck] 68 + (blk bq curq 3 + (blk hb #[.int .i64 n', .slice (some ⟨bn, on, none⟩) n' cn] 141 + (blk bn curn 138 + (q1 + (q2 + (m2 + F)))))))))) (by ac_rfl)
                  ⟨(h.eq (b := pts g (.map es1 clock1) + (X + (blk g11 #[.int .i64 oi, .int .i64 si] 155 + (blk g9 #[.int .i64 si, .int .i64 3, .int .i64 oi, .int .i64 pc, .slice Ak kl ck] 68 + (blk bq curq 3 + (blk hb #[.int .i64 n', .slice (some ⟨bn, on, none⟩) n' cn] 141 + (blk bn curn 138 + (q1 + (q2 + (m2 + F)))))))))) (by ac_rfl)).get, h11.at_ rfl, h11.at_ rfl, (h.eq (b := blk g9 #[.int .i64 si, .int .i64 3, .int .i64 oi, .int .i64 pc, .slice Ak kl ck] 68 + (X + (pts g (.map es1 clock1) + (blk g11 #[.int .i64 oi, .int .i64 si] 155 + (blk bq curq 3 + (blk hb #[.int .i64 n', .slice (some ⟨bn, on, none⟩) n' cn] 141 + (blk bn curn 138 + (q1 + (q2 + (m2 + F)))))))))) (by ac_rfl)).at_ rfl, (h.eq (b := blk bq curq 3 + (X + (pts g (.map es1 clock1) + (blk g11 #[.int .i64 oi, .int .i64 si] 155 + (blk g9 #[.int .i64 si, .int .i64 3, .int .i64 oi, .int .i64 pc, .slice Ak kl ck] 68 + (blk hb #[.int .i64 n', .slice (some ⟨bn, on, none⟩) n' cn] 141 + (blk bn curn 138 + (q1 + (q2 + (m2 + F)))))))))) (by ac_rfl)).at_ Hc0.out⟩
                have H3 := hid (show Has wc.drew (blk g10 #[.int .i64 0, .int .i64 0] 143 + (pts g (.map es1 clock1) + (blk g11 #[.int .i64 oi, .int .i64 si] 155 + (blk g9 #[.int .i64 si, .int .i64 3, .int .i64 oi, .int .i64 pc, .slice Ak kl ck] 68 + (blk bq curq 3 + (blk hb #[.int .i64 n', .slice (some ⟨bn, on, none⟩) n' cn] 141 + (blk bn curn 138 + (q1 + (q2 + (m2 + F)))))))))) from HA2.out.drew.eq (by rw [Hme.out]; ac_rfl))
                have hS := keep _ _ H3.out
                have Hkp := hid keep
                clear keep HA2
                refine wp_region_txt (fun W => W.heap[g]? = some (.map es1 clock1) ∧ W.cell? ⟨g11, 0, none⟩ = some (.int .i64 oi) ∧ W.cell? ⟨g11, 1, none⟩ = some (.int .i64 si) ∧ W.cell? ⟨g9, 2, none⟩ = some (.int .i64 oi) ∧ W.cell? ⟨bq, oq, none⟩ = some (.int .i64 x0)) (some 17)
                  [(0, true), (1, true), (2, true), (3, true), (4, true), (5, true), (6, true), (7, true), (8, true), (9, true), (10, true), (11, true), (12, true), (13, true), (14, false), (15, false), (16, true), (17, false)] (by kernel_rfl) rfl (by kernel_rfl) (by kernel_rfl) (by repeat (first | with_reducible refine PanicOk.thn ?_ | with_reducible refine PanicOk.blk ?_ | exact PanicOk.body _ _ _)) ?_
                repeat
                  (refine txt_quiet ?_ hS rfl rfl (fun W hW => ?_) ?_
                   rotate_left 1
                   · obtain ⟨hW1, hW2, hW3, hW4, hW5⟩ := hW
                     go_simp
                     exact rfl
                   simp only [Act.put, List.setIfInBounds_toArray, List.set_cons_zero, List.set_cons_succ])
                refine txt_quiet _ hS rfl rfl (fun W hW => ex_lookup rfl (Hlook.out W hW.1)) ?_
                simp only [Act.put, List.setIfInBounds_toArray, List.set_cons_zero, List.set_cons_succ]
                repeat
                  (refine txt_quiet ?_ hS rfl rfl (fun W hW => ?_) ?_
                   rotate_left 1
                   · obtain ⟨hW1, hW2, hW3, hW4, hW5⟩ := hW
                     go_simp
                     exact rfl
                   simp only [Act.put, List.setIfInBounds_toArray, List.set_cons_zero, List.set_cons_succ])
                refine txt_quiet _ hS rfl rfl (fun W hW => ex_lookup rfl (Hlook.out W hW.1)) ?_
                simp only [Act.put, List.setIfInBounds_toArray, List.set_cons_zero, List.set_cons_succ]
                refine txt_quiet _ hS rfl rfl (fun W hW => run_slice22 (slice22 bq oq q0.length cq W)) ?_
                simp only [Act.put, List.setIfInBounds_toArray, List.set_cons_zero, List.set_cons_succ]
                refine txt_op rfl rfl ?_
                refine op_store_whole (.tmp 10) (.tmp 111) 143 rfl 2 size143 g10 (.agg #[.int .i64 oi, .int .i64 x0]) rfl rfl rfl (by simp [Value.cells, Value.oneCell']) #[.int .i64 0, .int .i64 0] 143 _ H3.out rfl ?_
                intro w4 k4 E4
                have H4 := hid (show Has w4 (blk g10 #[.int .i64 oi, .int .i64 x0] 143 + (pts g (.map es1 clock1) + (blk g11 #[.int .i64 oi, .int .i64 si] 155 + (blk g9 #[.int .i64 si, .int .i64 3, .int .i64 oi, .int .i64 pc, .slice Ak kl ck] 68 + (blk bq curq 3 + (blk hb #[.int .i64 n', .slice (some ⟨bn, on, none⟩) n' cn] 141 + (blk bn curn 138 + (q1 + (q2 + (m2 + F)))))))))) from k4)
                have hS4 := Hkp.out w4 _ H4.out
                refine ⟨fun _ => hS4, ?_⟩
                simp only [Act.put, List.setIfInBounds_toArray, List.set_cons_zero, List.set_cons_succ]
                clear hS
                have H4' := hid (H4.out.eq (b := pts g (.map es1 clock1) + (blk g10 #[.int .i64 oi, .int .i64 x0] 143 + (blk g11 #[.int .i64 oi, .int .i64 si] 155 + (blk g9 #[.int .i64 si, .int .i64 3, .int .i64 oi, .int .i64 pc, .slice Ak kl ck] 68 + (blk bq curq 3 + (blk hb #[.int .i64 n', .slice (some ⟨bn, on, none⟩) n' cn] 141 + (blk bn curn 138 + (q1 + (q2 + (m2 + F)))))))))) (by ac_rfl))
                refine txt_op rfl rfl ?_
                refine op_run (.tuple #[.slice (some ⟨bq, oq, none⟩) (q0.length + 1) cq, goInt st]) (setBlock w4 g (.map es1 clock1)) (ex_entry rfl (Hent.out w4 H4'.out.get)) ?_
                have H5 := hid (show Has (setBlock w4 g (.map es1 clock1)) (pts g (.map es1 clock1) + (blk g10 #[.int .i64 oi, .int .i64 x0] 143 + (blk g11 #[.int .i64 oi, .int .i64 si] 155 + (blk g9 #[.int .i64 si, .int .i64 3, .int .i64 oi, .int .i64 pc, .slice Ak kl ck] 68 + (blk bq curq 3 + (blk hb #[.int .i64 n', .slice (some ⟨bn, on, none⟩) n' cn] 141 + (blk bn curn 138 + (q1 + (q2 + (m2 + F)))))))))) from H4'.out.setMap)
                have hS5 := Hkp.out _ (blk g10 #[.int .i64 oi, .int .i64 x0] 143) (H5.out.eq (by ac_rfl))
                refine ⟨fun _ => hS5, ?_⟩
                simp only [Act.put, List.setIfInBounds_toArray, List.set_cons_zero, List.set_cons_succ]
                clear hS4
                have E5 := hid (((E21.out.trans (Ext.drew _)).trans E4).trans (Ext.setMap w4 g (.map es1 clock1)))
                generalize setBlock w4 g _ = we at *
                repeat
                  (refine txt_quiet ?_ hS5 rfl rfl (fun W hW => ?_) ?_
                   rotate_left 1
                   · obtain ⟨hW1, hW2, hW3, hW4, hW5⟩ := hW
                     go_simp
                     exact rfl
                   simp only [Act.put, List.setIfInBounds_toArray, List.set_cons_zero, List.set_cons_succ])
                obtain ⟨es', clock', hR', hst', hrun'⟩ := Hsto.out _ _ _ HI0.out
                refine txt_op rfl rfl ?_
                refine op_skip (setBlock we g (.map es' clock')) (ex_store rfl (hrun' we H5.out.get)) ?_
                refine ⟨fun h => absurd rfl h, ?_⟩
                simp only [Act.put]
                refine txt_done ?_
                have H22 := hid (show Has (setBlock we g (.map es' clock')) (blk hb #[.int .i64 n', .slice (some ⟨bn, on, none⟩) n' cn] 141 + (blk bn curn 138 + (q1 + (q2 + (blk g9 #[.int .i64 si, .int .i64 3, .int .i64 oi, .int .i64 pc, .slice Ak kl ck] 68 + (blk g10 #[.int .i64 oi, .int .i64 x0] 143 + (pts g (.map es' clock') + ((blk bq curq 3 + m2) + (blk g11 #[.int .i64 oi, .int .i64 si] 155 + F))))))))) from H5.out.setMap.eq (by ac_rfl))
                have E22 := hid (E5.out.trans (Ext.setMap we g (.map es' clock')))
                have Hs2 := hid hst'
                have Hm2 := hid hR'
                clear hS5 hrun' H5 H4 H4' H3 hst' hR' k4 E4
                generalize setBlock we g _ = wz at *
                go_wp2
                have keep : ∀ (W : World) (X : MS), Has W (X + (blk bn curn 138 + (blk hb #[.int .i64 n', .slice (some ⟨bn, on, none⟩) n' cn] 141 + (blk g9 #[.int .i64 si, .int .i64 3, .int .i64 oi, .int .i64 pc, .slice Ak kl ck] 68 + (blk g10 #[.int .i64 oi, .int .i64 x0] 143 + (q2 + (pts g (.map es' clock') + ((blk bq curq 3 + m2) + (blk g11 #[.int .i64 oi, .int .i64 si] 155 + F))))))))) → W.cell? ⟨hb, 1, none⟩ = some (.slice (some ⟨bn, on, none⟩) n' cn) ∧ W.cell? ⟨g9, 0, none⟩ = some (.int .i64 si) ∧ W.cell? ⟨bn, on + si, none⟩ = some (.slice Ar row.length cr) ∧ W.cell? ⟨g10, 0, none⟩ = some (.int .i64 oi) ∧ W.cell? ⟨g10, 1, none⟩ = some (.int .i64 x0) := fun W X h =>
                  have h9 := h.eq (b := blk g9 #[.int .i64 si, .int .i64 3, .int .i64 oi, .int .i64 pc, .slice Ak kl ck] 68 + (X + (blk bn curn 138 + (blk hb #[.int .i64 n', .slice (some ⟨bn, on, none⟩) n' cn] 141 + (blk g10 #[.int .i64 oi, .int .i64 x0] 143 + (q2 + (pts g (.map es' clock') + ((blk bq curq 3 + m2) + (blk g11 #[.int .i64 oi, .int .i64 si] 155 + F))))))))) (by ac_rfl)
                  have h10 := h.eq (b := blk g10 #[.int .i64 oi, .int .i64 x0] 143 + (X + (blk bn curn 138 + (blk hb #[.int .i64 n', .slice (some ⟨bn, on, none⟩) n' cn] 141 + (blk g9 #[.int .i64 si, .int .i64 3, .int .i64 oi, .int .i64 pc, .slice Ak kl ck] 68 + (q2 + (pts g (.map es' clock') + ((blk bq curq 3 + m2) + (blk g11 #[.int .i64 oi, .int .i64 si] 155 + F))))))))) (by ac_rfl)
                  ⟨(h.eq (b := blk hb #[.int .i64 n', .slice (some ⟨bn, on, none⟩) n' cn] 141 + (X + (blk bn curn 138 + (blk g9 #[.int .i64 si, .int .i64 3, .int .i64 oi, .int .i64 pc, .slice Ak kl ck] 68 + (blk g10 #[.int .i64 oi, .int .i64 x0] 143 + (q2 + (pts g (.map es' clock') + ((blk bq curq 3 + m2) + (blk g11 #[.int .i64 oi, .int .i64 si] 155 + F))))))))) (by ac_rfl)).at_ rfl, h9.at_ rfl, (h.eq (b := blk bn curn 138 + (X + (blk hb #[.int .i64 n', .slice (some ⟨bn, on, none⟩) n' cn] 141 + (blk g9 #[.int .i64 si, .int .i64 3, .int .i64 oi, .int .i64 pc, .slice Ak kl ck] 68 + (blk g10 #[.int .i64 oi, .int .i64 x0] 143 + (q2 + (pts g (.map es' clock') + ((blk bq curq 3 + m2) + (blk g11 #[.int .i64 oi, .int .i64 si] 155 + F))))))))) (by ac_rfl)).at_ Hcell.out, h10.at_ rfl, h10.at_ rfl⟩
                have H3 := hid (show Has wz.drew (q1 + (blk bn curn 138 + (blk hb #[.int .i64 n', .slice (some ⟨bn, on, none⟩) n' cn] 141 + (blk g9 #[.int .i64 si, .int .i64 3, .int .i64 oi, .int .i64 pc, .slice Ak kl ck] 68 + (blk g10 #[.int .i64 oi, .int .i64 x0] 143 + (q2 + (pts g (.map es' clock') + ((blk bq curq 3 + m2) + (blk g11 #[.int .i64 oi, .int .i64 si] 155 + F))))))))) from H22.out.drew.eq (by ac_rfl))
                have hS := keep _ _ H3.out
                have Hkeep := hid keep
                clear keep
                refine wp_region_txt (fun W => W.cell? ⟨hb, 1, none⟩ = some (.slice (some ⟨bn, on, none⟩) n' cn) ∧ W.cell? ⟨g9, 0, none⟩ = some (.int .i64 si) ∧ W.cell? ⟨bn, on + si, none⟩ = some (.slice Ar row.length cr) ∧ W.cell? ⟨g10, 0, none⟩ = some (.int .i64 oi) ∧ W.cell? ⟨g10, 1, none⟩ = some (.int .i64 x0)) (some 18)
                  [(0, true), (1, true), (2, true), (3, true), (4, true), (5, true), (6, true), (7, true), (8, true), (9, true), (10, true), (11, true), (12, true), (13, true), (14, true), (15, false), (16, false), (17, true), (18, false)] (by kernel_rfl) rfl (by kernel_rfl) (by kernel_rfl) (by repeat (first | with_reducible refine PanicOk.thn ?_ | with_reducible refine PanicOk.blk ?_ | exact PanicOk.body _ _ _)) ?_
                repeat
                  (refine txt_quiet ?_ hS rfl rfl (fun W hW => ?_) ?_
                   rotate_left 1
                   · obtain ⟨hW1, hW2, hW3, hW4, hW5⟩ := hW
                     go_simp
                     exact rfl
                   simp only [Act.put, List.setIfInBounds_toArray, List.set_cons_zero, List.set_cons_succ])
                refine txt_op rfl rfl ?_
                refine op_run (.slice (some ⟨wz.heap.size, 0, none⟩) 1 1) (wz.drew.alloc (.cells #[.int .i64 oi, .int .i64 x0] 143)) (by go_simp) ?_
                have hS6 := Hkeep.out (wz.drew.alloc (.cells #[.int .i64 oi, .int .i64 x0] 143)) (pts wz.heap.size (.cells #[.int .i64 oi, .int .i64 x0] 143) + q1) ((H3.out.alloc _).eq (by show pts wz.heap.size _ + _ = _; ac_rfl))
                refine ⟨fun _ => hS6, ?_⟩
                simp only [Act.put, List.setIfInBounds_toArray, List.set_cons_zero, List.set_cons_succ]
                clear hS
                refine txt_op rfl rfl ?_
                refine op_push (.tmp 131) (.tmp 133) row138 rfl (.slice Ar row.length cr) rfl _ rfl rfl NeedR NeedR.one NeedR.len row (oi, x0) q1 0 _ Hrow.out (show NeedR (oi, x0) [.int .i64 oi, .int .i64 x0] 0 from ⟨rfl, rfl⟩) (H3.out.eq (b := q1 + (0 + (blk bn curn 138 + (blk hb #[.int .i64 n', .slice (some ⟨bn, on, none⟩) n' cn] 141 + (blk g9 #[.int .i64 si, .int .i64 3, .int .i64 oi, .int .i64 pc, .slice Ak kl ck] 68 + (blk g10 #[.int .i64 oi, .int .i64 x0] 143 + (q2 + (pts g (.map es' clock') + ((blk bq curq 3 + m2) + (blk g11 #[.int .i64 oi, .int .i64 si] 155 + F)))))))))) (congrArg (q1 + ·) (MS.zero_add _).symm)) row.length rfl (by have := Hrl.out; omega) (by omega) ?_
                intro B7 d7 w7 m7 j4 j5 j6
                have hS7 := Hkeep.out w7 m7 j5
                refine ⟨fun _ => hS7, ?_⟩
                simp only [Act.put, List.setIfInBounds_toArray, List.set_cons_zero, List.set_cons_succ]
                clear hS6
                repeat
                  (refine txt_quiet ?_ hS7 rfl rfl (fun W hW => ?_) ?_
                   rotate_left 1
                   · obtain ⟨hW1, hW2, hW3, hW4, hW5⟩ := hW
                     go_simp
                     exact rfl
                   simp only [Act.put, List.setIfInBounds_toArray, List.set_cons_zero, List.set_cons_succ])
                refine txt_op rfl rfl ?_
                refine op_store_blk (.tmp 135) (.tmp 134) 138 rfl size138 bn (on + si) (.slice B7 (row.length + 1) d7) rfl rfl rfl curn 138 _ (j5.eq (b := blk bn curn 138 + (m7 + (blk hb #[.int .i64 n', .slice (some ⟨bn, on, none⟩) n' cn] 141 + (blk g9 #[.int .i64 si, .int .i64 3, .int .i64 oi, .int .i64 pc, .slice Ak kl ck] 68 + (blk g10 #[.int .i64 oi, .int .i64 x0] 143 + (q2 + (pts g (.map es' clock') + ((blk bq curq 3 + m2) + (blk g11 #[.int .i64 oi, .int .i64 si] 155 + F))))))))) (by ac_rfl)) (arr_lt Hcell.out) ?_
                intro w8 j7 j8
                refine ⟨fun h => absurd rfl h, ?_⟩
                simp only [Act.put]
                refine txt_done ?_
                have J4 := hid j4
                have H8 := hid ((j7.eq (b := (blk g9 #[.int .i64 si, .int .i64 3, .int .i64 oi, .int .i64 pc, .slice Ak kl ck] 68 + (blk g10 #[.int .i64 oi, .int .i64 x0] 143 + blk g11 #[.int .i64 oi, .int .i64 si] 155)) + (blk hb #[.int .i64 n', .slice (some ⟨bn, on, none⟩) n' cn] 141 + ((blk bn (curn.setIfInBounds (on + si) (.slice B7 (row.length + 1) d7)) 138 + (m7 + q2)) + (pts g (.map es' clock') + ((blk bq curq 3 + m2) + F))))) (by ac_rfl)).right)
                have E8 := hid (((E22.out.trans (Ext.drew _)).trans j6).trans j8)
                clear hS7 j4 j5 j6 j7 j8 H3
                go_wp2
                go_roundw
                case rel => exact ⟨t + 1, ⟨h.add (si : Int) (oi, x0), sPut h.sent ((oi : Int), (si : Int)) q0⟩, _, _, es', clock', (blk bq curq 3 + m2), Hlt.out, by go_num, Hsx.out, Hok.out.step (by omega) Hst.out, by show Needs2 (h.add (si : Int) (oi, x0)) _ _; rw [Hadd.out]; exact Hput.out _ _ _ _ J4.out, Hs2.out, Hm2.out, H8.out, E8.out⟩
                case measure => have := Hlt.out; simp [intOf]; omega
          · obtain rfl : t = l.length := by omega
            have Hend := hid (show Hist.run n' (Hist.zero n') l = some h from by have := Hrun.out; rwa [List.take_length] at this)
            have HX := hid (show IsHist n' h.needs hb (blk hb #[.int .i64 n', .slice An n' cn] 141 + mn) from ⟨_, mn, rfl, Hvn.out⟩)
            have HY := hid (show Has wr ((blk hb #[.int .i64 n', .slice An n' cn] 141 + mn) + F) from (HHt.out.eq (b := (pts g (.map es clock) + me) + ((blk hb #[.int .i64 n', .slice An n' cn] 141 + mn) + F)) (by ac_rfl)).right)
            go_wp2
            go_ret2
            exact .inr ⟨n', h, hb, _, rfl, n2, n5, l60, Hend.out, Hok.out, rfl, HX.out, HY.out, HEt.out⟩
end Go.Proofs.Ytnkgfgkgepadhaa

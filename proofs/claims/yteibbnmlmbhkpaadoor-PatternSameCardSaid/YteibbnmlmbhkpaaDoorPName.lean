/-
  The name of a group: plain, and the walk where nothing is mirrored.
-/
import Derived.Test.YteibbnmlmbhkpaaDoorPW11
namespace Go.Proofs.YteibbnmlmbhkpaaDoor
open Go.RowKit Go.MapKept Go.ChangeMaps Go.Maps
set_option linter.unusedVariables false
set_option linter.unusedSimpArgs false
set_option maxHeartbeats 2000000
set_option maxRecDepth 100000

theorem und107 : Tryd.prog.underlying 107 = some (.map 3 9) := by kernel_rfl
/-- A new entry of a map of strings; a look at one. -/
theorem ins107 {es : Array MapEntry} {clock g : Nat} {w : World} (hb : w.heap[g]? = some (.map es clock)) {q : Int} (hq : zOk q) (v : Value) (hk : ∀ x ∈ es.toList, ∃ a, zOk a ∧ x.key = .int .i64 a ∧ a ≠ q) :
    (Instr.mapUpdate 107 (.map (some g)) (.int .i64 q) v).run Tryd.prog w = .ok () (setBlock w g (.map (es.push ⟨.int .i64 q, v, clock⟩) (clock + 1))) := by
  rcases law3.find w (key_z hq) es.toList (fun x hx => by obtain ⟨a, h1, h2, _⟩ := hk x hx; exact ⟨_, by rw [h2]; exact key_z h1⟩) with ⟨h1, h2⟩ | ⟨j, e0, h1, h2, h3⟩
  · simp [Instr.mapUpdate, run_underlying und107, MapKept.run_getObj_map hb, law3.check w false (key_z hq), h1, MapKept.run_setObj_map _ hb, Result.andThen, setBlock]
  · obtain ⟨a, _, h4, h5⟩ := hk e0 (List.mem_of_getElem? h2)
    rw [h4] at h3
    injection h3 with _ h3
    exact absurd h3 h5
theorem look107 {es : Array MapEntry} {clock g : Nat} {w : World} (hb : w.heap[g]? = some (.map es clock)) {q : Int} (hq : zOk q) (hk : ∀ x ∈ es.toList, ∃ a, zOk a ∧ x.key = .int .i64 a) {v : Value} (hv : ∀ x ∈ es.toList, x.key = .int .i64 q → x.val = v) (hex : ∃ x ∈ es.toList, x.key = .int .i64 q) :
    (Instr.lookup 107 (.map (some g)) (.int .i64 q) false).run Tryd.prog w = .ok v w := by
  rcases law3.find w (key_z hq) es.toList (fun x hx => by obtain ⟨a, h1, h2⟩ := hk x hx; exact ⟨_, by rw [h2]; exact key_z h1⟩) with ⟨h1, h2⟩ | ⟨j, e0, h1, h2, h3⟩
  · obtain ⟨x, hx, hxk⟩ := hex
    exact absurd hxk (h2 x hx)
  · have := hv e0 (List.mem_of_getElem? h2) h3
    simp [Instr.lookup, run_underlying und107, MapKept.run_getObj_map hb, law3.check w _ (key_z hq), h1, this, Result.andThen]
def txt (l : List UInt8) : ByteArray := ⟨l.toArray⟩
/-- Is there a line of glides alone near the middle? -/
def cmP (p : List ByteArray) (g : Gd) : Prop := ∃ k, 4 ≤ k ∧ k < 8 ∧ ∃ a, lnAll p g k a ∧ (-18 ≤ a ∧ a ≤ 18) ∧ ¬ lnMir p g k a
open Classical in
/-- The name. -/
noncomputable def nameOf (p : List ByteArray) (g : Gd) : ByteArray :=
  let r := ordOf (symL p g)
  if ¬ anyL p g then (if r = 4 then txt [112, 52] else if r = 2 then txt [112, 50] else txt [112, 49])
  else if r = 4 then (if ctr p g 1 (onP p g) then txt [112, 52, 109] else txt [112, 52, 103])
  else if r = 2 then (if dirN p g 8 = 0 then txt [112, 103, 103] else if dirN p g 8 = 1 then txt [112, 109, 103] else if ctr p g 2 (fun x y => ¬ onP p g x y) then txt [99, 109, 109] else txt [112, 109, 109])
  else if dirN p g 8 = 0 then txt [112, 103] else if cmP p g then txt [99, 109] else txt [112, 109]
theorem ordOf_cases (l : List Mv) : ordOf l = 1 ∨ ordOf l = 2 ∨ ordOf l = 4 := by
  unfold ordOf
  split
  · exact .inr (.inr rfl)
  · split
    · exact .inr (.inl rfl)
    · exact .inl rfl
theorem ex_insert107 {a : Act} {o : Oper} {x k y : Operand} {W W' : World} (ho : o.op = .insert 107 x k y) (h : (Instr.mapUpdate 107 (a.eval x) (a.eval k) (a.eval y)).run Tryd.prog W = .ok () W') : (execOp a.eval o).run Tryd.prog W = .ok .skip W' := by
  simp only [execOp, ho, Sem.run_bind, h, Result.andThen, Sem.run_pure]
theorem wpList_ins107 {w : World} {o : Oper} {ops : Array Oper} {rest : List Oper} {a : Act} {Q : Exit → Act → World → Prop} (hgd : o.guard = none) (x k y : Operand) (ho : o.op = .insert 107 x k y) (g : Nat) (hx : a.eval x = .map (some g)) (q : Int) (hk : a.eval k = .int .i64 q) (v : Value) (hy : a.eval y = v)
    {es : Array MapEntry} {clock : Nat} (hq : zOk q) (F : MS) (hH : Has w (pts g (.map es clock) + F)) (hks : ∀ x ∈ es.toList, ∃ a, zOk a ∧ x.key = .int .i64 a ∧ a ≠ q)
    (h : ∀ w', Has w' (pts g (.map (es.push ⟨.int .i64 q, v, clock⟩) (clock + 1)) + F) → Ext w w' → wpList Tryd.prog ops Q rest (a.put o.dst undef) w') : wpList Tryd.prog ops Q (o :: rest) a w :=
  wpList_skip hgd _ (ex_insert107 ho (by rw [hx, hk, hy]; exact ins107 hH.get hq v hks)) (h _ hH.setMap (Ext.setMap _ _ _))
/-- The map of names. -/
def nm3 : Array MapEntry := ((#[].push ⟨.int .i64 1, .string (txt [112, 49]), 0⟩).push ⟨.int .i64 2, .string (txt [112, 50]), 1⟩).push ⟨.int .i64 4, .string (txt [112, 52]), 2⟩
theorem look_nm3 {g : Nat} {w : World} {r : Int} (hr : r = 1 ∨ r = 2 ∨ r = 4) (hb : w.heap[g]? = some (.map nm3 3)) :
    (Instr.lookup 107 (.map (some g)) (.int .i64 r) false).run Tryd.prog w = .ok (.string (if r = 4 then txt [112, 52] else if r = 2 then txt [112, 50] else txt [112, 49])) w := by
  refine look107 hb (by unfold zOk; omega) (fun x hx => ?_) (fun x hx hk => ?_) ?_
  · simp [nm3] at hx
    rcases hx with rfl | rfl | rfl
    · exact ⟨1, by unfold zOk; omega, rfl⟩
    · exact ⟨2, by unfold zOk; omega, rfl⟩
    · exact ⟨4, by unfold zOk; omega, rfl⟩
  · simp [nm3] at hx
    rcases hx with rfl | rfl | rfl
    · injection hk with _ hk; subst hk; rfl
    · injection hk with _ hk; subst hk; rfl
    · injection hk with _ hk; subst hk; rfl
  · rcases hr with rfl | rfl | rfl
    · exact ⟨⟨.int .i64 1, .string (txt [112, 49]), 0⟩, by simp [nm3], rfl⟩
    · exact ⟨⟨.int .i64 2, .string (txt [112, 50]), 1⟩, by simp [nm3], rfl⟩
    · exact ⟨⟨.int .i64 4, .string (txt [112, 52]), 2⟩, by simp [nm3], rfl⟩
theorem nm_keys2 {x : MapEntry} (hx : x ∈ ((#[].push (⟨.int .i64 1, .string (txt [112, 49]), 0⟩ : MapEntry)).push ⟨.int .i64 2, .string (txt [112, 50]), 0 + 1⟩).toList) : ∃ a, zOk a ∧ x.key = .int .i64 a ∧ a ≠ 4 := by
  simp at hx
  rcases hx with rfl | rfl
  · exact ⟨1, by unfold zOk; omega, rfl, by omega⟩
  · exact ⟨2, by unfold zOk; omega, rfl, by omega⟩
theorem size104 : (Tryd.prog.info? 104).map (·.size) = some 1 := by kernel_rfl
theorem wpList_run {P : Program} {o : Oper} {ops : Array Oper} {rest : List Oper} {a : Act} {w : World} {Q : Exit → Act → World → Prop} (hgd : o.guard = none) (v : Value) (w' : World) (hrun : (execOp a.eval o).run P w = .ok (.value v) w') (h : wpList P ops Q rest (a.put o.dst v) w') : wpList P ops Q (o :: rest) a w :=
  wpList_plain hgd fun _ hK => by
    unfold Oper.wp
    rw [hrun]
    exact hK _ _ h
theorem name_none {F : MS} {p : List ByteArray} {g : Gd} {gb : Nat} {w : World} (h : PGr F p g gb) (hk : KinOk F) (hno : ¬ anyL p g) (hH : Has w F) :
    Calls Tryd.prog 38 #[.pointer (some ⟨gb, 0, none⟩)] w fun e w' => e = .returned (.string (nameOf p g)) ∧ Kp w w' := by
  have Hlines := hid (lines_any h hk hH)
  have Horder := hid (fun (W : World) (hW : Has W F) => order_any h hk hW)
  have Hany := hid (fun (W : World) (X : MS) (lb : Nat) (hl : Lns X p g lb) (hW : Has W X) => any_any hl hW)
  have HH := hid hH
  have hr3 := ordOf_cases (symL p g)
  obtain ⟨r, hr⟩ : ∃ r, r = ordOf (symL p g) := ⟨_, rfl⟩
  obtain ⟨nm, hnm⟩ : ∃ nm, nm = nameOf p g := ⟨_, rfl⟩
  have Hnm := hid (show nm = (if r = 4 then txt [112, 52] else if r = 2 then txt [112, 50] else txt [112, 49]) by rw [hnm, hr]; unfold nameOf; simp only; rw [if_pos hno])
  rw [← hnm]
  rw [← hr] at Horder hr3
  have Hr3 := hid hr3
  have Hno := hid hno
  clear h hk hno hH hr hnm hr3
  go_enter Tryd.func38, Tryd.ntmps38
  go_wp2_with (first
    | (go_at_call 63; refine Hlines.out.mono ?_; rintro e1 w1 ⟨lb, X, rfl, hL, hX, k1⟩; have HL := hid hL; have HX := hid hX; have K1 := hid k1; have HA := hid (((Has.all w1).alloc (.cells #[.pointer (some ⟨lb, 0, none⟩)] 104))); clear hL hX k1)
    | (go_at_call 65; refine (Hany.out _ X lb HL.out (HX.out.of_all HA2.out)).mono ?_; rintro e3 w3 ⟨⟨q, rfl, hq⟩, hw⟩; rw [hw]; have hqf : q = false := (by cases q with | true => exact absurd (hq.1 rfl) Hno.out | false => rfl); subst hqf; clear hw hq)
    | (go_at_call 64; refine (Horder.out _ ((K1.out.1 _ HH.out).of_all HA.out)).mono ?_; rintro e2 w2 ⟨rfl, k2⟩; have K2 := hid k2; have HA2 := hid (k2.1 _ HA.out); have f3 : w2.cell? ⟨w1.heap.size, 0, none⟩ = some (.pointer (some ⟨lb, 0, none⟩)) := (show Has w2 (blk w1.heap.size #[.pointer (some ⟨lb, 0, none⟩)] 104 + MS.all w1) from HA2.out).at_ rfl; clear k2)
    | (refine wpList_run rfl _ _ (ex_makeMap rfl) ?_; have K4 := hid (HA2.out.alloc (.map #[] 0)); have E4 := hid (K2.out.2.trans (Ext.alloc w2 (.map #[] 0))))
    | (refine wpList_ins107 rfl (.tmp 18) (.const (.int .i64 1)) (.const (.string (txt [112, 49]))) rfl w2.heap.size rfl 1 rfl (.string (txt [112, 49])) rfl (by unfold zOk; omega) _ K4.out (by simp) ?_; intro w5 j1 j2; have K5 := hid j1; have E5 := hid (E4.out.trans j2); clear j1 j2)
    | (refine wpList_ins107 rfl (.tmp 18) (.const (.int .i64 2)) (.const (.string (txt [112, 50]))) rfl w2.heap.size rfl 2 rfl (.string (txt [112, 50])) rfl (by unfold zOk; omega) _ K5.out (fun x hx => by simp at hx; subst hx; exact ⟨1, by unfold zOk; omega, rfl, by omega⟩) ?_; intro w6 j1 j2; have K6 := hid j1; have E6 := hid (E5.out.trans j2); clear j1 j2)
    | (refine wpList_ins107 rfl (.tmp 18) (.const (.int .i64 4)) (.const (.string (txt [112, 52]))) rfl w2.heap.size rfl 4 rfl (.string (txt [112, 52])) rfl (by unfold zOk; omega) _ K6.out (fun x hx => nm_keys2 hx) ?_; intro w7 j1 j2; have K7 := hid j1; have E7 := hid (E6.out.trans j2); clear j1 j2; have hlk := look_nm3 Hr3.out (show w7.heap[w2.heap.size]? = some (.map nm3 3) from K7.out.get); rw [← Hnm.out] at hlk))
  go_ret
  exact ⟨rfl, fun M hM => (K1.out.1 M hM).of_all (X := pts w2.heap.size (.map nm3 3) + pts w1.heap.size (.cells #[.pointer (some ⟨lb, 0, none⟩)] 104)) (K7.out.eq (by show pts _ (.map nm3 3) + _ = _; ac_rfl)), (K1.out.2.trans (Ext.alloc w1 _)).trans E7.out⟩
end Go.Proofs.YteibbnmlmbhkpaaDoor

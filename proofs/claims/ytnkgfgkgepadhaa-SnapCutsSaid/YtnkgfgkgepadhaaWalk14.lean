/-
  Walks: Cut, Snapshot.
-/
import Derived.Test.YtnkgfgkgepadhaaWalk13
namespace Go.Proofs.Ytnkgfgkgepadhaa
open Go.RowKit
set_option linter.unusedVariables false
set_option linter.unusedSimpArgs false

theorem IsNet.shotRdAt {Pl : MS} {σ : Net} {ps : List Nat} {b : Nat} {m : MS} (h : IsNet Pl σ ps b m) {k p : Nat} {x : Shot} (hx : σ.shots[k]? = some x) (hp : ps[k]? = some p) : RdShot m x p := by
  obtain ⟨hd, b2, o2, c2, cur2, cp, v0, v1, v2, v3, v4, m0, m1, m2, m3, m4, vst, mst, R, rfl, _, _, _, _, e0, e1, e2, e3, e4, h0, h1, h2, h3, h4, _⟩ := h.shot hx hp
  rw [show blk b hd 84 + (blk b2 cur2 101 + (blk p cp 109 + ((m0 + (m1 + (m2 + (m3 + m4)))) + (mst + R)))) = (blk b hd 84 + (blk b2 cur2 101 + (mst + R))) + (blk p cp 109 + (m0 + (m1 + (m2 + (m3 + m4))))) by ac_rfl]
  refine RdShot.more ⟨v0, v1, v2, v3, v4, blk_at' e0 _, blk_at' e1 _, blk_at' e2 _, blk_at' e3 _, blk_at' e4 _, ?_, ?_, ?_, ?_, ?_⟩ _
  · rw [show blk p cp 109 + (m0 + (m1 + (m2 + (m3 + m4)))) = (blk p cp 109 + (m1 + (m2 + (m3 + m4)))) + m0 by ac_rfl]; exact h0.rdS.more _
  · rw [show blk p cp 109 + (m0 + (m1 + (m2 + (m3 + m4)))) = (blk p cp 109 + (m0 + (m2 + (m3 + m4)))) + m1 by ac_rfl]; exact h1.rdS.more _
  · rw [show blk p cp 109 + (m0 + (m1 + (m2 + (m3 + m4)))) = (blk p cp 109 + (m0 + (m1 + (m3 + m4)))) + m2 by ac_rfl]; exact h2.rdS.more _
  · rw [show blk p cp 109 + (m0 + (m1 + (m2 + (m3 + m4)))) = (blk p cp 109 + (m0 + (m1 + (m2 + m4)))) + m3 by ac_rfl]; exact h3.rdS.more _
  · rw [show blk p cp 109 + (m0 + (m1 + (m2 + (m3 + m4)))) = (blk p cp 109 + (m0 + (m1 + (m2 + m3)))) + m4 by ac_rfl]; exact h4.rdS.more _

section
variable {P : Program} {w : World} {o : Oper} {a : Act} {K : Act → World → Prop} {Q : Exit → Act → World → Prop} {ops : Array Oper} {rest : List Oper}
/-- A store of a whole struct into a block of its own. -/
theorem wp_store_whole (ad x : Operand) (t : TypeId) (ho : o.op = .store t ad x) (n : Nat) (ht : (P.info? t).map (·.size) = some n)
    (b : Nat) (u : Value) (ha : a.eval ad = .pointer (some ⟨b, 0, none⟩)) (hx : a.eval x = u) (hu : u.cells.size = n) (h1 : ∀ v ∈ u.cells.toList, v.oneCell' = true)
    (cur : Array Value) (e : TypeId) (F : MS) (hH : Has w (blk b cur e + F)) (hi : cur.size = n)
    (h : ∀ w', Has w' (blk b u.cells e + F) → Ext w w' → K (a.put o.dst undef) w') : o.wp P a w K Q := by
  have hst := run_storeCells_at P b 0 e u.cells.toList 0 cur w hH.row (by simp; omega) h1
  have e1 : (cur.toList.take (0 + 0) ++ u.cells.toList ++ cur.toList.drop (0 + 0 + u.cells.toList.length)).toArray = u.cells := by
    rw [List.drop_of_length_le (by simp; omega)]; simp
  rw [e1] at hst
  have hrun : (storeVar t ⟨b, 0, none⟩ u).run P w = .ok () (w.setRow b u.cells) := by
    cases hq : P.info? t with
    | none => simp [hq] at ht
    | some q =>
      have hs : q.size = n := by simpa [hq] using ht
      simp [storeVar, sizeOf, typeInfo, hq, hu, hs, hst]
  unfold Oper.wp execOp
  simp only [ho, ha, hx, Instr.storeAt, Instr.sureAddr, Sem.run_bind, Sem.run_pure, Result.andThen_ok, hrun]
  exact h _ (hH.setRow _) (Ext.setRow _ _ _)
theorem wpList_store_whole (hgd : o.guard = none) (ad x : Operand) (t : TypeId) (ho : o.op = .store t ad x) (n : Nat) (ht : (P.info? t).map (·.size) = some n)
    (b : Nat) (u : Value) (ha : a.eval ad = .pointer (some ⟨b, 0, none⟩)) (hx : a.eval x = u) (hu : u.cells.size = n) (h1 : ∀ v ∈ u.cells.toList, v.oneCell' = true)
    (cur : Array Value) (e : TypeId) (F : MS) (hH : Has w (blk b cur e + F)) (hi : cur.size = n)
    (h : ∀ w', Has w' (blk b u.cells e + F) → Ext w w' → wpList P ops Q rest (a.put o.dst undef) w') : wpList P ops Q (o :: rest) a w :=
  wpList_plain hgd fun _ hK => wp_store_whole ad x t ho n ht b u ha hx hu h1 cur e F hH hi fun w' h2 h3 => hK _ _ (h w' h2 h3)
theorem op_store_whole (ad x : Operand) (t : TypeId) (ho : o.op = .store t ad x) (n : Nat) (ht : (P.info? t).map (·.size) = some n)
    (b : Nat) (u : Value) (ha : a.eval ad = .pointer (some ⟨b, 0, none⟩)) (hx : a.eval x = u) (hu : u.cells.size = n) (h1 : ∀ v ∈ u.cells.toList, v.oneCell' = true)
    (cur : Array Value) (e : TypeId) (F : MS) (hH : Has w (blk b cur e + F)) (hi : cur.size = n)
    (h : ∀ w', Has w' (blk b u.cells e + F) → Ext w w' → K (a.put o.dst undef) w') : opWp P o a w K Q :=
  op_of (wp_store_whole ad x t ho n ht b u ha hx hu h1 cur e F hH hi h)
end
theorem size38 : (Try.prog.info? 38).map (·.size) = some 2 := by kernel_rfl

/-- A snapshot's number: what it comes to. -/
def Net.snapErr (σ : Net) (no : Int) : Int := if σ.atErr no = 0 then finErr (match σ.shots[(no - 1).toNat]? with | some x => x.fin σ.sta.length | none => false) else 6
theorem snapErr_cases (σ : Net) (no : Int) : (σ.atErr no = 6 ∧ σ.snapErr no = 6) ∨ (∃ (k : Nat) (x : Shot), no = k + 1 ∧ σ.shots[k]? = some x ∧ σ.snapErr no = finErr (x.fin σ.sta.length)) := by
  rcases atErr_cases σ no with h | ⟨h, k, rfl, hk⟩
  · exact .inl ⟨h, by unfold Net.snapErr; rw [if_neg (by rw [h]; decide)]⟩
  · refine .inr ⟨k, σ.shots[k], rfl, List.getElem?_eq_getElem hk, ?_⟩
    unfold Net.snapErr
    rw [if_pos h, show ((k : Int) + 1 - 1).toNat = k by omega, List.getElem?_eq_getElem hk]

theorem cut_no (Pl F : MS) (σ : Net) (ps : List Nat) (b : Nat) (m : MS) (w : World) (hok : NetOk σ) (hnet : IsNet Pl σ ps b m) (hH : Has w (m + F)) (no : Int) (h : σ.snapErr no ≠ 0) :
    Calls Try.prog 22 #[.pointer (some ⟨b, 0, none⟩), .int .i64 no] w fun e w' => e = .returned (.tuple #[.slice none 0 0, .int .i64 (σ.snapErr no)]) ∧ w = w' := by
  rcases snapErr_cases σ no with ⟨h1, h2⟩ | ⟨k, x, rfl, hx, h2⟩
  · rw [h2]
    have H := hid (ended_no Pl F σ ps b m w hok hnet hH no h1)
    clear h h1 h2 hnet hH hok
    go_enter Try.func22, Try.ntmps22
    go_wp2_with (go_at_call 59; refine H.out.mono ?_; rintro e w' ⟨rfl, rfl⟩)
    go_ret2
    exact ⟨rfl, rfl⟩
  · obtain ⟨p, hp⟩ : ∃ p, ps[k]? = some p := ⟨_, List.getElem?_eq_getElem (by rw [hnet.1]; exact (List.getElem?_eq_some_iff.1 hx).1)⟩
    have H := hid (ended_yes Pl F σ ps b m w hok hnet hH k p x hx hp)
    rw [h2] at h ⊢
    have h9 : finErr (x.fin σ.sta.length) = 9 := by unfold finErr at h ⊢; split <;> simp_all
    rw [h9] at H ⊢
    clear h h2 hnet hH hok hx hp h9
    go_enter Try.func22, Try.ntmps22
    go_wp2_with (go_at_call 59; refine H.out.mono ?_; rintro e w' ⟨rfl, rfl⟩)
    go_ret2
    exact ⟨rfl, rfl⟩
theorem cut_yes (Pl F : MS) (σ : Net) (ps : List Nat) (b : Nat) (m : MS) (w : World) (hok : NetOk σ) (hnet : IsNet Pl σ ps b m) (hH : Has w (m + F)) (k : Nat) (x : Shot) (hx : σ.shots[k]? = some x) (h : σ.snapErr (k + 1) = 0) :
    Calls Try.prog 22 #[.pointer (some ⟨b, 0, none⟩), .int .i64 (k + 1)] w fun e w' => ∃ A c mr, e = .returned (.tuple #[.slice A x.cut.length c, .int .i64 0]) ∧ Ints x.cut (.slice A x.cut.length c) mr ∧ Has w' (mr + (m + F)) ∧ Ext w w' := by
  obtain ⟨p, hp⟩ : ∃ p, ps[k]? = some p := ⟨_, List.getElem?_eq_getElem (by rw [hnet.1]; exact (List.getElem?_eq_some_iff.1 hx).1)⟩
  have H := hid (ended_yes Pl F σ ps b m w hok hnet hH k p x hx hp)
  have h9 : finErr (x.fin σ.sta.length) = 0 := by
    rcases snapErr_cases σ (k + 1) with ⟨h1, h2⟩ | ⟨k', x', hk, hx', h2⟩
    · rw [h2] at h; cases h
    · obtain rfl : k' = k := by omega
      rw [hx] at hx'; injection hx' with hx'; subst hx'
      rw [← h2]; exact h
  rw [h9] at H
  obtain ⟨v0, v1, v2, v3, v4, _, _, e2, _, _, _, _, h2, _⟩ := hnet.shotRdAt hx hp
  obtain ⟨A2, c2, rfl, _⟩ := h2.form
  have f2 := (e2.less F).cell (X := 0) (by rw [MS.zero_add]; exact hH)
  have hl : x.cut.length ≤ 1000 := by
    obtain ⟨_, _, _, z, _⟩ := hok.shot x (List.mem_of_getElem? hx)
    have := hok.n5; omega
  have H2 := hid (clone_rd (h2.less F) hH (by omega))
  clear h hnet hH hok hx hp h9 h2 e2
  go_enter Try.func22, Try.ntmps22
  go_wp2_with (first
    | (go_at_call 59; refine H.out.mono ?_; rintro e w' ⟨rfl, rfl⟩)
    | (go_at_call 58; refine H2.out.mono ?_; rintro e w' ⟨A1, c1, m1, rfl, h1, h2, h3⟩))
  go_ret2
  exact ⟨_, _, _, rfl, h1, h2, h3⟩

theorem snapshot_no (Pl F : MS) (σ : Net) (ps : List Nat) (b : Nat) (m : MS) (w : World) (hok : NetOk σ) (hnet : IsNet Pl σ ps b m) (hH : Has w (m + F)) (no : Int) (h : σ.snapErr no ≠ 0) :
    Calls Try.prog 21 #[.pointer (some ⟨b, 0, none⟩), .int .i64 no] w fun e w' => e = .returned (.tuple #[.agg #[.slice none 0 0, .slice none 0 0], .int .i64 (σ.snapErr no)]) ∧ (∀ M, Has w M → Has w' M) ∧ Ext w w' := by
  rcases snapErr_cases σ no with ⟨h1, h2⟩ | ⟨k, x, rfl, hx, h2⟩
  · rw [h2]
    have H := hid (fun o => ended_no Pl (pts w.heap.size o + F) σ ps b m (w.alloc o) hok hnet ((hH.alloc o).eq (by ac_rfl)) no h1)
    clear h h1 h2 hnet hH hok
    go_enter Try.func21, Try.ntmps21
    go_wp2_with (go_at_call 59; refine (H.out _).mono ?_; rintro e w' ⟨rfl, rfl⟩)
    exact bodyPost_ret (v := .tuple #[.agg #[.slice none 0 0, .slice none 0 0], .int .i64 6]) (by simp [results, Try.results21, go_sem]) rfl ⟨rfl, fun M h => (h.alloc _).right, Ext.alloc _ _⟩
  · obtain ⟨p, hp⟩ : ∃ p, ps[k]? = some p := ⟨_, List.getElem?_eq_getElem (by rw [hnet.1]; exact (List.getElem?_eq_some_iff.1 hx).1)⟩
    have H := hid (fun o => ended_yes Pl (pts w.heap.size o + F) σ ps b m (w.alloc o) hok hnet ((hH.alloc o).eq (by ac_rfl)) k p x hx hp)
    rw [h2] at h ⊢
    have h9 : finErr (x.fin σ.sta.length) = 9 := by unfold finErr at h ⊢; split <;> simp_all
    rw [h9] at H ⊢
    clear h h2 hnet hH hok hx hp h9
    go_enter Try.func21, Try.ntmps21
    go_wp2_with (go_at_call 59; refine (H.out _).mono ?_; rintro e w' ⟨rfl, rfl⟩)
    exact bodyPost_ret (v := .tuple #[.agg #[.slice none 0 0, .slice none 0 0], .int .i64 9]) (by simp [results, Try.results21, go_sem]) rfl ⟨rfl, fun M h => (h.alloc _).right, Ext.alloc _ _⟩

set_option maxHeartbeats 1000000 in
set_option maxRecDepth 100000 in
theorem snapshot_yes (Pl F : MS) (σ : Net) (ps : List Nat) (b : Nat) (m : MS) (w : World) (hok : NetOk σ) (hnet : IsNet Pl σ ps b m) (hH : Has w (m + F)) (k : Nat) (x : Shot) (hx : σ.shots[k]? = some x) (h : σ.snapErr (k + 1) = 0) :
    Calls Try.prog 21 #[.pointer (some ⟨b, 0, none⟩), .int .i64 (k + 1)] w fun e w' => ∃ A c A' c' mr mr', e = .returned (.tuple #[.agg #[.slice A x.pieces.length c, .slice A' x.under.length c'], .int .i64 0]) ∧
      Ints x.pieces (.slice A x.pieces.length c) mr ∧ Ints3 x.under (.slice A' x.under.length c') mr' ∧ Has w' (mr + (mr' + (m + F))) ∧ Ext w w' := by
  obtain ⟨p, hp⟩ : ∃ p, ps[k]? = some p := ⟨_, List.getElem?_eq_getElem (by rw [hnet.1]; exact (List.getElem?_eq_some_iff.1 hx).1)⟩
  have H := hid (fun o => ended_yes Pl (pts w.heap.size o + F) σ ps b m (w.alloc o) hok hnet ((hH.alloc o).eq (by ac_rfl)) k p x hx hp)
  have h9 : finErr (x.fin σ.sta.length) = 0 := by
    rcases snapErr_cases σ (k + 1) with ⟨h1, h2⟩ | ⟨k', x', hk, hx', h2⟩
    · rw [h2] at h; cases h
    · obtain rfl : k' = k := by omega
      rw [hx] at hx'; injection hx' with hx'; subst hx'
      rw [← h2]; exact h
  rw [h9] at H
  obtain ⟨v0, v1, v2, v3, v4, _, _, _, e3, e4, _, _, _, h3, h4⟩ := hnet.shotRdAt hx hp
  obtain ⟨A3, c3, rfl, _⟩ := h3.form
  obtain ⟨A4, c4, rfl, _⟩ := h4.form
  obtain ⟨_, _, _, _, z5, z6, z7⟩ := hok.shot x (List.mem_of_getElem? hx)
  have hn5 := hok.n5
  have hev := hok.evs
  have hl : x.pieces.length ≤ 1000 := by omega
  have HH := hid hH
  have He := hid (And.intro (e3.less F) (And.intro (e4.less F) (And.intro (h3.less F) (h4.less F))))
  have Hz := hid (And.intro z6 z7)
  clear h hnet hH hok hx hp h9 h3 h4 e3 e4 z5 z6 z7
  go_enter Try.func21, Try.ntmps21
  go_wp2_with (go_at_call 59; refine (H.out _).mono ?_; rintro e w' ⟨rfl, rfl⟩)
  have HB := HH.out.alloc (.cells #[.slice none 0 0, .slice none 0 0] 38)
  have HE := Ext.alloc w (.cells #[.slice none 0 0, .slice none 0 0] 38)
  generalize hbb : w.heap.size = g at *
  clear hbb
  generalize w.alloc _ = w1 at *
  obtain ⟨e3, e4, h3, h4⟩ := He.out
  have f3 := e3.cell HB
  have f4 := e4.cell HB
  have hS : w1.drew.cell? ⟨p, 3, none⟩ = some (.slice A3 x.pieces.length c3) ∧ w1.drew.cell? ⟨p, 4, none⟩ = some (.slice A4 x.under.length c4) := ⟨f3, f4⟩
  refine wp_region_txt (fun W => W.cell? ⟨p, 3, none⟩ = some (.slice A3 x.pieces.length c3) ∧ W.cell? ⟨p, 4, none⟩ = some (.slice A4 x.under.length c4)) none
    [(0, true), (1, true), (2, true), (3, true), (4, true), (6, true), (7, true), (8, true), (9, true), (10, true), (5, false), (11, false), (12, true), (13, false), (14, true)]
    (by kernel_rfl) rfl (by kernel_rfl) (by kernel_rfl) (by repeat (first | exact PanicOk.body _ _ _ | refine PanicOk.thn ?_ | refine PanicOk.blk ?_)) ?_
  have H3 := hid h3
  have H4 := hid h4
  have He3 := hid e3
  have He4 := hid e4
  clear h3 h4 e3 e4 f3 f4 He
  repeat
    (refine txt_quiet ?_ hS rfl rfl (fun W hW => ?_) ?_
     rotate_left 1
     · obtain ⟨hW1, hW2⟩ := hW
       go_simp
       exact rfl
     simp only [Act.put, List.setIfInBounds_toArray, List.set_cons_zero, List.set_cons_succ])
  refine txt_op rfl rfl ?_
  refine op_call 58 _ _ (by go_simp) _ (clone_rd (w := w1.drew) (H3.out.more _) HB.drew (by omega)) ?_
  rintro e w2 ⟨A5, c5, m5, rfl, k1, k2, k3⟩
  refine ⟨_, rfl, ?_⟩
  have hS2 : w2.cell? ⟨p, 3, none⟩ = some (.slice A3 x.pieces.length c3) ∧ w2.cell? ⟨p, 4, none⟩ = some (.slice A4 x.under.length c4) := ⟨(He3.out.more _).cell k2, (He4.out.more _).cell k2⟩
  refine ⟨fun _ => hS2, ?_⟩
  simp only [Act.put, List.setIfInBounds_toArray, List.set_cons_zero, List.set_cons_succ]
  refine txt_op rfl rfl ?_
  refine op_call 60 _ _ (by go_simp) _ (deep_any _ x.under (.slice A4 x.under.length c4) w2 ((H4.out.more _).more _) k2 (by have := Hz.out.1; omega) (fun r hr => by have := (Hz.out.2 r hr).1; omega) (fun r hr q hq => by have := (Hz.out.2 r hr).2 q hq; omega)) ?_
  rintro e w3 ⟨A6, c6, m6, rfl, k4, k5, k6⟩
  refine ⟨_, rfl, ?_⟩
  have hS3 : w3.cell? ⟨p, 3, none⟩ = some (.slice A3 x.pieces.length c3) ∧ w3.cell? ⟨p, 4, none⟩ = some (.slice A4 x.under.length c4) := ⟨((He3.out.more _).more _).cell k5, ((He4.out.more _).more _).cell k5⟩
  refine ⟨fun _ => hS3, ?_⟩
  simp only [Act.put, List.setIfInBounds_toArray, List.set_cons_zero, List.set_cons_succ]
  clear hS hS2
  repeat
    (refine txt_quiet ?_ hS3 rfl rfl (fun W hW => ?_) ?_
     rotate_left 1
     · obtain ⟨hW1, hW2⟩ := hW
       go_simp
       exact rfl
     simp only [Act.put, List.setIfInBounds_toArray, List.set_cons_zero, List.set_cons_succ])
  refine txt_op rfl rfl ?_
  refine op_store_whole (.tmp 4) (.tmp 30) 38 rfl 2 size38 g (.agg #[.slice A5 x.pieces.length c5, .slice A6 x.under.length c6]) rfl rfl rfl (by simp [Value.cells, Value.oneCell']) #[.slice none 0 0, .slice none 0 0] 38 (m6 + (m5 + (m + F))) (k5.eq (by show m6 + (m5 + (blk g #[.slice none 0 0, .slice none 0 0] 38 + (m + F))) = _; ac_rfl)) rfl ?_
  intro w4 k7 k8
  have hS4 : w4.cell? ⟨p, 3, none⟩ = some (.slice A3 x.pieces.length c3) ∧ w4.cell? ⟨p, 4, none⟩ = some (.slice A4 x.under.length c4) :=
    ⟨(((He3.out.more m5).more m6).more _).cell (X := 0) (by rw [MS.zero_add]; exact k7), (((He4.out.more m5).more m6).more _).cell (X := 0) (by rw [MS.zero_add]; exact k7)⟩
  refine ⟨fun _ => hS4, ?_⟩
  simp only [Act.put, List.setIfInBounds_toArray, List.set_cons_zero, List.set_cons_succ]
  clear hS3
  repeat
    (refine txt_quiet ?_ hS4 rfl rfl (fun W hW => ?_) ?_
     rotate_left 1
     · obtain ⟨hW1, hW2⟩ := hW
       go_simp
       exact rfl
     simp only [Act.put, List.setIfInBounds_toArray, List.set_cons_zero, List.set_cons_succ])
  refine txt_done ?_
  have q0 : w4.cell? ⟨g, 0, none⟩ = some (.slice A5 x.pieces.length c5) := k7.at_ (by rfl)
  have q1 : w4.cell? ⟨g, 1, none⟩ = some (.slice A6 x.under.length c6) := k7.at_ (by rfl)
  go_wp2
  exact bodyPost_ret (v := .tuple #[.agg #[.slice A5 x.pieces.length c5, .slice A6 x.under.length c6], .int .i64 0]) (by simp [results, Try.results21, go_sem, q0, q1]) rfl
    ⟨A5, c5, A6, c6, m5, m6, rfl, k1, k4, k7.right.eq (by ac_rfl), (((HE.trans (Ext.drew _)).trans k3).trans k6).trans k8⟩
end Go.Proofs.Ytnkgfgkgepadhaa

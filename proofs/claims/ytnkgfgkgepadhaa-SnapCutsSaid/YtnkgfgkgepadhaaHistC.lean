/-
  The walks of whole and Consistent.
-/
import Derived.Test.YtnkgfgkgepadhaaHistW
import Derived.Test.YtnkgfgkgepadhaaSame
namespace Go.Proofs.Ytnkgfgkgepadhaa
open Go.RowKit
set_option linter.unusedVariables false
set_option linter.unusedSimpArgs false
set_option maxHeartbeats 4000000
set_option maxRecDepth 100000

/-! ### Plain -/
def cutRow (needs : List (List (Int × Int))) (cut : List Int) (s : Nat) : Bool :=
  decide (0 ≤ cut.getD s 0) && (decide (cut.getD s 0 ≤ (needs.getD s []).length) && ((needs.getD s []).take (cut.getD s 0).toNat).all fun a => decide (a.2 ≤ cut.getD a.1.toNat 0))
def cutOk (needs : List (List (Int × Int))) (cut : List Int) : Bool := (List.range needs.length).all (cutRow needs cut)
/-! ### Reading -/
def RT.need : RT (Int × Int) := ⟨2, fun _ a cs => cs = [.int .i64 a.1, .int .i64 a.2], fun _ _ _ h => by rw [h]; rfl, fun _ _ _ _ h => h⟩
theorem RdS.getNeed {F : MS} {l : List (Int × Int)} {A : Option Addr} {n c : Nat} (h : RdS F RT.need l (.slice A n c)) {i : Nat} {x : Int × Int} (hs : l[i]? = some x) :
    ∃ b o, A = some ⟨b, o, none⟩ ∧ F.at b (o + i * 2) (.int .i64 x.1) ∧ F.at b (o + i * 2 + 1) (.int .i64 x.2) := by
  obtain ⟨b, o, cs, h1, rfl, h3⟩ := h.get hs (show 0 < 2 by omega)
  exact ⟨b, o, h1, h3 0 _ rfl, h3 1 _ rfl⟩
theorem Needs.rd {l : List (Int × Int)} {v : Value} {m : MS} (h : Needs l v m) : RdS m RT.need l v := SlR.rd (T := RT.need) (fun a cs m h => h.1) h
theorem Needs2.rd {l : List (List (Int × Int))} {v : Value} {m : MS} (h : Needs2 l v m) : RdS m (RT.sl RT.need) l v := SlR.rd (T := RT.sl RT.need) (fun a cs m ⟨v, h1, h2, _⟩ => ⟨v, h1, Needs.rd h2⟩) h
/-- The history at block b, as it is read. -/
def RdHist (F : MS) (needs : List (List (Int × Int))) (b : Nat) : Prop := ∃ v, F.at b 1 v ∧ RdS F (RT.sl RT.need) needs v
theorem IsHist.rd {n : Int} {needs : List (List (Int × Int))} {b : Nat} {m : MS} (h : IsHist n needs b m) : RdHist m needs b := by
  obtain ⟨vn, mn, rfl, h1⟩ := h
  exact ⟨vn, blk_at' rfl _, h1.rd.more _⟩
theorem RdHist.more {F : MS} {needs : List (List (Int × Int))} {b : Nat} (h : RdHist F needs b) (X : MS) : RdHist (X + F) needs b := by
  obtain ⟨v, h1, h2⟩ := h
  exact ⟨v, h1.more X, h2.more X⟩
theorem RdHist.less {F : MS} {needs : List (List (Int × Int))} {b : Nat} (h : RdHist F needs b) (X : MS) : RdHist (F + X) needs b := by rw [MS.add_comm]; exact h.more X
theorem size143' : (Try.prog.info? 143).map (·.size) = some 2 := by kernel_rfl
theorem slice_upto (A : Option Addr) (n c k : Nat) (w : World) (hk : k ≤ n) (hn : n ≤ c) :
    (Instr.sliceAt 138 (.slice A n c) none (some (.int .i64 k)) none).run Try.prog w = .ok (.slice A k c) w := by
  obtain ⟨i, hi, hz'⟩ := Option.map_eq_some_iff.1 size143'
  have hs : (sizeOf 143).run Try.prog w = .ok 2 w := by simp [sizeOf, typeInfo, hi, hz']
  cases A with
  | none =>
    have h1 : (k : Int) ≤ c := by omega
    simp [Instr.sliceAt, run_underlying Try.underlying138, Instr.slice, Instr.sliceBounds, Instr.sliceBound, hs, asIntOf, h1]
    intro h; omega
  | some a =>
    have h1 : (k : Int) ≤ c := by omega
    simp [Instr.sliceAt, run_underlying Try.underlying138, Instr.slice, Instr.sliceBounds, Instr.sliceBound, hs, asIntOf, h1]
    rw [if_pos (by omega)]
    split
    · rfl
    · obtain ⟨b, o, s⟩ := a
      simp [Addr.add]
theorem wpSlice {a : Act} {o : Oper} {x hi : Operand} {v : Value} {W : World} (ho : o.op = .slice 138 x none (some hi) none) (h : (Instr.sliceAt 138 (a.eval x) none (some (a.eval hi)) none).run Try.prog W = .ok v W) :
    (execOp a.eval o).run Try.prog W = .ok (.value v) W := by
  simp only [execOp, ho, Option.map, Sem.run_bind, h, Result.andThen, Sem.run_pure]

theorem whole_any {F : MS} {needs : List (List (Int × Int))} {hb : Nat} {cut : List Int} {A : Option Addr} {k c : Nat} {w : World} (hh : RdHist F needs hb) (hc : RdS F RT.int cut (.slice A k c)) (hH : Has w F)
    (hlen : cut.length = needs.length) (n5 : needs.length ≤ 5) (hrow : ∀ r ∈ needs, r.length ≤ 60 ∧ ∀ a ∈ r, 0 ≤ a.1 ∧ a.1 < needs.length ∧ 0 ≤ a.2 ∧ a.2 ≤ 60) :
    Calls Try.prog 80 #[.pointer (some ⟨hb, 0, none⟩), .slice A k c] w fun e w' => e = .returned (.bool (cutOk needs cut)) ∧ (∀ M, Has w M → Has w' M) ∧ Ext w w' := by
  obtain ⟨rfl, _⟩ := hc.cells
  obtain ⟨vn, a1, kn⟩ := hh
  obtain ⟨An, cn, rfl, _⟩ := kn.form
  have f1 := a1.c0 hH
  obtain ⟨n, hn⟩ : ∃ n, n = needs.length := ⟨_, rfl⟩
  rw [← hn] at n5 hlen hrow kn f1
  rw [hlen] at hc ⊢
  obtain ⟨q, hq⟩ : ∃ q, q = cutOk needs cut := ⟨_, rfl⟩
  rw [← hq]
  have Hq := hid hq
  have Hn := hid hn
  have Hc := hid hc
  have Hkn := hid kn
  have HH := hid hH
  have Hrow := hid hrow
  have Hlen := hid hlen
  have n5I : (n : Int) ≤ 5 := by omega
  clear hq hn hc kn hH hrow hlen a1
  go_enter Try.func80, Try.ntmps80
  go_wp2
  clear f1
  go_loopw [14] (fun v wr => ∃ s : Nat, s ≤ n ∧ v = .int .i64 s ∧ (List.range s).all (cutRow needs cut) = true ∧ (∃ X, Has wr (X + MS.all w)) ∧ Ext w wr) (fun v _ => n - (intOf v).toNat)
  case atStart => exact ⟨0, Nat.zero_le _, rfl, rfl, ⟨0, by rw [MS.zero_add]; exact Has.all w⟩, Ext.refl w⟩
  case round =>
    obtain ⟨s, hs, rfl, hall, ⟨X, hX⟩, hE⟩ := hrel
    have Hall := hid hall
    have HX := hid hX
    have HE := hid hE
    have HF := hid (HH.out.of_all hX)
    clear hall hX hE
    by_cases hlt : s < n
    · obtain ⟨r, hr⟩ : ∃ r, needs[s]? = some r := ⟨_, List.getElem?_eq_getElem (by rw [← Hn.out]; exact hlt)⟩
      obtain ⟨b1, o1, Ar, cr, hA1, e1, kr, hcr, _⟩ := Hkn.out.getSl hr
      subst hA1
      have f1 := e1.c0 HF.out
      have hcg := get_getD (l := cut) (j := s) 0 (by rw [Hlen.out]; exact hlt)
      obtain ⟨b2, o2, hA2, e2⟩ := Hc.out.getInt hcg
      subst hA2
      have f2 := e2.c0 HF.out
      obtain ⟨hrl, hra⟩ := Hrow.out r (List.mem_of_getElem? hr)
      have hgd : needs.getD s [] = r := by simp [List.getD, hr]
      have hrowe : cutRow needs cut s = (decide (0 ≤ cut.getD s 0) && (decide (cut.getD s 0 ≤ r.length) && (r.take (cut.getD s 0).toNat).all fun a => decide (a.2 ≤ cut.getD a.1.toNat 0))) := by unfold cutRow; rw [hgd]
      have Hre := hid hrowe
      have Hlt := hid hlt
      have hltI : (s : Int) < n := by omega
      have Hkr := hid kr
      have Hra := hid hra
      clear hr e1 e2 kr hra hlt hgd hrowe hcg
      generalize hcs : cut.getD s 0 = cs at *
      have hrlI : (r.length : Int) ≤ 60 := by omega
      by_cases h0 : cs < 0
      · have hf := hid (show q = false by rw [Hq.out]; unfold cutOk; rw [← Hn.out]; exact all_range_false Hlt.out (by rw [Hre.out, decide_eq_false (by omega)]; rfl))
        go_wp2
        go_ret
        exact ⟨by rw [hf.out]; rfl, fun M hM => hM.of_all HX.out, HE.out⟩
      · by_cases h1 : (r.length : Int) < cs
        · have hf := hid (show q = false by rw [Hq.out]; unfold cutOk; rw [← Hn.out]; exact all_range_false Hlt.out (by rw [Hre.out, decide_eq_true (show 0 ≤ cs by omega), decide_eq_false (show ¬ cs ≤ r.length by omega)]; rfl))
          go_wp2
          go_ret
          exact ⟨by rw [hf.out]; rfl, fun M hM => hM.of_all HX.out, HE.out⟩
        · obtain ⟨ci, rfl⟩ := Int.eq_ofNat_of_zero_le (show 0 ≤ cs by omega)
          have hci : ci ≤ r.length := by omega
          go_wp2_with (refine wpList_run rfl (.slice Ar ci cr) _ (wpSlice rfl (slice_upto Ar r.length cr ci _ hci hcr)) ?_)
          clear f1 f2
          go_loopw [40] (fun v wq => ∃ j : Nat, j ≤ ci ∧ v = .int .i64 j ∧ ((r.take j).all fun a => decide (a.2 ≤ cut.getD a.1.toNat 0)) = true ∧ (∃ X, Has wq (X + MS.all w)) ∧ Ext w wq) (fun v _ => ci - (intOf v).toNat)
          case atStart => exact ⟨0, Nat.zero_le _, rfl, rfl, ⟨X, HX.out⟩, HE.out⟩
          case round =>
            obtain ⟨j, hj, rfl, hal, ⟨Y, hY⟩, hE2⟩ := hrel
            have Hal := hid hal
            have HY := hid hY
            have HE2 := hid hE2
            have HF2 := hid (HH.out.of_all hY)
            clear hal hY hE2
            by_cases hjl : j < ci
            · obtain ⟨x, hx⟩ : ∃ x, r[j]? = some x := ⟨_, List.getElem?_eq_getElem (by omega)⟩
              obtain ⟨b3, o3, hA3, e3, e4⟩ := Hkr.out.getNeed hx
              subst hA3
              obtain ⟨x0, x1, x2, x3⟩ := Hra.out x (List.mem_of_getElem? hx)
              have f3 := e3.c0 HF2.out
              have f4 := e4.c0 HF2.out
              have hfb := World.block_lt_of_cell? _ _ f3
              simp only at hfb
              have hmore : (r.take (j + 1)).all (fun a => decide (a.2 ≤ cut.getD a.1.toNat 0)) = ((r.take j).all (fun a => decide (a.2 ≤ cut.getD a.1.toNat 0)) && decide (x.2 ≤ cut.getD x.1.toNat 0)) := by
                rw [take_more hx, List.all_append]; simp
              have hbadm : decide (x.2 ≤ cut.getD x.1.toNat 0) = false → (r.take ci).all (fun a => decide (a.2 ≤ cut.getD a.1.toNat 0)) = false := fun hf => by
                rw [List.all_eq_false]
                exact ⟨x, List.mem_of_getElem? (show (r.take ci)[j]? = some x by rw [List.getElem?_take_of_lt hjl]; exact hx), by show ¬ (decide (x.2 ≤ cut.getD x.1.toNat 0) = true); rw [hf]; decide⟩
              have Hmore := hid hmore
              have Hbadm := hid hbadm
              generalize x.1 = p1 at *
              generalize x.2 = p2 at *
              obtain ⟨ai, rfl⟩ := Int.eq_ofNat_of_zero_le x0
              rw [Int.toNat_natCast] at Hmore Hbadm
              have hai : ai < n := by omega
              have haI : (ai : Int) < n := x1
              obtain ⟨b4, o4, hA4, e5⟩ := Hc.out.getInt (get_getD (l := cut) (j := ai) 0 (by rw [Hlen.out]; exact hai))
              simp only [Option.some.injEq, Addr.mk.injEq] at hA4
              obtain ⟨rfl, rfl, _⟩ := hA4
              have HA := hid (HY.out.alloc (.cells #[.int .i64 ai, .int .i64 p2] 143))
              have keep : ∀ (W : World) (Z : MS), Has W (Z + (blk wr.heap.size #[.int .i64 ai, .int .i64 p2] 143 + (Y + MS.all w))) → W.cell? ⟨wr.heap.size, 0, none⟩ = some (.int .i64 ai) ∧ W.cell? ⟨wr.heap.size, 1, none⟩ = some (.int .i64 p2) ∧ W.cell? ⟨b2, o2 + ai, none⟩ = some (.int .i64 (cut.getD ai 0)) := fun W Z h =>
                have h1 := h.eq (b := blk wr.heap.size #[.int .i64 ai, .int .i64 p2] 143 + (Z + (Y + MS.all w))) (by ac_rfl)
                ⟨h1.at_ rfl, h1.at_ rfl, e5.c0 (HH.out.of_all (h.eq (b := (Z + (blk wr.heap.size #[.int .i64 ai, .int .i64 p2] 143 + Y)) + MS.all w) (by ac_rfl)))⟩
              have hS := keep (wr.alloc (.cells #[.int .i64 ai, .int .i64 p2] 143)).drew 0 (by rw [MS.zero_add]; exact HA.out.drew)
              have Hjl := hid hjl
              have hjI : (j : Int) < ci := by omega
              have hjr : (j : Int) < r.length := by omega
              clear keep hx e3 e4 e5 hmore hbadm hjl
              generalize cut.getD ai 0 = ca at *
              have HEA := hid (HE2.out.trans (Ext.alloc wr (.cells #[.int .i64 ai, .int .i64 p2] 143)))
              by_cases hlt2 : ca < p2
              · have hf := hid (show q = false by rw [Hq.out]; unfold cutOk; rw [← Hn.out]; exact all_range_false Hlt.out (by rw [Hre.out, Int.toNat_natCast, Hbadm.out (decide_eq_false (by omega))]; simp))
                go_wp2
                clear f3 f4 hfb
                generalize wr.heap.size = g8 at *
                generalize wr.alloc _ = wa at *
                refine wp_region_txt (fun W => W.cell? ⟨g8, 0, none⟩ = some (.int .i64 ai) ∧ W.cell? ⟨g8, 1, none⟩ = some (.int .i64 p2) ∧ W.cell? ⟨b2, o2 + ai, none⟩ = some (.int .i64 ca)) none
                  [(0, true), (1, true), (2, true), (3, true), (4, true), (5, true), (6, true), (7, true)] (by kernel_rfl) rfl (by kernel_rfl) (by kernel_rfl) (by repeat (first | with_reducible refine PanicOk.thn ?_ | with_reducible refine PanicOk.blk ?_ | exact PanicOk.body _ _ _)) ?_
                repeat
                  (refine txt_quiet ?_ hS rfl rfl (fun W hW => ?_) ?_
                   rotate_left 1
                   · obtain ⟨hW1, hW2, hW3⟩ := hW
                     go_simp
                     exact rfl
                   simp only [Act.put, List.setIfInBounds_toArray, List.set_cons_zero, List.set_cons_succ])
                refine txt_done ?_
                clear hS
                go_wp2
                go_ret
                exact ⟨by rw [hf.out]; rfl, fun M hM => hM.of_all (HA.out.drew.eq (MS.add_assoc _ _ _).symm), HEA.out.trans (Ext.drew _)⟩
              · have hg := hid (show decide (p2 ≤ ca) = true from decide_eq_true (by omega))
                go_wp2
                clear f3 f4 hfb
                generalize wr.heap.size = g8 at *
                generalize wr.alloc _ = wa at *
                refine wp_region_txt (fun W => W.cell? ⟨g8, 0, none⟩ = some (.int .i64 ai) ∧ W.cell? ⟨g8, 1, none⟩ = some (.int .i64 p2) ∧ W.cell? ⟨b2, o2 + ai, none⟩ = some (.int .i64 ca)) none
                  [(0, true), (1, true), (2, true), (3, true), (4, true), (5, true), (6, true), (7, true)] (by kernel_rfl) rfl (by kernel_rfl) (by kernel_rfl) (by repeat (first | with_reducible refine PanicOk.thn ?_ | with_reducible refine PanicOk.blk ?_ | exact PanicOk.body _ _ _)) ?_
                repeat
                  (refine txt_quiet ?_ hS rfl rfl (fun W hW => ?_) ?_
                   rotate_left 1
                   · obtain ⟨hW1, hW2, hW3⟩ := hW
                     go_simp
                     exact rfl
                   simp only [Act.put, List.setIfInBounds_toArray, List.set_cons_zero, List.set_cons_succ])
                refine txt_done ?_
                clear hS
                go_wp2
                go_roundw
                case rel => exact ⟨j + 1, Hjl.out, by go_num, by rw [Hmore.out, Hal.out, hg.out]; rfl, ⟨_, HA.out.drew.eq (MS.add_assoc _ _ _).symm⟩, HEA.out.trans (Ext.drew _)⟩
                case measure => have := Hjl.out; simp [intOf]; omega
            · obtain rfl : j = ci := by omega
              go_wp2
              go_roundw
              case rel => exact ⟨s + 1, Hlt.out, by go_num, by rw [all_range_succ, Hall.out, Hre.out, Int.toNat_natCast, Hal.out, decide_eq_true (show (0 : Int) ≤ j by omega), decide_eq_true (show (j : Int) ≤ r.length by omega)]; rfl, ⟨Y, HY.out⟩, HE2.out⟩
              case measure => have := Hlt.out; simp [intOf]; omega
    · obtain rfl : s = n := by omega
      have hf := hid (show q = true by rw [Hq.out]; unfold cutOk; rw [← Hn.out]; exact Hall.out)
      go_wp2
      go_ret
      exact ⟨by rw [hf.out]; rfl, fun M hM => hM.of_all HX.out, HE.out⟩

/-! ### Consistent -/
def conR (n : Int) (l : List Ev) (cut : List Int) : Bool × Int :=
  if recErr n l ≠ 0 then (false, recErr n l) else if (cut.length : Int) ≠ n then (false, 2) else (match Hist.run n (Hist.zero n.toNat) l with | none => false | some h => cutOk h.needs cut, 0)
theorem at_all {F : MS} {b i : Nat} {u : Value} {w : World} (h : F.at b i u) (hH : Has w F) : (MS.all w).at b i u := by
  obtain ⟨cs, e, fz, h1, h2⟩ := h
  exact ⟨cs, e, fz, (hH b).2.2 _ (.inl h1), h2⟩
theorem rd_all {α : Type} {T : RT α} {F : MS} {w : World} (hT : ∀ a cs, T.rel F a cs → T.rel (MS.all w) a cs) {l : List α} {v : Value} (h : RdS F T l v) (hH : Has w F) : RdS (MS.all w) T l v := by
  obtain ⟨A, c, xs, h1, h2, h3, h4, h5⟩ := h
  refine ⟨A, c, xs, h1, h2, h3, fun hne => ?_, h5.mono hT⟩
  obtain ⟨b, o, k1, k2⟩ := h4 hne
  exact ⟨b, o, k1, fun j u hu => at_all (k2 j u hu) hH⟩
theorem rd_all_ints {F : MS} {w : World} {l : List Int} {v : Value} (h : RdS F RT.int l v) (hH : Has w F) : RdS (MS.all w) RT.int l v := rd_all (F := F) (T := RT.int) (fun _ _ h => h) h hH
theorem rd_all_evs {F : MS} {w : World} {l : List Ev} {v : Value} (h : RdS F RT.ev l v) (hH : Has w F) : RdS (MS.all w) RT.ev l v :=
  rd_all (F := F) (T := RT.ev) (fun _ _ ⟨vc, h1, h2⟩ => ⟨vc, h1, rd_all_ints h2 hH⟩) h hH
theorem recErr_cases (n : Int) (l : List Ev) : recErr n l ≠ 0 ∨ (recErr n l = 0 ∧ ∃ k h, n = (k : Nat) ∧ 2 ≤ k ∧ k ≤ 5 ∧ l.length ≤ 60 ∧ Hist.run n (Hist.zero k) l = some h) := by
  unfold recErr
  by_cases h1 : n < 2 ∨ 5 < n
  · rw [if_pos h1]; exact .inl (by decide)
  · rw [if_neg h1]
    by_cases h2 : 60 < l.length
    · rw [if_pos h2]; exact .inl (by decide)
    · rw [if_neg h2]
      obtain ⟨k, rfl⟩ := Int.eq_ofNat_of_zero_le (show 0 ≤ n by omega)
      rw [Int.toNat_natCast]
      cases hr : Hist.run k (Hist.zero k) l with
      | none => exact .inl (by decide)
      | some h => exact .inr ⟨rfl, k, h, rfl, by omega, by omega, by omega, hr⟩
theorem recalled_err {F : MS} {n : Int} {l : List Ev} {A : Option Addr} {k c : Nat} {w : World} (hr : RdS F RT.ev l (.slice A k c)) (hH : Has w F) (he : recErr n l ≠ 0) :
    Calls Try.prog 79 #[.int .i64 n, .slice A k c] w fun e w' => e = .returned (.tuple #[.pointer none, .int .i64 (recErr n l)]) ∧ Has w' F ∧ Ext w w' := by
  refine (recalled_any hr hH).mono ?_
  rintro e w1 (⟨_, rfl, k2, k3⟩ | ⟨kk, _, _, _, rfl, h2, h5, h60, hrun, _⟩)
  · exact ⟨rfl, k2, k3⟩
  · exact absurd (by unfold recErr; rw [if_neg (by omega), if_neg (by omega), Int.toNat_natCast, hrun]) he
theorem recalled_ok {F : MS} {n : Nat} {l : List Ev} {h : Hist} {A : Option Addr} {k c : Nat} {w : World} (hr : RdS F RT.ev l (.slice A k c)) (hH : Has w F) (h2 : 2 ≤ n) (h5 : n ≤ 5) (h60 : l.length ≤ 60) (hrun : Hist.run n (Hist.zero n) l = some h) :
    Calls Try.prog 79 #[.int .i64 n, .slice A k c] w fun e w' => ∃ hb m, e = .returned (.tuple #[.pointer (some ⟨hb, 0, none⟩), .int .i64 0]) ∧ IsHist n h.needs hb m ∧ Has w' (m + F) ∧ Ext w w' := by
  refine (recalled_any hr hH).mono ?_
  rintro e w1 (⟨he, _⟩ | ⟨kk, h', hb, m, hkk, _, _, _, hrun', _, rfl, k1, k2, k3⟩)
  · exact absurd (by unfold recErr; rw [if_neg (by omega), if_neg (by omega), Int.toNat_natCast, hrun]) he
  · obtain rfl : kk = n := by omega
    rw [hrun] at hrun'
    injection hrun' with hrun'
    subst hrun'
    exact ⟨hb, m, rfl, k1, k2, k3⟩
theorem hist_ok {n : Nat} (n0 : 0 < n) : ∀ {l : List Ev} {h : Hist} {k : Nat} {h0 : Hist}, HistOk n k h0 → Hist.run n h0 l = some h → HistOk n (k + l.length) h
  | [], h, k, h0, ho, hr => by simp only [Hist.run, Option.some.injEq] at hr; subst hr; exact ho
  | e :: l, h, k, h0, ho, hr => by
    simp only [Hist.run] at hr
    cases hs : h0.step n e with
    | none => rw [hs] at hr; cases hr
    | some h1 =>
      rw [hs] at hr
      have := hist_ok n0 (ho.step n0 hs) hr
      rw [List.length_cons, show k + (l.length + 1) = k + 1 + l.length by omega]
      exact this
theorem consistent_any {F : MS} {n : Int} {l : List Ev} {A A2 : Option Addr} {k c k2 c2 : Nat} {cut : List Int} {w : World} (hr : RdS F RT.ev l (.slice A k c)) (hc : RdS F RT.int cut (.slice A2 k2 c2)) (hH : Has w F) :
    Calls Try.prog 37 #[.int .i64 n, .slice A k c, .slice A2 k2 c2] w fun e w' => e = .returned (.tuple #[.bool (conR n l cut).1, .int .i64 (conR n l cut).2]) ∧ (∀ M, Has w M → Has w' M) ∧ Ext w w' := by
  obtain ⟨rfl, hcc1, hcc2, _⟩ := hc.cells
  have Hr := hid (rd_all_evs hr hH)
  have Hc := hid (rd_all_ints hc hH)
  have qm : (cut.length : Int) ≤ 9223372036854775807 := by unfold maxLen at hcc2; omega
  clear hr hc hH hcc1 hcc2
  rcases recErr_cases n l with he | ⟨he, kk, h, rfl, h2, h5, h60, hrun⟩
  · have e : conR n l cut = (false, recErr n l) := by unfold conR; rw [if_pos he]
    rw [e]
    have hne : (recErr n l != 0) = true := by simp [he]
    have Hrec := hid (recalled_err Hr.out (Has.all w) he)
    clear e he
    generalize recErr n l = re at *
    go_enter Try.func37, Try.ntmps37
    go_wp2_with (go_at_call 79; refine Hrec.out.mono ?_; rintro e w1 ⟨rfl, k2, k3⟩; have K2 := hid k2; have K3 := hid k3; clear k2 k3)
    go_ret2
    exact ⟨rfl, fun M hM => hM.of_all (X := 0) (by rw [MS.zero_add]; exact K2.out), K3.out⟩
  · have Hrec := hid (recalled_ok Hr.out (Has.all w) h2 h5 h60 hrun)
    have ho := hist_ok (by omega) (HistOk.zero kk) hrun
    by_cases hl : (cut.length : Int) = kk
    · have e : conR kk l cut = (cutOk h.needs cut, 0) := by unfold conR; rw [if_neg (by rw [he]; decide), if_neg (by rw [hl]; simp), Int.toNat_natCast, hrun]
      rw [e]
      have hne : ((cut.length : Int) != (kk : Int)) = false := by simp [hl]
      have hlen : cut.length = h.needs.length := by rw [ho.len]; omega
      have n5 : h.needs.length ≤ 5 := by rw [ho.len]; exact h5
      have hrow : ∀ r ∈ h.needs, r.length ≤ 60 ∧ ∀ a ∈ r, 0 ≤ a.1 ∧ a.1 < h.needs.length ∧ 0 ≤ a.2 ∧ a.2 ≤ 60 := fun r hr => by
        obtain ⟨x1, x2⟩ := ho.row r hr
        rw [ho.len]
        exact ⟨by omega, fun a ha => by obtain ⟨y1, y2, y3, y4⟩ := x2 a ha; exact ⟨y1, y2, y3, by omega⟩⟩
      have Hx := hid (And.intro hlen (And.intro n5 hrow))
      clear e he ho hrun hl hlen n5 hrow
      go_enter Try.func37, Try.ntmps37
      go_wp2_with (first
        | (go_at_call 79; refine Hrec.out.mono ?_; rintro e w1 ⟨hb, m, rfl, k1, k2, k3⟩; have K1 := hid k1; have K2 := hid k2; have K3 := hid k3; clear k1 k2 k3)
        | (go_at_call 80; refine (whole_any (K1.out.rd.less (MS.all w)) (Hc.out.more m) K2.out Hx.out.1 Hx.out.2.1 Hx.out.2.2).mono ?_; rintro e w2 ⟨rfl, k2, k3⟩; have K4 := hid (k2 _ K2.out); have K5 := hid (K3.out.trans k3); clear k2 k3))
      go_ret2
      exact ⟨rfl, fun M hM => hM.of_all K4.out, K5.out⟩
    · have e : conR kk l cut = (false, 2) := by unfold conR; rw [if_neg (by rw [he]; decide), if_pos hl]
      rw [e]
      have hne : ((cut.length : Int) != (kk : Int)) = true := by simp; omega
      clear e he ho hrun hl
      go_enter Try.func37, Try.ntmps37
      go_wp2_with (go_at_call 79; refine Hrec.out.mono ?_; rintro e w1 ⟨hb, m, rfl, k1, k2, k3⟩; have K2 := hid k2; have K3 := hid k3; clear k1 k2 k3)
      go_ret2
      exact ⟨rfl, fun M hM => hM.of_all K2.out, K3.out⟩
end Go.Proofs.Ytnkgfgkgepadhaa

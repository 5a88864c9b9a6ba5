/-
  The walk of the reference's New.
-/
import Derived.Test.YtnkgfgkgepadhaaRefStart
namespace Go.Proofs.Ytnkgfgkgepadhaa
open Go.RowKit
set_option linter.unusedVariables false
set_option linter.unusedSimpArgs false
set_option maxHeartbeats 4000000
set_option maxRecDepth 100000

theorem rows_noRLines (F : MS) : ∀ n : Nat, RowsR (El (RLine F)) (List.replicate n []) (List.replicate n (.slice none 0 0)) 0
  | 0 => RowsR.nil
  | n + 1 => ⟨[.slice none 0 0], 0, _, 0, ⟨_, rfl, RLine.nil F, rfl⟩, rows_noRLines F n, rfl, (MS.zero_add 0).symm⟩
theorem made_rlines (F : MS) {n : Nat} {v : Value} {m : MS} (h : Sl 125 1 v n (madeCells (Value.slice none 0 0).cells (n * 1)).toList m) : RLines F (List.replicate n []) v m := by
  have e : (madeCells (Value.slice none 0 0).cells (n * 1)).toList = List.replicate n (.slice none 0 0) := by
    rw [Nat.mul_one]; exact toList_madeCells_one (.slice none 0 0) n
  rw [e] at h
  exact ⟨_, m, 0, by simpa using h, rows_noRLines F n, (MS.add_zero m).symm⟩
def RNewPost (F : MS) (w : World) (l : List Int) (e : Ending) (w' : World) : Prop :=
  (newOk l ∧ ∃ b m, e = .returned (.tuple #[.pointer (some ⟨b, 0, none⟩), .int .i64 0]) ∧ IsRef F (Net.new l) b m ∧ Has w' (m + F) ∧ Ext w w') ∨
  (¬ newOk l ∧ e = .returned (.tuple #[.pointer none, .int .i64 2]) ∧ Has w' F ∧ Ext w w')
/-- What the loop of New keeps. -/
def RNewInv (F : MS) (w : World) (b n : Nat) (l : List Int) (v : Value) (wr : World) : Prop :=
  ∃ t : Nat, t ≤ n ∧ v = .int .i64 t ∧ (l.take t).any badP = false ∧ ∃ v0 m0 v1 m1 v2 m2, Ints (l.take t) v0 m0 ∧ Ints2 (List.replicate t (List.replicate n 0)) v1 m1 ∧ RChans F (List.replicate t (List.replicate n [])) v2 m2 ∧
    Has wr (blk b #[v0, v1, v2, .slice none 0 0, .slice none 0 0] 118 + (m0 + (m1 + (m2 + F)))) ∧ Ext w wr
theorem any_take_more {l : List Int} {t : Nat} {a : Int} (h : l[t]? = some a) : (l.take (t + 1)).any badP = ((l.take t).any badP || badP a) := by
  rw [take_more h, List.any_append]; simp
theorem new_helds (l : List Int) : (Net.new l).helds = l := by
  simp only [Net.helds, Net.new, List.map_map]
  exact (List.map_congr_left (fun a _ => rfl)).trans (List.map_id l)
theorem new_clocks (l : List Int) : (Net.new l).clocks = List.replicate l.length (List.replicate l.length 0) := by
  simp only [Net.clocks, Net.new, List.map_map]
  exact List.map_eq_replicate_iff.2 fun a _ => rfl

theorem rnew_any {F : MS} {l : List Int} {A : Option Addr} {k c : Nat} {w : World} (h : RdS F RT.int l (.slice A k c)) (hH : Has w F) :
    Calls Try.prog 29 #[.slice A k c] w (RNewPost F w l) := by
  obtain ⟨rfl, _⟩ := h.cells
  have HH := hid hH
  have Hr := hid h
  clear h hH
  by_cases h2 : (l.length : Int) < 2
  · have hno := hid (show ¬ newOk l from fun h => by have := h.1; omega)
    go_enter Try.func29, Try.ntmps29
    go_wp2
    go_ret2
    exact .inr ⟨hno.out, rfl, HH.out, Ext.refl w⟩
  · by_cases h5 : (5 : Int) < l.length
    · have hno := hid (show ¬ newOk l from fun h => by have := h.2.1; omega)
      go_enter Try.func29, Try.ntmps29
      go_wp2
      go_ret2
      exact .inr ⟨hno.out, rfl, HH.out, Ext.refl w⟩
    · obtain ⟨n, hn⟩ : ∃ n, n = l.length := ⟨_, rfl⟩
      have HB := HH.out.alloc (.cells #[.slice none 0 0, .slice none 0 0, .slice none 0 0, .slice none 0 0, .slice none 0 0] 118)
      have HEB := Ext.alloc w (.cells #[.slice none 0 0, .slice none 0 0, .slice none 0 0, .slice none 0 0, .slice none 0 0] 118)
      have hgb : w.heap.size = w.heap.size := rfl
      rw [← hn] at h2 h5 ⊢
      have Hn := hid hn
      have n5I : (n : Int) ≤ 5 := by omega
      have n5 : n ≤ 5 := by omega
      have n2 : 2 ≤ n := by omega
      clear hn
      go_enter Try.func29, Try.ntmps29
      go_wp2
      generalize hbb : w.heap.size = b at *
      clear hbb hgb
      generalize w.alloc _ = w1 at *
      have HI := hid (show RNewInv F w b n l (.int .i64 0) w1 from ⟨0, Nat.zero_le _, rfl, rfl, .slice none 0 0, 0, .slice none 0 0, 0, .slice none 0 0, 0, SlR.empty _ _ _, SlR.empty _ _ _, SlR.empty _ _ _, by
        rw [MS.zero_add, MS.zero_add, MS.zero_add]; exact HB, HEB⟩)
      clear HB HEB
      go_loopw [6] (fun v wr => RNewInv F w b n l v wr) (fun v _ => n - (intOf v).toNat)
      case atStart => exact HI.out
      case round =>
        obtain ⟨t, ht, rfl, hall, v0, m0, v1, m1, v2, m2, h0, h1, h2', hHt, hEt⟩ := hrel
        obtain ⟨A0, c0, rfl, _⟩ := SlR.form h0
        obtain ⟨A1, c1, rfl, _⟩ := SlR.form h1
        obtain ⟨A2, c2, rfl, _⟩ := SlR.form h2'
        have hl0 : (l.take t).length = t := by rw [List.length_take, ← Hn.out]; omega
        rw [hl0] at h0 hHt
        simp only [List.length_replicate] at h1 h2' hHt
        have Hall := hid hall
        have H0 := hid h0
        have H1 := hid h1
        have H2 := hid h2'
        have HEt := hid hEt
        have HHt := hid hHt
        have Hl0 := hid hl0
        clear hall h0 h1 h2' hEt hHt hl0
        by_cases hlt : t < n
        · obtain ⟨u, hu⟩ : ∃ u, l[t]? = some u := ⟨_, List.getElem?_eq_getElem (by rw [← Hn.out]; exact hlt)⟩
          obtain ⟨bl, ol, hA, e1⟩ := Hr.out.getInt hu
          subst hA
          have lift : ∀ (W : World) (X : MS), Has W (X + F) → W.cell? ⟨bl, ol + t, none⟩ = some (.int .i64 u) := fun W X h => e1.cell h
          have f1 := lift wr (blk b #[.slice A0 t c0, .slice A1 t c1, .slice A2 t c2, .slice none 0 0, .slice none 0 0] 118 + (m0 + (m1 + m2))) (HHt.out.eq (by ac_rfl))
          have hltI : (t : Int) < n := by omega
          have Hlt := hid hlt
          have Hmore := hid (any_take_more hu)
          have Htk := hid (take_more hu)
          have Hlift := hid lift
          have hbad : u < 0 ∨ 1000000 < u → ¬ newOk l := fun hb hok => by
            have := hok.2.2
            rw [List.any_eq_false] at this
            exact this u (List.mem_of_getElem? hu) (by simp [badP, hb])
          have Hbad := hid hbad
          clear hu e1 lift hbad hlt
          by_cases hu0 : u < 0
          · go_wp2
            go_ret2
            exact .inr ⟨Hbad.out (.inl hu0), rfl, (HHt.out.eq (b := (blk b #[.slice A0 t c0, .slice A1 t c1, .slice A2 t c2, .slice none 0 0, .slice none 0 0] 118 + (m0 + (m1 + m2))) + F) (by ac_rfl)).right, HEt.out⟩
          · by_cases hu1 : 1000000 < u
            · go_wp2
              go_ret2
              exact .inr ⟨Hbad.out (.inr hu1), rfl, (HHt.out.eq (b := (blk b #[.slice A0 t c0, .slice A1 t c1, .slice A2 t c2, .slice none 0 0, .slice none 0 0] 118 + (m0 + (m1 + m2))) + F) (by ac_rfl)).right, HEt.out⟩
            · have Hgood := hid (show badP u = false by simp [badP, hu0, hu1])
              clear Hbad
              go_wp2_with (fail)
              clear f1
              have H3 := hid (show Has wr.drew (blk b #[.slice A0 t c0, .slice A1 t c1, .slice A2 t c2, .slice none 0 0, .slice none 0 0] 118 + (m0 + (m1 + (m2 + F)))) from HHt.out.drew)
              have keep : ∀ (W : World) (X : MS), Has W (X + (blk b #[.slice A0 t c0, .slice A1 t c1, .slice A2 t c2, .slice none 0 0, .slice none 0 0] 118 + (m1 + (m2 + F)))) → W.cell? ⟨b, 0, none⟩ = some (.slice A0 t c0) ∧ W.cell? ⟨bl, ol + t, none⟩ = some (.int .i64 u) := fun W X h =>
                ⟨(h.eq (b := blk b #[.slice A0 t c0, .slice A1 t c1, .slice A2 t c2, .slice none 0 0, .slice none 0 0] 118 + (X + (m1 + (m2 + F)))) (by ac_rfl)).at_ rfl, Hlift.out W (X + (blk b #[.slice A0 t c0, .slice A1 t c1, .slice A2 t c2, .slice none 0 0, .slice none 0 0] 118 + (m1 + m2))) (h.eq (by ac_rfl))⟩
              have hS := keep wr.drew m0 (H3.out.eq (by ac_rfl))
              refine wp_region_txt (fun W => W.cell? ⟨b, 0, none⟩ = some (.slice A0 t c0) ∧ W.cell? ⟨bl, ol + t, none⟩ = some (.int .i64 u)) (some 13)
                [(0, true), (1, true), (2, true), (3, true), (4, true), (5, true), (6, true), (7, true), (8, true), (9, false), (10, false), (11, true), (12, true), (13, false)] (by kernel_rfl) rfl (by kernel_rfl) (by kernel_rfl) (by repeat (first | with_reducible refine PanicOk.thn ?_ | with_reducible refine PanicOk.blk ?_ | exact PanicOk.body _ _ _)) ?_
              repeat
                (refine txt_quiet ?_ hS rfl rfl (fun W hW => ?_) ?_
                 rotate_left 1
                 · obtain ⟨hW1, hW2⟩ := hW
                   go_simp
                   exact rfl
                 simp only [Act.put, List.setIfInBounds_toArray, List.set_cons_zero, List.set_cons_succ])
              refine txt_op rfl rfl ?_
              refine op_run (.slice (some ⟨wr.heap.size, 0, none⟩) 1 1) (wr.drew.alloc (.cells #[.int .i64 u] 3)) (by go_simp) ?_
              have hS6 := keep (wr.drew.alloc (.cells #[.int .i64 u] 3)) (pts wr.heap.size (.cells #[.int .i64 u] 3) + m0) ((H3.out.alloc _).eq (by show pts wr.heap.size _ + _ = _; ac_rfl))
              refine ⟨fun _ => hS6, ?_⟩
              simp only [Act.put, List.setIfInBounds_toArray, List.set_cons_zero, List.set_cons_succ]
              clear hS
              refine txt_op rfl rfl ?_
              refine op_push (.tmp 38) (.tmp 43) row22 rfl (.slice A0 t c0) rfl _ rfl rfl (El IntV) El.one El.len (l.take t) u m0 0 _ H0.out ⟨_, rfl, ⟨rfl, rfl⟩, rfl⟩ (H3.out.eq (b := m0 + (0 + (blk b #[.slice A0 t c0, .slice A1 t c1, .slice A2 t c2, .slice none 0 0, .slice none 0 0] 118 + (m1 + (m2 + F))))) (by rw [MS.zero_add]; ac_rfl)) t Hl0.out (by omega) (by omega) ?_
              intro B0 d0 w7 m7 j4 j5 j6
              have hS7 := keep w7 m7 j5
              refine ⟨fun _ => hS7, ?_⟩
              simp only [Act.put, List.setIfInBounds_toArray, List.set_cons_zero, List.set_cons_succ]
              clear hS6
              repeat
                (refine txt_quiet ?_ hS7 rfl rfl (fun W hW => ?_) ?_
                 rotate_left 1
                 · obtain ⟨hW1, hW2⟩ := hW
                   go_simp
                   exact rfl
                 simp only [Act.put, List.setIfInBounds_toArray, List.set_cons_zero, List.set_cons_succ])
              refine txt_op rfl rfl ?_
              refine op_store_blk (.tmp 46) (.tmp 44) 22 rfl size22 b 0 (.slice B0 (t + 1) d0) rfl rfl rfl #[.slice A0 t c0, .slice A1 t c1, .slice A2 t c2, .slice none 0 0, .slice none 0 0] 118 (m7 + (m1 + (m2 + F))) (j5.eq (by ac_rfl)) (by simp) ?_
              intro w8 j7 j8
              refine ⟨fun h => absurd rfl h, ?_⟩
              simp only [Act.put]
              refine txt_done ?_
              have K8 := hid (show Has w8.drew (blk b #[.slice B0 (t + 1) d0, .slice A1 t c1, .slice A2 t c2, .slice none 0 0, .slice none 0 0] 118 + (m7 + (m1 + (m2 + F)))) from j7.drew)
              have E8 := hid (((HEt.out.trans (Ext.drew _)).trans j6).trans j8)
              have G0 := hid (show Ints (l.take (t + 1)) (.slice B0 (t + 1) d0) m7 by rw [Htk.out]; exact j4)
              clear keep hS7 j4 j5 j6 j7 j8 H3 H0 HEt HHt
              go_wp2
              have keep : ∀ (W : World) (X : MS), Has W (X + (blk b #[.slice B0 (t + 1) d0, .slice A1 t c1, .slice A2 t c2, .slice none 0 0, .slice none 0 0] 118 + (m7 + (m2 + F)))) → W.cell? ⟨b, 1, none⟩ = some (.slice A1 t c1) := fun W X h => (h.eq (b := blk b #[.slice B0 (t + 1) d0, .slice A1 t c1, .slice A2 t c2, .slice none 0 0, .slice none 0 0] 118 + (X + (m7 + (m2 + F)))) (by ac_rfl)).at_ rfl
              have hS := keep w8.drew m1 (K8.out.eq (by ac_rfl))
              refine wp_region_txt (fun W => W.cell? ⟨b, 1, none⟩ = some (.slice A1 t c1)) (some 11)
                [(0, true), (1, true), (2, true), (3, true), (4, true), (5, true), (6, false), (7, false), (8, false), (9, true), (10, true), (11, false)] (by kernel_rfl) rfl (by kernel_rfl) (by kernel_rfl) (by repeat (first | with_reducible refine PanicOk.thn ?_ | with_reducible refine PanicOk.blk ?_ | exact PanicOk.body _ _ _)) ?_
              repeat
                (refine txt_quiet ?_ hS rfl rfl (fun W hW => ?_) ?_
                 rotate_left 1
                 · obtain hW1 := hW
                   go_simp
                   exact rfl
                 simp only [Act.put, List.setIfInBounds_toArray, List.set_cons_zero, List.set_cons_succ])
              refine txt_op rfl rfl ?_
              refine op_make_sl (.tmp 52) (.tmp 52) 22 rfl 3 _ 1 8 Try.underlying22 info3 .i64 .i64 n rfl rfl (by omega) (by simp only [maxLen]; omega) _ K8.out ?_
              intro v5 w5 m5 h51 H5 E5 _
              obtain ⟨A5, c5, rfl, _⟩ := h51.form
              have hS5 := keep w5 (m5 + m1) (H5.eq (by ac_rfl))
              refine ⟨fun _ => hS5, ?_⟩
              simp only [Act.put, List.setIfInBounds_toArray, List.set_cons_zero, List.set_cons_succ]
              clear hS
              refine txt_op rfl rfl ?_
              refine op_run (.slice (some ⟨w5.heap.size, 0, none⟩) 1 1) (w5.alloc (.cells #[.slice A5 n c5] 22)) (by go_simp) ?_
              have hS6 := keep (w5.alloc (.cells #[.slice A5 n c5] 22)) (pts w5.heap.size (.cells #[.slice A5 n c5] 22) + (m5 + m1)) ((H5.alloc _).eq (by ac_rfl))
              refine ⟨fun _ => hS6, ?_⟩
              simp only [Act.put, List.setIfInBounds_toArray, List.set_cons_zero, List.set_cons_succ]
              clear hS5
              refine txt_op rfl rfl ?_
              refine op_push (.tmp 51) (.tmp 54) row44 rfl (.slice A1 t c1) rfl _ rfl rfl (El Ints) El.one El.len (List.replicate t (List.replicate n 0)) (List.replicate n 0) m1 m5 _ H1.out ⟨_, rfl, made_ints h51, rfl⟩ (H5.eq (b := m1 + (m5 + (blk b #[.slice B0 (t + 1) d0, .slice A1 t c1, .slice A2 t c2, .slice none 0 0, .slice none 0 0] 118 + (m7 + (m2 + F))))) (by ac_rfl)) t (by simp) (by omega) (by omega) ?_
              intro B1 d1 w10a m10 j4 j5 j6
              have hS7 := keep w10a m10 j5
              refine ⟨fun _ => hS7, ?_⟩
              simp only [Act.put, List.setIfInBounds_toArray, List.set_cons_zero, List.set_cons_succ]
              clear hS6
              repeat
                (refine txt_quiet ?_ hS7 rfl rfl (fun W hW => ?_) ?_
                 rotate_left 1
                 · obtain hW1 := hW
                   go_simp
                   exact rfl
                 simp only [Act.put, List.setIfInBounds_toArray, List.set_cons_zero, List.set_cons_succ])
              refine txt_op rfl rfl ?_
              refine op_store_blk (.tmp 57) (.tmp 55) 44 rfl size44 b 1 (.slice B1 (t + 1) d1) rfl rfl rfl #[.slice B0 (t + 1) d0, .slice A1 t c1, .slice A2 t c2, .slice none 0 0, .slice none 0 0] 118 (m10 + (m7 + (m2 + F))) (j5.eq (by ac_rfl)) (by simp) ?_
              intro w10 j7 j8
              refine ⟨fun h => absurd rfl h, ?_⟩
              simp only [Act.put]
              refine txt_done ?_
              have K10 := hid (show Has w10.drew (blk b #[.slice B0 (t + 1) d0, .slice B1 (t + 1) d1, .slice A2 t c2, .slice none 0 0, .slice none 0 0] 118 + (m10 + (m7 + (m2 + F)))) from j7.drew)
              have E10 := hid (((((E8.out.trans (Ext.drew _)).trans E5)).trans j6).trans j8)
              have G1 := hid (show _ from (show Ints2 (List.replicate (t + 1) (List.replicate n 0)) (.slice B1 (t + 1) d1) m10 by rw [List.replicate_succ']; exact j4))
              clear keep hS7 h51 H5 E5 j4 j5 j6 j7 j8 K8
              go_wp2
              have keep : ∀ (W : World) (X : MS), Has W (X + (blk b #[.slice B0 (t + 1) d0, .slice B1 (t + 1) d1, .slice A2 t c2, .slice none 0 0, .slice none 0 0] 118 + (m10 + (m7 + F)))) → W.cell? ⟨b, 2, none⟩ = some (.slice A2 t c2) := fun W X h => (h.eq (b := blk b #[.slice B0 (t + 1) d0, .slice B1 (t + 1) d1, .slice A2 t c2, .slice none 0 0, .slice none 0 0] 118 + (X + (m10 + (m7 + F)))) (by ac_rfl)).at_ rfl
              have hS := keep w10.drew m2 (K10.out.eq (by ac_rfl))
              refine wp_region_txt (fun W => W.cell? ⟨b, 2, none⟩ = some (.slice A2 t c2)) (some 11)
                [(0, true), (1, true), (2, true), (3, true), (4, true), (5, true), (6, false), (7, false), (8, false), (9, true), (10, true), (11, false)] (by kernel_rfl) rfl (by kernel_rfl) (by kernel_rfl) (by repeat (first | with_reducible refine PanicOk.thn ?_ | with_reducible refine PanicOk.blk ?_ | exact PanicOk.body _ _ _)) ?_
              repeat
                (refine txt_quiet ?_ hS rfl rfl (fun W hW => ?_) ?_
                 rotate_left 1
                 · obtain hW1 := hW
                   go_simp
                   exact rfl
                 simp only [Act.put, List.setIfInBounds_toArray, List.set_cons_zero, List.set_cons_succ])
              refine txt_op rfl rfl ?_
              refine op_make_sl (.tmp 63) (.tmp 63) 119 rfl 125 _ 1 24 Try.underlying119 info125 .i64 .i64 n rfl rfl (by omega) (by simp only [maxLen]; omega) _ K10.out ?_
              intro v5 w5 m5 h51 H5 E5 _
              obtain ⟨A5, c5, rfl, _⟩ := h51.form
              have hS5 := keep w5 (m5 + m2) (H5.eq (by ac_rfl))
              refine ⟨fun _ => hS5, ?_⟩
              simp only [Act.put, List.setIfInBounds_toArray, List.set_cons_zero, List.set_cons_succ]
              clear hS
              refine txt_op rfl rfl ?_
              refine op_run (.slice (some ⟨w5.heap.size, 0, none⟩) 1 1) (w5.alloc (.cells #[.slice A5 n c5] 119)) (by go_simp) ?_
              have hS6 := keep (w5.alloc (.cells #[.slice A5 n c5] 119)) (pts w5.heap.size (.cells #[.slice A5 n c5] 119) + (m5 + m2)) ((H5.alloc _).eq (by ac_rfl))
              refine ⟨fun _ => hS6, ?_⟩
              simp only [Act.put, List.setIfInBounds_toArray, List.set_cons_zero, List.set_cons_succ]
              clear hS5
              refine txt_op rfl rfl ?_
              refine op_push (.tmp 62) (.tmp 65) row115 rfl (.slice A2 t c2) rfl _ rfl rfl (El (RLines F)) El.one El.len (List.replicate t (List.replicate n [])) (List.replicate n []) m2 m5 _ H2.out ⟨_, rfl, made_rlines F h51, rfl⟩ (H5.eq (b := m2 + (m5 + (blk b #[.slice B0 (t + 1) d0, .slice B1 (t + 1) d1, .slice A2 t c2, .slice none 0 0, .slice none 0 0] 118 + (m10 + (m7 + F))))) (by ac_rfl)) t (by simp) (by omega) (by omega) ?_
              intro B2 d2 w12a m12 j4 j5 j6
              have hS7 := keep w12a m12 j5
              refine ⟨fun _ => hS7, ?_⟩
              simp only [Act.put, List.setIfInBounds_toArray, List.set_cons_zero, List.set_cons_succ]
              clear hS6
              repeat
                (refine txt_quiet ?_ hS7 rfl rfl (fun W hW => ?_) ?_
                 rotate_left 1
                 · obtain hW1 := hW
                   go_simp
                   exact rfl
                 simp only [Act.put, List.setIfInBounds_toArray, List.set_cons_zero, List.set_cons_succ])
              refine txt_op rfl rfl ?_
              refine op_store_blk (.tmp 68) (.tmp 66) 115 rfl size115 b 2 (.slice B2 (t + 1) d2) rfl rfl rfl #[.slice B0 (t + 1) d0, .slice B1 (t + 1) d1, .slice A2 t c2, .slice none 0 0, .slice none 0 0] 118 (m12 + (m10 + (m7 + F))) (j5.eq (by ac_rfl)) (by simp) ?_
              intro w12 j7 j8
              refine ⟨fun h => absurd rfl h, ?_⟩
              simp only [Act.put]
              refine txt_done ?_
              have K12 := hid (show Has w12.drew (blk b #[.slice B0 (t + 1) d0, .slice B1 (t + 1) d1, .slice B2 (t + 1) d2, .slice none 0 0, .slice none 0 0] 118 + (m12 + (m10 + (m7 + F)))) from j7.drew)
              have E12 := hid (((((E10.out.trans (Ext.drew _)).trans E5)).trans j6).trans j8)
              have G2 := hid (show _ from (show RChans F (List.replicate (t + 1) (List.replicate n [])) (.slice B2 (t + 1) d2) m12 by rw [List.replicate_succ']; exact j4))
              clear keep hS7 h51 H5 E5 j4 j5 j6 j7 j8 K10
              go_wp2
              go_roundw
              case rel => exact ⟨t + 1, Hlt.out, by go_num, by rw [Hmore.out, Hall.out, Hgood.out]; rfl, _, m7, _, m10, _, m12, G0.out, G1.out, G2.out, (show Has w12 _ from K12.out).eq (by ac_rfl), E12.out⟩
              case measure => have := Hlt.out; simp [intOf]; omega
        · obtain rfl : t = n := by omega
          have HX := hid (show ∃ m, IsRef F (Net.new l) b m ∧ Has wr (m + F) from ⟨blk b #[.slice A0 t c0, .slice A1 t c1, .slice A2 t c2, .slice none 0 0, .slice none 0 0] 118 + (m0 + (m1 + (m2 + (0 + 0)))), ⟨_, _, _, _, _, m0, m1, m2, 0, 0, rfl, by
              rw [new_helds]; have := H0.out; rw [List.take_of_length_le (by rw [← Hn.out]; exact Nat.le_refl _)] at this; exact this, by
              rw [new_clocks, ← Hn.out]; exact H1.out, by
              show RChans F (List.replicate l.length (List.replicate l.length [])) _ _
              rw [← Hn.out]; exact H2.out, SlR.empty _ _ _, SlR.empty _ _ _⟩, HHt.out.eq (by rw [MS.add_zero, MS.add_zero]; ac_rfl)⟩)
          have hok := hid (show newOk l from ⟨by rw [← Hn.out]; exact n2, by rw [← Hn.out]; exact n5, by have := Hall.out; rwa [List.take_of_length_le (by rw [← Hn.out]; exact Nat.le_refl _)] at this⟩)
          go_wp2
          go_ret2
          obtain ⟨m, x1, x2⟩ := HX.out
          exact .inl ⟨hok.out, b, m, rfl, x1, x2, HEt.out⟩
end Go.Proofs.Ytnkgfgkgepadhaa

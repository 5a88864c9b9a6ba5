/-
  The walks of the reference's Pattern, Kind, KindOf.
-/
import Derived.Test.YteibbnmlmbhkpaaDoorRW2
import Derived.Test.YteibbnmlmbhkpaaDoorPW10
namespace Go.Proofs.YteibbnmlmbhkpaaDoor
open Go.RowKit
set_option linter.unusedVariables false
set_option linter.unusedSimpArgs false
set_option maxHeartbeats 1000000
set_option maxRecDepth 100000

theorem ab_bt {s : ByteArray} {i : Nat} (h : i < s.size) : ab (s[i]'h) = decide (97 ≤ bt s i ∧ bt s i ≤ 100) := by
  rw [← bt_eq s i h]
  unfold ab
  rw [decide_eq_decide]
  omega
theorem abB_of {s : ByteArray} (h : ∀ i, i < s.size → 97 ≤ bt s i ∧ bt s i ≤ 100) : abB s = true := by
  unfold abB
  rw [List.all_eq_true]
  intro b hb
  obtain ⟨i, hi, rfl⟩ := List.getElem_of_mem hb
  have hi' : i < s.size := by simpa using hi
  have := ab_bt hi'
  rw [decide_eq_true (h i hi')] at this
  exact this
theorem abB_no {s : ByteArray} {i : Nat} (h : i < s.size) (hn : ¬ (97 ≤ bt s i ∧ bt s i ≤ 100)) : abB s = false := by
  have := ab_bt h
  rw [decide_eq_false hn] at this
  unfold abB
  rw [List.all_eq_false]
  refine ⟨s[i]'h, ?_, by rw [this]; decide⟩
  have h' : i < s.data.toList.length := by simpa using h
  have : s.data.toList[i] = s[i]'h := by simp; rfl
  rw [← this]
  exact List.getElem_mem h'
theorem abB_bt {s : ByteArray} (h : abB s = true) {i : Nat} (hi : i < s.size) : 97 ≤ bt s i ∧ bt s i ≤ 100 := by
  rcases Decidable.em (97 ≤ bt s i ∧ bt s i ≤ 100) with h1 | h1
  · exact h1
  · rw [abB_no hi h1] at h; cases h
theorem pattern_any {F : MS} {p : List ByteArray} {A : Option Addr} {c : Nat} {w : World} (hr : RdS F RT.str p (.slice A p.length c)) (hl : p.length ≤ 1000) (hs : ∀ s ∈ p, s.size ≤ 1000000) (hH : Has w F) :
    Calls Tryd.prog 20 #[.slice A p.length c] w fun e w' => e = .returned (.bool (isPat p)) ∧ ∃ q, w' = w.drewN q := by
  have hlI : (p.length : Int) ≤ 1000 := by omega
  have hNc := hr.cells.2.1
  by_cases h1 : 1 ≤ p.length
  rotate_left
  · have hq := hid (show isPat p = false by unfold isPat; simp; omega)
    have h1I : (p.length : Int) < 1 := by omega
    clear hr hs hH h1
    go_enter Tryd.func20, Tryd.ntmps20
    go_wp2
    go_ret
    exact ⟨by rw [hq.out]; rfl, 0, rfl⟩
  by_cases h6 : p.length ≤ 6
  rotate_left
  · have hq := hid (show isPat p = false by unfold isPat; simp; omega)
    have h1I : ¬ (p.length : Int) < 1 := by omega
    have h2I : (6 : Int) < p.length := by omega
    clear hr hs hH h1 h6
    go_enter Tryd.func20, Tryd.ntmps20
    go_wp2
    go_ret
    exact ⟨by rw [hq.out]; rfl, 0, rfl⟩
  obtain ⟨b, o, hAe, e3⟩ := hr.getStr (i := 0) (a := p.getD 0 empty) (get_getD empty (by omega))
  subst hAe
  obtain ⟨r0, hr0⟩ : ∃ r0, r0 = p.getD 0 empty := ⟨_, rfl⟩
  have hwd : wd p = r0.size := by unfold wd; rw [hr0]
  rw [← hr0] at e3
  have f1 := e3.c0 hH
  rw [Nat.add_zero] at f1
  have hrs : r0.size ≤ 1000000 := hs r0 (by
    have := get_getD empty (show 0 < p.length by omega)
    rw [← hr0] at this
    exact List.mem_of_getElem? this)
  have h1I : ¬ (p.length : Int) < 1 := by omega
  have h2I : ¬ (6 : Int) < p.length := by omega
  have h3I : (0 : Int) < p.length := by omega
  have hrsI : (r0.size : Int) ≤ 1000000 := by omega
  by_cases hw1 : 1 ≤ r0.size
  rotate_left
  · have hq := hid (show isPat p = false by unfold isPat; rw [hwd]; simp; omega)
    have h4I : (r0.size : Int) < 1 := by omega
    clear hr hs hH h1 h6 hr0 hw1 e3
    go_enter Tryd.func20, Tryd.ntmps20
    go_wp2
    go_ret
    exact ⟨by rw [hq.out]; rfl, 0, rfl⟩
  by_cases hw6 : r0.size ≤ 6
  rotate_left
  · have hq := hid (show isPat p = false by unfold isPat; rw [hwd]; simp; omega)
    have h4I : ¬ (r0.size : Int) < 1 := by omega
    have h5I : (6 : Int) < r0.size := by omega
    clear hr hs hH h1 h6 hr0 hw1 hw6 e3
    go_enter Tryd.func20, Tryd.ntmps20
    go_wp2
    go_ret
    exact ⟨by rw [hq.out]; rfl, 0, rfl⟩
  have h4I : ¬ (r0.size : Int) < 1 := by omega
  have h5I : ¬ (6 : Int) < r0.size := by omega
  have hq := hid (show isPat p = !p.any (badRow (wd p)) by unfold isPat; rw [hwd]; simp; omega)
  have F1 := hid f1
  have Hr := hid hr
  have HH := hid hH
  have Hs := hid hs
  have Hwd := hid hwd
  have h3N : 0 < p.length := by omega
  rw [hwd] at hq
  clear hr hs hH hr0 hrs e3 hl hwd
  go_enter Tryd.func20, Tryd.ntmps20
  go_wp2
  go_loopw [3] (fun v wr => ∃ y : Nat, y ≤ p.length ∧ v = .int .i64 y ∧ (p.take y).any (badRow r0.size) = false ∧ ∃ m, wr = w.drewN m) (fun v _ => p.length - (intOf v).toNat)
  case atStart => exact ⟨0, Nat.zero_le _, rfl, rfl, 0, rfl⟩
  case round =>
    clear f1
    obtain ⟨y, hy, rfl, hall, m1, rfl⟩ := hrel
    have Hall := hid hall
    clear hall
    by_cases hlt : y < p.length
    · have hltI : (y : Int) < p.length := by omega
      have hy0 : (0 : Int) ≤ (y : Int) := by omega
      have Hlt := hid hlt
      have f1 : (w.drewN m1).cell? ⟨b, o, none⟩ = some (.string r0) := F1.out
      obtain ⟨s, hsy⟩ : ∃ s, p[y]? = some s := ⟨_, List.getElem?_eq_getElem hlt⟩
      obtain ⟨b', o', hA', e3⟩ := Hr.out.getStr hsy
      injection hA' with hA'
      injection hA' with hb ho _
      subst hb
      subst ho
      have f2 : (w.drewN m1).cell? ⟨b, o + y, none⟩ = some (.string s) := e3.c0 HH.out
      have f3 : w.cell? ⟨b, o + y, none⟩ = some (.string s) := e3.c0 HH.out
      have f4 : w.cell? ⟨b, o, none⟩ = some (.string r0) := F1.out
      have F2 := hid (show ∀ m, (w.drewN m).cell? ⟨b, o + y, none⟩ = some (.string s) from fun m => e3.c0 HH.out)
      have hsI : (s.size : Int) ≤ 1000000 := by have := Hs.out s (List.mem_of_getElem? hsy); omega
      have Hsy := hid hsy
      clear hlt hsy e3
      by_cases heq : s.size = r0.size
      · have hne : ((s.size : Int) != (r0.size : Int)) = false := by simp [heq]
        have Heq := hid heq
        clear heq
        go_wp2
        go_quiet (fail)
        go_wp2
        go_loopw [4] (fun v wr => ∃ x : Nat, x ≤ s.size ∧ v = .int .i64 x ∧ (∀ i, i < x → 97 ≤ bt s i ∧ bt s i ≤ 100) ∧ ∃ m, wr = w.drewN m) (fun v _ => s.size - (intOf v).toNat)
        case atStart => exact ⟨0, Nat.zero_le _, rfl, fun i h => by omega, _, World.drewN_drewN _ _ _⟩
        case round =>
          clear f1 f2 f3 f4
          obtain ⟨x, hx, rfl, hall, m2, rfl⟩ := hrel
          have Hall2 := hid hall
          have f2 := F2.out m2
          clear hall
          by_cases hlx : x < s.size
          · have hlxI : (x : Int) < s.size := by omega
            have hx0 : (0 : Int) ≤ (x : Int) := by omega
            have Hlx := hid hlx
            have hbt := bt_eq s x hlx
            obtain ⟨q, hqb⟩ : ∃ q, q = bt s x := ⟨_, rfl⟩
            rw [← hqb] at hbt
            have Hqb := hid hqb
            clear hqb
            by_cases ha : q < 97
            · have hf := hid (show isPat p = false by
                rw [hq.out, Bool.not_eq_false']
                refine List.any_eq_true.2 ⟨s, List.mem_of_getElem? Hsy.out, ?_⟩
                unfold badRow
                rw [abB_no Hlx.out (by rw [← Hqb.out]; omega)]; simp)
              go_wp2
              go_ret
              exact ⟨by rw [hf.out]; rfl, _, rfl⟩
            · by_cases hd : 100 < q
              · have hf := hid (show isPat p = false by
                  rw [hq.out, Bool.not_eq_false']
                  refine List.any_eq_true.2 ⟨s, List.mem_of_getElem? Hsy.out, ?_⟩
                  unfold badRow
                  rw [abB_no Hlx.out (by rw [← Hqb.out]; omega)]; simp)
                go_wp2
                go_ret
                exact ⟨by rw [hf.out]; rfl, _, rfl⟩
              · have Hok := hid (show 97 ≤ bt s x ∧ bt s x ≤ 100 by rw [← Hqb.out]; omega)
                go_wp2
                go_roundw
                case rel => exact ⟨x + 1, Hlx.out, by go_num, fun i hi => by
                  by_cases hix : i = x
                  · rw [hix]; exact Hok.out
                  · exact Hall2.out i (by omega), _, rfl⟩
                case measure => have := Hlx.out; simp [intOf]; omega
          · have hxe : x = s.size := by omega
            subst hxe
            have hok := hid (show badRow r0.size s = false by unfold badRow; rw [Heq.out, abB_of Hall2.out]; simp)
            clear hlx
            go_wp2
            go_roundw
            case rel => exact ⟨y + 1, Hlt.out, by go_num, by rw [take_more Hsy.out, List.any_append, Hall.out]; simp [hok.out], m2, rfl⟩
            case measure => have := Hlt.out; simp [intOf]; omega
      · have hne : ((s.size : Int) != (r0.size : Int)) = true := by simp; omega
        have hf := hid (show isPat p = false by
          rw [hq.out, Bool.not_eq_false']
          refine List.any_eq_true.2 ⟨s, List.mem_of_getElem? Hsy.out, ?_⟩
          unfold badRow
          simp [heq])
        clear heq
        go_wp2
        go_quiet (fail)
        go_wp2
        go_ret
        exact ⟨by rw [hf.out]; rfl, _, World.drewN_drewN _ _ _⟩
    · have hye : y = p.length := by omega
      subst hye
      have hf := hid (show isPat p = true by
        have := Hall.out
        rw [List.take_length] at this
        rw [hq.out, this]; rfl)
      clear hlt
      go_wp2
      go_ret
      exact ⟨by rw [hf.out]; rfl, m1, rfl⟩
/-- The move of a kind. -/
theorem kind_at (k : Nat) (hk : k < 8) (w : World) : Calls Tryd.prog 43 #[.int .i64 k] w fun e w' => e = .returned (knd k 0 0).v ∧ Kp w w' := by
  have HA := hid ((Has.all w).alloc (.cells #[.int .i64 0, .int .i64 0, .int .i64 0, .int .i64 0, .int .i64 0, .int .i64 0] 41))
  have HE := hid (Ext.alloc w (.cells #[.int .i64 0, .int .i64 0, .int .i64 0, .int .i64 0, .int .i64 0, .int .i64 0] 41))
  have fin : ∀ a b c d : Int, ∀ k : Nat, knd k 0 0 = ⟨a, b, c, d, 0, 0⟩ → ∀ w6, Has w6 (blk w.heap.size #[.int .i64 a, .int .i64 b, .int .i64 c, .int .i64 d, .int .i64 0, .int .i64 0] 41 + MS.all w) → Ext w w6 →
      (w6.cell? ⟨w.heap.size, 0, none⟩ = some (.int .i64 a) ∧ w6.cell? ⟨w.heap.size, 1, none⟩ = some (.int .i64 b) ∧ w6.cell? ⟨w.heap.size, 2, none⟩ = some (.int .i64 c) ∧ w6.cell? ⟨w.heap.size, 3, none⟩ = some (.int .i64 d) ∧ w6.cell? ⟨w.heap.size, 4, none⟩ = some (.int .i64 0) ∧ w6.cell? ⟨w.heap.size, 5, none⟩ = some (.int .i64 0)) ∧
      (Ending.returned (.agg #[.int .i64 a, .int .i64 b, .int .i64 c, .int .i64 d, .int .i64 0, .int .i64 0]) = .returned (knd k 0 0).v ∧ Kp w w6) := fun a b c d k hk w6 h1 h2 =>
    ⟨⟨h1.at_ rfl, h1.at_ rfl, h1.at_ rfl, h1.at_ rfl, h1.at_ rfl, h1.at_ rfl⟩, by rw [hk]; rfl, fun M hM => hM.of_all h1, h2⟩
  rcases k8_cases hk with rfl | rfl | rfl | rfl | rfl | rfl | rfl | rfl
  · go_enter Tryd.func43, Tryd.ntmps43
    go_wp2_with (refine wpList_store_whole rfl (.tmp 2) (.tmp 6) 41 rfl 6 size41 w.heap.size (.agg #[.int .i64 1, .int .i64 0, .int .i64 0, .int .i64 1, .int .i64 0, .int .i64 0]) rfl rfl rfl (by simp [Value.cells, Value.oneCell']) #[.int .i64 0, .int .i64 0, .int .i64 0, .int .i64 0, .int .i64 0, .int .i64 0] 41 _ HA.out rfl ?_; intro w6 k1 k2; have K6 := hid k1; have E6 := hid (HE.out.trans k2); clear k1 k2)
    obtain ⟨⟨q0, q1, q2, q3, q4, q5⟩, r1, r2⟩ := fin 1 0 0 1 0 rfl w6 K6.out E6.out
    exact bodyPost_ret (v := .agg #[.int .i64 1, .int .i64 0, .int .i64 0, .int .i64 1, .int .i64 0, .int .i64 0]) (by simp [results, Tryd.results43, go_sem, q0, q1, q2, q3, q4, q5]) rfl ⟨r1, r2⟩
  · go_enter Tryd.func43, Tryd.ntmps43
    go_wp2_with (refine wpList_store_whole rfl (.tmp 2) (.tmp 9) 41 rfl 6 size41 w.heap.size (.agg #[.int .i64 0, .int .i64 (-1), .int .i64 1, .int .i64 0, .int .i64 0, .int .i64 0]) rfl rfl rfl (by simp [Value.cells, Value.oneCell']) #[.int .i64 0, .int .i64 0, .int .i64 0, .int .i64 0, .int .i64 0, .int .i64 0] 41 _ HA.out rfl ?_; intro w6 k1 k2; have K6 := hid k1; have E6 := hid (HE.out.trans k2); clear k1 k2)
    obtain ⟨⟨q0, q1, q2, q3, q4, q5⟩, r1, r2⟩ := fin 0 (-1) 1 0 1 rfl w6 K6.out E6.out
    exact bodyPost_ret (v := .agg #[.int .i64 0, .int .i64 (-1), .int .i64 1, .int .i64 0, .int .i64 0, .int .i64 0]) (by simp [results, Tryd.results43, go_sem, q0, q1, q2, q3, q4, q5]) rfl ⟨r1, r2⟩
  · go_enter Tryd.func43, Tryd.ntmps43
    go_wp2_with (refine wpList_store_whole rfl (.tmp 2) (.tmp 12) 41 rfl 6 size41 w.heap.size (.agg #[.int .i64 (-1), .int .i64 0, .int .i64 0, .int .i64 (-1), .int .i64 0, .int .i64 0]) rfl rfl rfl (by simp [Value.cells, Value.oneCell']) #[.int .i64 0, .int .i64 0, .int .i64 0, .int .i64 0, .int .i64 0, .int .i64 0] 41 _ HA.out rfl ?_; intro w6 k1 k2; have K6 := hid k1; have E6 := hid (HE.out.trans k2); clear k1 k2)
    obtain ⟨⟨q0, q1, q2, q3, q4, q5⟩, r1, r2⟩ := fin (-1) 0 0 (-1) 2 rfl w6 K6.out E6.out
    exact bodyPost_ret (v := .agg #[.int .i64 (-1), .int .i64 0, .int .i64 0, .int .i64 (-1), .int .i64 0, .int .i64 0]) (by simp [results, Tryd.results43, go_sem, q0, q1, q2, q3, q4, q5]) rfl ⟨r1, r2⟩
  · go_enter Tryd.func43, Tryd.ntmps43
    go_wp2_with (refine wpList_store_whole rfl (.tmp 2) (.tmp 15) 41 rfl 6 size41 w.heap.size (.agg #[.int .i64 0, .int .i64 1, .int .i64 (-1), .int .i64 0, .int .i64 0, .int .i64 0]) rfl rfl rfl (by simp [Value.cells, Value.oneCell']) #[.int .i64 0, .int .i64 0, .int .i64 0, .int .i64 0, .int .i64 0, .int .i64 0] 41 _ HA.out rfl ?_; intro w6 k1 k2; have K6 := hid k1; have E6 := hid (HE.out.trans k2); clear k1 k2)
    obtain ⟨⟨q0, q1, q2, q3, q4, q5⟩, r1, r2⟩ := fin 0 1 (-1) 0 3 rfl w6 K6.out E6.out
    exact bodyPost_ret (v := .agg #[.int .i64 0, .int .i64 1, .int .i64 (-1), .int .i64 0, .int .i64 0, .int .i64 0]) (by simp [results, Tryd.results43, go_sem, q0, q1, q2, q3, q4, q5]) rfl ⟨r1, r2⟩
  · go_enter Tryd.func43, Tryd.ntmps43
    go_wp2_with (refine wpList_store_whole rfl (.tmp 2) (.tmp 18) 41 rfl 6 size41 w.heap.size (.agg #[.int .i64 1, .int .i64 0, .int .i64 0, .int .i64 (-1), .int .i64 0, .int .i64 0]) rfl rfl rfl (by simp [Value.cells, Value.oneCell']) #[.int .i64 0, .int .i64 0, .int .i64 0, .int .i64 0, .int .i64 0, .int .i64 0] 41 _ HA.out rfl ?_; intro w6 k1 k2; have K6 := hid k1; have E6 := hid (HE.out.trans k2); clear k1 k2)
    obtain ⟨⟨q0, q1, q2, q3, q4, q5⟩, r1, r2⟩ := fin 1 0 0 (-1) 4 rfl w6 K6.out E6.out
    exact bodyPost_ret (v := .agg #[.int .i64 1, .int .i64 0, .int .i64 0, .int .i64 (-1), .int .i64 0, .int .i64 0]) (by simp [results, Tryd.results43, go_sem, q0, q1, q2, q3, q4, q5]) rfl ⟨r1, r2⟩
  · go_enter Tryd.func43, Tryd.ntmps43
    go_wp2_with (refine wpList_store_whole rfl (.tmp 2) (.tmp 21) 41 rfl 6 size41 w.heap.size (.agg #[.int .i64 (-1), .int .i64 0, .int .i64 0, .int .i64 1, .int .i64 0, .int .i64 0]) rfl rfl rfl (by simp [Value.cells, Value.oneCell']) #[.int .i64 0, .int .i64 0, .int .i64 0, .int .i64 0, .int .i64 0, .int .i64 0] 41 _ HA.out rfl ?_; intro w6 k1 k2; have K6 := hid k1; have E6 := hid (HE.out.trans k2); clear k1 k2)
    obtain ⟨⟨q0, q1, q2, q3, q4, q5⟩, r1, r2⟩ := fin (-1) 0 0 1 5 rfl w6 K6.out E6.out
    exact bodyPost_ret (v := .agg #[.int .i64 (-1), .int .i64 0, .int .i64 0, .int .i64 1, .int .i64 0, .int .i64 0]) (by simp [results, Tryd.results43, go_sem, q0, q1, q2, q3, q4, q5]) rfl ⟨r1, r2⟩
  · go_enter Tryd.func43, Tryd.ntmps43
    go_wp2_with (refine wpList_store_whole rfl (.tmp 2) (.tmp 24) 41 rfl 6 size41 w.heap.size (.agg #[.int .i64 0, .int .i64 1, .int .i64 1, .int .i64 0, .int .i64 0, .int .i64 0]) rfl rfl rfl (by simp [Value.cells, Value.oneCell']) #[.int .i64 0, .int .i64 0, .int .i64 0, .int .i64 0, .int .i64 0, .int .i64 0] 41 _ HA.out rfl ?_; intro w6 k1 k2; have K6 := hid k1; have E6 := hid (HE.out.trans k2); clear k1 k2)
    obtain ⟨⟨q0, q1, q2, q3, q4, q5⟩, r1, r2⟩ := fin 0 1 1 0 6 rfl w6 K6.out E6.out
    exact bodyPost_ret (v := .agg #[.int .i64 0, .int .i64 1, .int .i64 1, .int .i64 0, .int .i64 0, .int .i64 0]) (by simp [results, Tryd.results43, go_sem, q0, q1, q2, q3, q4, q5]) rfl ⟨r1, r2⟩
  · go_enter Tryd.func43, Tryd.ntmps43
    go_wp2_with (refine wpList_store_whole rfl (.tmp 2) (.tmp 25) 41 rfl 6 size41 w.heap.size (.agg #[.int .i64 0, .int .i64 (-1), .int .i64 (-1), .int .i64 0, .int .i64 0, .int .i64 0]) rfl rfl rfl (by simp [Value.cells, Value.oneCell']) #[.int .i64 0, .int .i64 0, .int .i64 0, .int .i64 0, .int .i64 0, .int .i64 0] 41 _ HA.out rfl ?_; intro w6 k1 k2; have K6 := hid k1; have E6 := hid (HE.out.trans k2); clear k1 k2)
    obtain ⟨⟨q0, q1, q2, q3, q4, q5⟩, r1, r2⟩ := fin 0 (-1) (-1) 0 7 rfl w6 K6.out E6.out
    exact bodyPost_ret (v := .agg #[.int .i64 0, .int .i64 (-1), .int .i64 (-1), .int .i64 0, .int .i64 0, .int .i64 0]) (by simp [results, Tryd.results43, go_sem, q0, q1, q2, q3, q4, q5]) rfl ⟨r1, r2⟩
end Go.Proofs.YteibbnmlmbhkpaaDoor

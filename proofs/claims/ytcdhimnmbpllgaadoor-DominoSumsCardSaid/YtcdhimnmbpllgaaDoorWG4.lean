/-
  The walk of the specification's Region (28) (printed by gen_reg.py).
-/
import Derived.Test.YtcdhimnmbpllgaaDoorDW8
import Derived.Test.YtcdhimnmbpllgaaDoorDraw
namespace Go.Proofs.YtcdhimnmbpllgaaDoor
open Go.RowKit
set_option linter.unusedVariables false
set_option linter.unusedSimpArgs false
set_option maxHeartbeats 4000000
set_option maxRecDepth 100000

theorem ab_bt {s : ByteArray} {i : Nat} (h : i < s.size) : ab (s[i]'h) = decide (bt s i = 35 ∨ bt s i = 46) := by
  rw [← bt_eq s i h]
  unfold ab
  rw [decide_eq_decide]
  omega
theorem abB_of {s : ByteArray} (h : ∀ i, i < s.size → bt s i = 35 ∨ bt s i = 46) : abB s = true := by
  unfold abB
  rw [List.all_eq_true]
  intro b hb
  obtain ⟨i, hi, rfl⟩ := List.getElem_of_mem hb
  have hi' : i < s.size := by simpa using hi
  have := ab_bt hi'
  rw [decide_eq_true (h i hi')] at this
  exact this
theorem abB_no {s : ByteArray} {i : Nat} (h : i < s.size) (hn : ¬ (bt s i = 35 ∨ bt s i = 46)) : abB s = false := by
  have := ab_bt h
  rw [decide_eq_false hn] at this
  unfold abB
  rw [List.all_eq_false]
  refine ⟨s[i]'h, ?_, by rw [this]; decide⟩
  have h' : i < s.data.toList.length := by simpa using h
  have : s.data.toList[i] = s[i]'h := by simp; rfl
  rw [← this]
  exact List.getElem_mem h'
theorem abB_bt {s : ByteArray} (h : abB s = true) {i : Nat} (hi : i < s.size) : bt s i = 35 ∨ bt s i = 46 := by
  rcases Decidable.em (bt s i = 35 ∨ bt s i = 46) with h1 | h1
  · exact h1
  · rw [abB_no hi h1] at h; cases h
theorem region_any {F : MS} {p : List ByteArray} {A : Option Addr} {c : Nat} {w : World} (hr : RdS F RT.str p (.slice A p.length c)) (hl : p.length ≤ 1000) (hs : ∀ s ∈ p, s.size ≤ 1000000) (hH : Has w F) :
    Calls Tryd.prog 28 #[.slice A p.length c] w fun e w' => e = .returned (.bool (isReg p)) ∧ ∃ q, w' = w.drewN q := by
  have hlI : (p.length : Int) ≤ 1000 := by omega
  have hNc := hr.cells.2.1
  by_cases h1 : 1 ≤ p.length
  rotate_left
  · have hq := hid (show isReg p = false by unfold isReg; simp; omega)
    have h1I : (p.length : Int) < 1 := by omega
    clear hr hs hH h1
    go_enter Tryd.func28, Tryd.ntmps28
    go_wp2
    go_ret
    exact ⟨by rw [hq.out]; rfl, 0, rfl⟩
  by_cases h6 : p.length ≤ 8
  rotate_left
  · have hq := hid (show isReg p = false by unfold isReg; simp; omega)
    have h1I : ¬ (p.length : Int) < 1 := by omega
    have h2I : (8 : Int) < p.length := by omega
    clear hr hs hH h1 h6
    go_enter Tryd.func28, Tryd.ntmps28
    go_wp2
    go_ret
    exact ⟨by rw [hq.out]; rfl, 0, rfl⟩
  obtain ⟨b, o, hAe, e3⟩ := hr.getStr (i := 0) (a := p.getD 0 empty) (get_getD empty (by omega))
  subst hAe
  obtain ⟨r0, hr0⟩ : ∃ r0, r0 = p.getD 0 empty := ⟨_, rfl⟩
  have hwd : wd p = r0.size := by unfold wd; rw [hr0]
  rw [← hr0] at e3
  have f1 := e3.c0 hH
  rw [Nat.add_zero] at f1
  have hrs : r0.size ≤ 1000000 := hs r0 (by
    have := get_getD empty (show 0 < p.length by omega)
    rw [← hr0] at this
    exact List.mem_of_getElem? this)
  have h1I : ¬ (p.length : Int) < 1 := by omega
  have h2I : ¬ (8 : Int) < p.length := by omega
  have h3I : (0 : Int) < p.length := by omega
  have hrsI : (r0.size : Int) ≤ 1000000 := by omega
  by_cases hw1 : 1 ≤ r0.size
  rotate_left
  · have hq := hid (show isReg p = false by unfold isReg; rw [hwd]; simp; omega)
    have h4I : (r0.size : Int) < 1 := by omega
    clear hr hs hH h1 h6 hr0 hw1 e3
    go_enter Tryd.func28, Tryd.ntmps28
    go_wp2
    go_ret
    exact ⟨by rw [hq.out]; rfl, 0, rfl⟩
  by_cases hw6 : r0.size ≤ 8
  rotate_left
  · have hq := hid (show isReg p = false by unfold isReg; rw [hwd]; simp; omega)
    have h4I : ¬ (r0.size : Int) < 1 := by omega
    have h5I : (8 : Int) < r0.size := by omega
    clear hr hs hH h1 h6 hr0 hw1 hw6 e3
    go_enter Tryd.func28, Tryd.ntmps28
    go_wp2
    go_ret
    exact ⟨by rw [hq.out]; rfl, 0, rfl⟩
  have h4I : ¬ (r0.size : Int) < 1 := by omega
  have h5I : ¬ (8 : Int) < r0.size := by omega
  have hq := hid (show isReg p = !p.any (badRow (wd p)) by unfold isReg; rw [hwd]; simp; omega)
  have F1 := hid f1
  have Hr := hid hr
  have HH := hid hH
  have Hs := hid hs
  have Hwd := hid hwd
  have h3N : 0 < p.length := by omega
  rw [hwd] at hq
  clear hr hs hH hr0 hrs e3 hl hwd
  go_enter Tryd.func28, Tryd.ntmps28
  go_wp2
  go_loopw [3] (fun v wr => ∃ y : Nat, y ≤ p.length ∧ v = .int .i64 y ∧ (p.take y).any (badRow r0.size) = false ∧ ∃ m, wr = w.drewN m) (fun v _ => p.length - (intOf v).toNat)
  case atStart => exact ⟨0, Nat.zero_le _, rfl, rfl, 0, rfl⟩
  case round =>
    clear f1
    obtain ⟨y, hy, rfl, hall, m1, rfl⟩ := hrel
    have Hall := hid hall
    clear hall
    by_cases hlt : y < p.length
    · have hltI : (y : Int) < p.length := by omega
      have hy0 : (0 : Int) ≤ (y : Int) := by omega
      have Hlt := hid hlt
      have f1 : (w.drewN m1).cell? ⟨b, o, none⟩ = some (.string r0) := F1.out
      obtain ⟨s, hsy⟩ : ∃ s, p[y]? = some s := ⟨_, List.getElem?_eq_getElem hlt⟩
      obtain ⟨b', o', hA', e3⟩ := Hr.out.getStr hsy
      injection hA' with hA'
      injection hA' with hb ho _
      subst hb
      subst ho
      have f2 : (w.drewN m1).cell? ⟨b, o + y, none⟩ = some (.string s) := e3.c0 HH.out
      have f3 : w.cell? ⟨b, o + y, none⟩ = some (.string s) := e3.c0 HH.out
      have f4 : w.cell? ⟨b, o, none⟩ = some (.string r0) := F1.out
      have F2 := hid (show ∀ m, (w.drewN m).cell? ⟨b, o + y, none⟩ = some (.string s) from fun m => e3.c0 HH.out)
      have hsI : (s.size : Int) ≤ 1000000 := by have := Hs.out s (List.mem_of_getElem? hsy); omega
      have Hsy := hid hsy
      clear hlt hsy e3
      by_cases heq : s.size = r0.size
      · have hne : ((s.size : Int) != (r0.size : Int)) = false := by simp [heq]
        have Heq := hid heq
        clear heq
        go_wp2
        go_quiet (fail)
        go_wp2
        go_loopw [4] (fun v wr => ∃ x : Nat, x ≤ s.size ∧ v = .int .i64 x ∧ (∀ i, i < x → bt s i = 35 ∨ bt s i = 46) ∧ ∃ m, wr = w.drewN m) (fun v _ => s.size - (intOf v).toNat)
        case atStart => exact ⟨0, Nat.zero_le _, rfl, fun i h => by omega, _, World.drewN_drewN _ _ _⟩
        case round =>
          clear f1 f2 f3 f4
          obtain ⟨x, hx, rfl, hall, m2, rfl⟩ := hrel
          have Hall2 := hid hall
          have f2 := F2.out m2
          clear hall
          by_cases hlx : x < s.size
          · have hlxI : (x : Int) < s.size := by omega
            have hx0 : (0 : Int) ≤ (x : Int) := by omega
            have Hlx := hid hlx
            have hbt := bt_eq s x hlx
            obtain ⟨q, hqb⟩ : ∃ q, q = bt s x := ⟨_, rfl⟩
            rw [← hqb] at hbt
            have Hqb := hid hqb
            clear hqb
            by_cases ha : q = 35
            · have Hok := hid (show bt s x = 35 ∨ bt s x = 46 by rw [← Hqb.out]; exact .inl ha)
              subst ha
              go_wp2
              go_roundw
              case rel => exact ⟨x + 1, Hlx.out, by go_num, fun i hi => by
                by_cases hix : i = x
                · rw [hix]; exact Hok.out
                · exact Hall2.out i (by omega), _, rfl⟩
              case measure => have := Hlx.out; simp [intOf]; omega
            · by_cases hd : q = 46
              · have Hok := hid (show bt s x = 35 ∨ bt s x = 46 by rw [← Hqb.out]; exact .inr hd)
                subst hd
                clear ha
                go_wp2
                go_roundw
                case rel => exact ⟨x + 1, Hlx.out, by go_num, fun i hi => by
                  by_cases hix : i = x
                  · rw [hix]; exact Hok.out
                  · exact Hall2.out i (by omega), _, rfl⟩
                case measure => have := Hlx.out; simp [intOf]; omega
              · have hf := hid (show isReg p = false by
                  rw [hq.out, Bool.not_eq_false']
                  refine List.any_eq_true.2 ⟨s, List.mem_of_getElem? Hsy.out, ?_⟩
                  unfold badRow
                  rw [abB_no Hlx.out (by rw [← Hqb.out]; omega)]; simp)
                have hn1 : (q != 35) = true := by rw [bne_iff_ne]; exact ha
                have hn2 : (q != 46) = true := by rw [bne_iff_ne]; exact hd
                go_wp2
                go_ret
                exact ⟨by rw [hf.out]; rfl, _, rfl⟩
          · have hxe : x = s.size := by omega
            subst hxe
            have hok := hid (show badRow r0.size s = false by unfold badRow; rw [Heq.out, abB_of Hall2.out]; simp)
            clear hlx
            go_wp2
            go_roundw
            case rel => exact ⟨y + 1, Hlt.out, by go_num, by rw [take_more Hsy.out, List.any_append, Hall.out]; simp [hok.out], m2, rfl⟩
            case measure => have := Hlt.out; simp [intOf]; omega
      · have hne : ((s.size : Int) != (r0.size : Int)) = true := by simp; omega
        have hf := hid (show isReg p = false by
          rw [hq.out, Bool.not_eq_false']
          refine List.any_eq_true.2 ⟨s, List.mem_of_getElem? Hsy.out, ?_⟩
          unfold badRow
          simp [heq])
        clear heq
        go_wp2
        go_quiet (fail)
        go_wp2
        go_ret
        exact ⟨by rw [hf.out]; rfl, _, World.drewN_drewN _ _ _⟩
    · have hye : y = p.length := by omega
      subst hye
      have hf := hid (show isReg p = true by
        have := Hall.out
        rw [List.take_length] at this
        rw [hq.out, this]; rfl)
      clear hlt
      go_wp2
      go_ret
      exact ⟨by rw [hf.out]; rfl, m1, rfl⟩
end Go.Proofs.YtcdhimnmbpllgaaDoor

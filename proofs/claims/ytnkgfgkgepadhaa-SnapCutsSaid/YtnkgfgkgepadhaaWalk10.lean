/-
  The walk of New.
-/
import Derived.Test.YtnkgfgkgepadhaaWalk9
namespace Go.Proofs.Ytnkgfgkgepadhaa
open Go.RowKit
set_option linter.unusedVariables false
set_option linter.unusedSimpArgs false

def badP (p : Int) : Bool := decide (p < 0 ∨ 1000000 < p)
theorem bad_any (p : Int) (w : World) : Calls Try.prog 62 #[.int .i64 p] w fun e w' => e = .returned (.bool (badP p)) ∧ w = w' := by
  by_cases h : p < 0
  · have hb : badP p = true := by simp [badP, h]
    rw [hb]
    go_enter Try.func62, Try.ntmps62
    go_wp2
    go_ret
    exact ⟨rfl, rfl⟩
  · have hb : badP p = decide (1000000 < p) := by simp [badP, h]
    rw [hb]
    go_enter Try.func62, Try.ntmps62
    go_wp2
    go_ret
    exact ⟨rfl, rfl⟩
/-- The index of the first that is bad, from t on. -/
def firstBad : List Int → Nat → Int
  | [], _ => -1
  | p :: l, t => if badP p then t else firstBad l (t + 1)
theorem index_any (A : Option Addr) (c : Nat) (l : List Int) (w : World) (hr : RdInts w A l) (hl : l.length ≤ 1000) :
    Calls Try.prog 86 #[.slice A l.length c, .func (.func 62) #[] #[]] w fun e w' => e = .returned (.int .i64 (firstBad l 0)) ∧ w = w' := by
  go_enter Try.func86, Try.ntmps86
  go_wp2
  go_loop [8] (fun v => ∃ t : Nat, t ≤ l.length ∧ v = .int .i64 t ∧ firstBad l 0 = firstBad (l.drop t) t) (fun v => l.length - (intOf v).toNat)
  case atStart => exact ⟨0, Nat.zero_le _, rfl, rfl⟩
  case round =>
    obtain ⟨t, ht, rfl, hf⟩ := hrel
    by_cases hlt : t < l.length
    · obtain ⟨A0, rfl⟩ : ∃ a, A = some a := by
        cases A with
        | none => have := hr.1 rfl; rw [this] at hlt; simp at hlt
        | some a => exact ⟨a, rfl⟩
      have hc := hr.2 A0 rfl t (.int .i64 l[t]) (by simp [hlt])
      obtain ⟨u, hu⟩ : ∃ u, u = l[t] := ⟨_, rfl⟩
      rw [← hu] at hc
      rw [List.drop_eq_getElem_cons hlt, firstBad, ← hu] at hf
      have Hf := hid hf
      have Hlt := hid hlt
      have Hr := hid hr
      clear hf hu hr
      cases hb : badP u with
      | true =>
        go_wp2_with (go_at_call 62; refine (bad_any _ _).mono ?_; rintro e w' ⟨rfl, rfl⟩)
        go_ret
        have := Hf.out
        rw [if_pos hb] at this
        exact ⟨ret_int this.symm, rfl⟩
      | false =>
        go_wp2_with (go_at_call 62; refine (bad_any _ _).mono ?_; rintro e w' ⟨rfl, rfl⟩)
        go_round
        case rel => exact ⟨t + 1, Hlt.out, by go_num, by have := Hf.out; rw [if_neg (by simp [hb])] at this; exact this⟩
        case measure => have := Hlt.out; simp [intOf]; omega
    · obtain rfl : t = l.length := by omega
      rw [List.drop_length] at hf
      have Hf := hid hf
      clear hf hr
      go_wp2
      go_ret
      exact ⟨ret_int Hf.out.symm, rfl⟩
theorem firstBad_ge : ∀ (l : List Int) (t : Nat), decide (0 ≤ firstBad l t) = l.any badP
  | [], _ => rfl
  | p :: l, t => by
    unfold firstBad
    rw [List.any_cons]
    cases h : badP p with
    | true => simp
    | false => simpa using firstBad_ge l (t + 1)
theorem contains_any (A : Option Addr) (c : Nat) (l : List Int) (w : World) (hr : RdInts w A l) (hl : l.length ≤ 1000) :
    Calls Try.prog 61 #[.slice A l.length c, .func (.func 62) #[] #[]] w fun e w' => e = .returned (.bool (l.any badP)) ∧ w = w' := by
  rw [← firstBad_ge l 0]
  have H := hid (index_any A c l w hr hl)
  clear hr
  go_enter Try.func61, Try.ntmps61
  go_wp2_with (go_at_call 86; refine H.out.mono ?_; rintro e w' ⟨rfl, rfl⟩)
  go_ret
  exact ⟨rfl, rfl⟩

def Sta.new (n : Nat) (p : Int) : Sta := ⟨p, 0, List.replicate n 0⟩
def Net.new (l : List Int) : Net := ⟨l.map (Sta.new l.length), List.replicate l.length (List.replicate l.length []), [], []⟩
def newOk (l : List Int) : Prop := 2 ≤ l.length ∧ l.length ≤ 5 ∧ l.any badP = false
instance (l : List Int) : Decidable (newOk l) := by unfold newOk; infer_instance
theorem rows_noLines : ∀ n : Nat, RowsR (El (Line 0)) (List.replicate n []) (List.replicate n (.slice none 0 0)) 0
  | 0 => RowsR.nil
  | n + 1 => ⟨[.slice none 0 0], 0, _, 0, ⟨_, rfl, ⟨[], 0, 0, Sl.nil 94 1, RowsR.nil, (MS.zero_add 0).symm⟩, rfl⟩, rows_noLines n, rfl, (MS.zero_add 0).symm⟩
theorem made_lines {n : Nat} {v : Value} {m : MS} (h : Sl 91 1 v n (madeCells (Value.slice none 0 0).cells (n * 1)).toList m) : Lines 0 (List.replicate n []) v m := by
  have e : (madeCells (Value.slice none 0 0).cells (n * 1)).toList = List.replicate n (.slice none 0 0) := by
    rw [Nat.mul_one]; exact toList_madeCells_one (.slice none 0 0) n
  rw [e] at h
  exact ⟨_, m, 0, by simpa using h, rows_noLines n, (MS.add_zero m).symm⟩

/-- What the loop of New keeps. -/
def NewInv (F : MS) (w : World) (b : Nat) (l : List Int) (v : Value) (wr : World) : Prop :=
  ∃ t : Nat, t ≤ l.length ∧ v = .int .i64 t ∧ ∃ v0 m0 v1 m1, SlR 107 3 StaR ((l.take t).map (Sta.new l.length)) v0 m0 ∧ Chans 0 (List.replicate t (List.replicate l.length [])) v1 m1 ∧
    Has wr (blk b #[v0, v1, .slice none 0 0, .slice none 0 0] 84 + (m0 + (m1 + F))) ∧ Ext w wr

theorem new_no (A : Option Addr) (c : Nat) (l : List Int) (w : World) (hr : RdInts w A l) (h : ¬ newOk l) :
    Calls Try.prog 24 #[.slice A l.length c] w fun e w' => e = .returned (.tuple #[.pointer none, .int .i64 2]) ∧ w = w' := by
  by_cases h2 : (l.length : Int) < 2
  · clear h hr
    go_enter Try.func24, Try.ntmps24
    go_wp2
    go_ret2
    exact ⟨rfl, rfl⟩
  · by_cases h5 : (5 : Int) < l.length
    · clear h hr
      go_enter Try.func24, Try.ntmps24
      go_wp2
      go_ret2
      exact ⟨rfl, rfl⟩
    · have hb : l.any badP = true := by
        cases hb : l.any badP with
        | true => rfl
        | false => exact absurd ⟨by omega, by omega, hb⟩ h
      have H := hid (contains_any A c l w hr (by omega))
      rw [hb] at H
      clear h hr hb
      go_enter Try.func24, Try.ntmps24
      go_wp2_with (go_at_call 61; refine H.out.mono ?_; rintro e w' ⟨rfl, rfl⟩)
      go_ret2
      exact ⟨rfl, rfl⟩

set_option maxHeartbeats 2000000 in
set_option maxRecDepth 100000 in
theorem new_any (F : MS) (A : Option Addr) (c : Nat) (l : List Int) (w : World) (hH : Has w F) (hr : ∀ w' X, Has w' (X + F) → Ext w w' → RdInts w' A l) (h : newOk l) :
    Calls Try.prog 24 #[.slice A l.length c] w fun e w' => ∃ b m, e = .returned (.tuple #[.pointer (some ⟨b, 0, none⟩), .int .i64 0]) ∧ Has w' (m + F) ∧ Ext w w' ∧ IsNet 0 (Net.new l) [] b m := by
  obtain ⟨h2, h5, hb⟩ := h
  have h2' : ¬ (l.length : Int) < 2 := by omega
  have h5' : ¬ (5 : Int) < l.length := by omega
  have H := hid (contains_any A c l w (hr w 0 (by rw [MS.zero_add]; exact hH) (Ext.refl w)) (by omega))
  rw [hb] at H
  have Hb := hid hb
  have HR := hid hr
  have HH := hid hH
  clear hb hr hH
  go_enter Try.func24, Try.ntmps24
  go_wp2_with (go_at_call 61; refine H.out.mono ?_; rintro e w' ⟨rfl, rfl⟩)
  have HB := HH.out.alloc (.cells #[.slice none 0 0, .slice none 0 0, .slice none 0 0, .slice none 0 0] 84)
  have HEB := Ext.alloc w (.cells #[.slice none 0 0, .slice none 0 0, .slice none 0 0, .slice none 0 0] 84)
  generalize hbb : w.heap.size = b at *
  clear hbb
  generalize w.alloc _ = w1 at *
  have HI : NewInv F w b l (.int .i64 0) w1 := by
    refine ⟨0, Nat.zero_le _, rfl, .slice none 0 0, 0, .slice none 0 0, 0, ⟨[], 0, 0, Sl.nil 107 3, RowsR.nil, (MS.zero_add 0).symm⟩, ⟨[], 0, 0, Sl.nil 92 1, RowsR.nil, (MS.zero_add 0).symm⟩, ?_, HEB⟩
    rw [MS.zero_add, MS.zero_add]; exact HB
  have HI' := hid HI
  clear HI HB HEB
  go_loopw [24] (fun v wr => NewInv F w b l v wr) (fun v _ => l.length - (intOf v).toNat)
  case atStart => exact HI'.out
  case round =>
    obtain ⟨t, ht, rfl, vs, ms, vl, ml, hs, hl, hHt, hEt⟩ := hrel
    have hrd := HR.out wr (blk b #[vs, vl, .slice none 0 0, .slice none 0 0] 84 + (ms + ml)) (hHt.eq (by ac_rfl)) hEt
    by_cases hlt : t < l.length
    · obtain ⟨A0, rfl⟩ : ∃ a, A = some a := by
        cases A with
        | none => have := hrd.1 rfl; rw [this] at hlt; simp at hlt
        | some a => exact ⟨a, rfl⟩
      have hc := hrd.2 A0 rfl t (.int .i64 l[t]) (by simp [hlt])
      obtain ⟨u, hu⟩ : ∃ u, u = l[t] := ⟨_, rfl⟩
      rw [← hu] at hc
      have htk : ((l.take (t + 1)).map (Sta.new l.length)) = (l.take t).map (Sta.new l.length) ++ [Sta.new l.length u] := by
        rw [List.take_succ_eq_append_getElem hlt, List.map_append, hu]; rfl
      have Htk := hid htk
      obtain ⟨As, cs, rfl, _, _⟩ := SlR.form hs
      obtain ⟨Al, cl, rfl, _, _⟩ := SlR.form hl
      have hls : ((l.take t).map (Sta.new l.length)).length = t := by simp; omega
      rw [hls] at hs hHt
      rw [List.length_replicate] at hl hHt
      obtain ⟨xs, ms1, ms2, hsl, hrw, rfl⟩ := hs
      obtain ⟨xl, ml1, ml2, hsl2, hrw2, rfl⟩ := hl
      rw [hls] at hsl
      rw [List.length_replicate] at hsl2
      have Hlt := hid hlt
      have Hr := hid (And.intro hrw (And.intro hsl2 hrw2))
      have HE := hid hEt
      clear htk hls hrw hsl2 hrw2 hEt hrd hu HI' HR
      go_wp2
      have H3 : Has wr.drew (blk b #[.slice As t cs, .slice Al t cl, .slice none 0 0, .slice none 0 0] 84 + (ms1 + ms2 + (ml1 + ml2 + F))) := hHt.drew
      have hS1 : wr.drew.cell? ⟨b, 0, none⟩ = some (.slice As t cs) := H3.at_ rfl
      refine wp_region_txt (fun W => W.cell? ⟨b, 0, none⟩ = some (.slice As t cs)) (some 13)
        [(0, true), (1, true), (2, true), (3, true), (4, true), (5, true), (6, true), (7, false), (8, true), (9, false), (10, false), (11, true), (12, true), (13, false)]
        (by kernel_rfl) rfl (by kernel_rfl) (by kernel_rfl) (by repeat (first | exact PanicOk.body _ _ _ | refine PanicOk.thn ?_ | refine PanicOk.blk ?_)) ?_
      repeat
        (refine txt_quiet ?_ hS1 rfl rfl (fun W hW => ?_) ?_
         rotate_left 1
         · obtain hW1 := hW
           go_simp
           exact rfl
         simp only [Act.put, List.setIfInBounds_toArray, List.set_cons_zero, List.set_cons_succ])
      refine txt_op rfl rfl ?_
      refine op_make_sl (.tmp 34) (.tmp 34) 22 rfl 3 _ 1 8 Try.underlying22 info3 .i64 .i64 l.length rfl rfl (by omega) (by simp only [maxLen]; omega) _ H3 ?_
      intro v5 w5 m5 h51 H5 E5 _
      obtain ⟨A5, c5, rfl, _⟩ := h51.form
      have hS5 : w5.cell? ⟨b, 0, none⟩ = some (.slice As t cs) := (H5.eq (b := blk b #[.slice As t cs, .slice Al t cl, .slice none 0 0, .slice none 0 0] 84 + (m5 + (ms1 + ms2 + (ml1 + ml2 + F)))) (by ac_rfl)).at_ rfl
      refine ⟨fun _ => hS5, ?_⟩
      simp only [Act.put, List.setIfInBounds_toArray, List.set_cons_zero, List.set_cons_succ]
      repeat
        (refine txt_quiet ?_ hS5 rfl rfl (fun W hW => ?_) ?_
         rotate_left 1
         · obtain hW1 := hW
           go_simp
           exact rfl
         simp only [Act.put, List.setIfInBounds_toArray, List.set_cons_zero, List.set_cons_succ])
      refine txt_op rfl rfl ?_
      refine op_run (.slice (some ⟨w5.heap.size, 0, none⟩) 1 1) (w5.alloc (.cells #[.int .i64 u, .int .i64 0, .slice A5 l.length c5] 107)) (by go_simp) ?_
      have H6 := H5.alloc (.cells #[.int .i64 u, .int .i64 0, .slice A5 l.length c5] 107)
      have hS6 : (w5.alloc (.cells #[.int .i64 u, .int .i64 0, .slice A5 l.length c5] 107)).cell? ⟨b, 0, none⟩ = some (.slice As t cs) := (H6.eq (b := blk b #[.slice As t cs, .slice Al t cl, .slice none 0 0, .slice none 0 0] 84 + (pts w5.heap.size (.cells #[.int .i64 u, .int .i64 0, .slice A5 l.length c5] 107) + (m5 + (ms1 + ms2 + (ml1 + ml2 + F))))) (by ac_rfl)).at_ rfl
      refine ⟨fun _ => hS6, ?_⟩
      simp only [Act.put, List.setIfInBounds_toArray, List.set_cons_zero, List.set_cons_succ]
      refine txt_op rfl rfl ?_
      refine op_append_sl (.tmp 32) (.tmp 37) 80 rfl 107 _ 3 40 Try.underlying80 info107 rfl (.slice As t cs) rfl (some ⟨w5.heap.size, 0, none⟩) 1 1 rfl t xs ms1 _ hsl
        (H6.right.eq (b := ms1 + (blk b #[.slice As t cs, .slice Al t cl, .slice none 0 0, .slice none 0 0] 84 + (m5 + (ms2 + (ml1 + ml2 + F))))) (by ac_rfl))
        [.int .i64 u, .int .i64 0, .slice A5 l.length c5] rfl (by simp) (fun a ha => by injection ha with ha; subst ha; exact World.news_of_block (heap_alloc_new _ _)) (by simp [Value.oneCell']) (by simp only [maxLen]; omega) (by omega) ?_
      intro v7 w7 m7 h71 H7 E7
      obtain ⟨A7, c7, rfl, _⟩ := h71.form
      have hS7 : w7.cell? ⟨b, 0, none⟩ = some (.slice As t cs) := (H7.eq (b := blk b #[.slice As t cs, .slice Al t cl, .slice none 0 0, .slice none 0 0] 84 + (m7 + (m5 + (ms2 + (ml1 + ml2 + F))))) (by ac_rfl)).at_ rfl
      refine ⟨fun _ => hS7, ?_⟩
      simp only [Act.put, List.setIfInBounds_toArray, List.set_cons_zero, List.set_cons_succ]
      repeat
        (refine txt_quiet ?_ hS7 rfl rfl (fun W hW => ?_) ?_
         rotate_left 1
         · obtain hW1 := hW
           go_simp
           exact rfl
         simp only [Act.put, List.setIfInBounds_toArray, List.set_cons_zero, List.set_cons_succ])
      refine txt_op rfl rfl ?_
      refine op_store_blk (.tmp 40) (.tmp 38) 80 rfl size80 b 0 (.slice A7 (t + 1) c7) rfl rfl rfl #[.slice As t cs, .slice Al t cl, .slice none 0 0, .slice none 0 0] 84 (m7 + (m5 + (ms2 + (ml1 + ml2 + F)))) (H7.eq (by ac_rfl)) (by simp) ?_
      intro w8 H8 E8
      refine ⟨fun h => absurd rfl h, ?_⟩
      simp only [Act.put]
      refine txt_done ?_
      have hb2 : SlR 107 3 StaR ((l.take (t + 1)).map (Sta.new l.length)) (.slice A7 (t + 1) c7) (m7 + (ms2 + m5)) := by
        rw [Htk.out]
        have hls : ((l.take t).map (Sta.new l.length) ++ [Sta.new l.length u]).length = t + 1 := by have := Hlt.out; simp; omega
        exact SlR.of (by rw [hls]; exact h71) (Hr.out.1.append (RowsR.one ⟨_, rfl, made_ints h51, rfl⟩))
      have H8' : Has w8 (blk b #[.slice A7 (t + 1) c7, .slice Al t cl, .slice none 0 0, .slice none 0 0] 84 + (m7 + (ms2 + m5) + (ml1 + ml2 + F))) := H8.eq (by show blk b #[.slice A7 (t + 1) c7, .slice Al t cl, .slice none 0 0, .slice none 0 0] 84 + _ = _; ac_rfl)
      have E8' := hid ((((HE.out.trans (Ext.drew _)).trans E5).trans (Ext.alloc w5 (.cells #[.int .i64 u, .int .i64 0, .slice A5 l.length c5] 107))).trans (E7.trans E8))
      have Hb2 := hid hb2
      generalize m7 + (ms2 + m5) = mb at *
      clear hS1 hS5 hS6 hS7 H3 H5 H6 H7 H8 E5 E7 E8 h51 h71 hb2 hHt hsl
      go_wp2
      have H3 : Has w8.drew (blk b #[.slice A7 (t + 1) c7, .slice Al t cl, .slice none 0 0, .slice none 0 0] 84 + (mb + (ml1 + ml2 + F))) := H8'.drew
      have hS1 : w8.drew.cell? ⟨b, 1, none⟩ = some (.slice Al t cl) := H3.at_ rfl
      refine wp_region_txt (fun W => W.cell? ⟨b, 1, none⟩ = some (.slice Al t cl)) (some 11)
        [(0, true), (1, true), (2, true), (3, true), (4, true), (5, true), (6, false), (7, false), (8, false), (9, true), (10, true), (11, false)]
        (by kernel_rfl) rfl (by kernel_rfl) (by kernel_rfl) (by repeat (first | exact PanicOk.body _ _ _ | refine PanicOk.thn ?_ | refine PanicOk.blk ?_)) ?_
      repeat
        (refine txt_quiet ?_ hS1 rfl rfl (fun W hW => ?_) ?_
         rotate_left 1
         · obtain hW1 := hW
           go_simp
           exact rfl
         simp only [Act.put, List.setIfInBounds_toArray, List.set_cons_zero, List.set_cons_succ])
      refine txt_op rfl rfl ?_
      refine op_make_sl (.tmp 46) (.tmp 46) 92 rfl 91 _ 1 24 Try.underlying92 info91 .i64 .i64 l.length rfl rfl (by omega) (by simp only [maxLen]; omega) _ H3 ?_
      intro v5 w5 m5 h51 H5 E5 _
      obtain ⟨A5, c5, rfl, _⟩ := h51.form
      have hS5 : w5.cell? ⟨b, 1, none⟩ = some (.slice Al t cl) := (H5.eq (b := blk b #[.slice A7 (t + 1) c7, .slice Al t cl, .slice none 0 0, .slice none 0 0] 84 + (m5 + (mb + (ml1 + ml2 + F)))) (by ac_rfl)).at_ rfl
      refine ⟨fun _ => hS5, ?_⟩
      simp only [Act.put, List.setIfInBounds_toArray, List.set_cons_zero, List.set_cons_succ]
      refine txt_op rfl rfl ?_
      refine op_run (.slice (some ⟨w5.heap.size, 0, none⟩) 1 1) (w5.alloc (.cells #[.slice A5 l.length c5] 92)) (by go_simp) ?_
      have H6 := H5.alloc (.cells #[.slice A5 l.length c5] 92)
      have hS6 : (w5.alloc (.cells #[.slice A5 l.length c5] 92)).cell? ⟨b, 1, none⟩ = some (.slice Al t cl) := (H6.eq (b := blk b #[.slice A7 (t + 1) c7, .slice Al t cl, .slice none 0 0, .slice none 0 0] 84 + (pts w5.heap.size (.cells #[.slice A5 l.length c5] 92) + (m5 + (mb + (ml1 + ml2 + F))))) (by ac_rfl)).at_ rfl
      refine ⟨fun _ => hS6, ?_⟩
      simp only [Act.put, List.setIfInBounds_toArray, List.set_cons_zero, List.set_cons_succ]
      obtain ⟨_, hsl2, hrw2⟩ := Hr.out
      refine txt_op rfl rfl ?_
      refine op_append_sl (.tmp 45) (.tmp 48) 81 rfl 92 _ 1 24 Try.underlying81 info92 rfl (.slice Al t cl) rfl (some ⟨w5.heap.size, 0, none⟩) 1 1 rfl t xl ml1 _ hsl2
        (H6.right.eq (b := ml1 + (blk b #[.slice A7 (t + 1) c7, .slice Al t cl, .slice none 0 0, .slice none 0 0] 84 + (m5 + (mb + (ml2 + F))))) (by ac_rfl))
        [.slice A5 l.length c5] rfl (by simp) (fun a ha => by injection ha with ha; subst ha; exact World.news_of_block (heap_alloc_new _ _)) (by simp [Value.oneCell']) (by simp only [maxLen]; omega) (by omega) ?_
      intro v9 w9 m9 h91 H9 E9
      obtain ⟨A9, c9, rfl, _⟩ := h91.form
      have hS9 : w9.cell? ⟨b, 1, none⟩ = some (.slice Al t cl) := (H9.eq (b := blk b #[.slice A7 (t + 1) c7, .slice Al t cl, .slice none 0 0, .slice none 0 0] 84 + (m9 + (m5 + (mb + (ml2 + F))))) (by ac_rfl)).at_ rfl
      refine ⟨fun _ => hS9, ?_⟩
      simp only [Act.put, List.setIfInBounds_toArray, List.set_cons_zero, List.set_cons_succ]
      repeat
        (refine txt_quiet ?_ hS9 rfl rfl (fun W hW => ?_) ?_
         rotate_left 1
         · obtain hW1 := hW
           go_simp
           exact rfl
         simp only [Act.put, List.setIfInBounds_toArray, List.set_cons_zero, List.set_cons_succ])
      refine txt_op rfl rfl ?_
      refine op_store_blk (.tmp 51) (.tmp 49) 81 rfl size81 b 1 (.slice A9 (t + 1) c9) rfl rfl rfl #[.slice A7 (t + 1) c7, .slice Al t cl, .slice none 0 0, .slice none 0 0] 84 (m9 + (m5 + (mb + (ml2 + F)))) (H9.eq (by ac_rfl)) (by simp) ?_
      intro w10 H10 E10
      refine ⟨fun h => absurd rfl h, ?_⟩
      simp only [Act.put]
      refine txt_done ?_
      have hu2 := hid (show Chans 0 (List.replicate (t + 1) (List.replicate l.length [])) (.slice A9 (t + 1) c9) (m9 + (ml2 + m5)) by
        rw [List.replicate_succ']
        exact SlR.of (by simpa using h91) (hrw2.append (RowsR.one ⟨_, rfl, made_lines h51, rfl⟩)))
      have H10' := hid (show Has w10 (blk b #[.slice A7 (t + 1) c7, .slice A9 (t + 1) c9, .slice none 0 0, .slice none 0 0] 84 + (mb + ((m9 + (ml2 + m5)) + F))) from
        H10.eq (by show blk b #[.slice A7 (t + 1) c7, .slice A9 (t + 1) c9, .slice none 0 0, .slice none 0 0] 84 + _ = _; ac_rfl))
      have E10' := hid ((((E8'.out.trans (Ext.drew _)).trans E5).trans (Ext.alloc w5 (.cells #[.slice A5 l.length c5] 92))).trans (E9.trans E10))
      clear hS1 hS5 hS6 hS9 H3 H5 H6 H9 H10 E5 E9 E10 h51 h91 hsl2 hrw2 H8'
      go_wp2
      go_roundw
      case rel => exact ⟨t + 1, Hlt.out, by go_num, _, _, _, _, Hb2.out, hu2.out, H10'.out, E10'.out⟩
      case measure => have := Hlt.out; simp [intOf]; omega
    · obtain rfl : t = l.length := by omega
      rw [List.take_length] at hs
      have HX := hid (show ∃ m, Has wr (m + F) ∧ Ext w wr ∧ IsNet 0 (Net.new l) [] b m from
        ⟨blk b #[vs, vl, .slice none 0 0, .slice none 0 0] 84 + (ms + (ml + (0 + 0))), hHt.eq (by rw [MS.add_zero, MS.add_zero]; ac_rfl), hEt, rfl, vs, vl, .slice none 0 0, .slice none 0 0, ms, ml, 0, 0, rfl, hs, hl,
          ⟨[], 0, 0, Sl.nil 101 1, RowsR.nil, (MS.zero_add 0).symm⟩, ⟨[], 0, 0, Sl.nil 68 5, RowsR.nil, (MS.zero_add 0).symm⟩⟩)
      clear hs hl hHt hEt hrd
      go_wp2
      go_ret2
      obtain ⟨m, x1, x2, x3⟩ := HX.out
      exact ⟨b, m, rfl, x1, x2, x3⟩
end Go.Proofs.Ytnkgfgkgepadhaa

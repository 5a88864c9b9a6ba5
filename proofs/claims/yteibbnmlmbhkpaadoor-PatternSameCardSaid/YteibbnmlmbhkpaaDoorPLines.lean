/-
  The walk of lines.
-/
import Derived.Test.YteibbnmlmbhkpaaDoorPW9
import Derived.Test.YteibbnmlmbhkpaaDoorPMap
import Derived.Test.YteibbnmlmbhkpaaDoorPTree
namespace Go.Proofs.YteibbnmlmbhkpaaDoor
open Go.RowKit
set_option linter.unusedVariables false
set_option linter.unusedSimpArgs false
set_option maxHeartbeats 2000000
set_option maxRecDepth 100000

/-- Within reach. -/
def inR (e : Int) : Prop := -72 ≤ e ∧ e ≤ 72
/-- Has something been met so far? -/
def seenC (c : Int → Int → Prop) (e f : Int) : Prop := ∃ e' f', inR e' ∧ inR f' ∧ (e' < e ∨ (e' = e ∧ f' < f)) ∧ c e' f'
theorem seenC_start (c : Int → Int → Prop) : ¬ seenC c (-72) (-72) := fun ⟨e', f', h1, h2, h3, h4⟩ => by unfold inR at h1 h2; omega
theorem seenC_next {c : Int → Int → Prop} {e f : Int} (he : inR e) (hf : inR f) : seenC c e (f + 1) ↔ seenC c e f ∨ c e f := by
  constructor
  · rintro ⟨e', f', h1, h2, h3, h4⟩
    by_cases heq : e' = e ∧ f' = f
    · obtain ⟨rfl, rfl⟩ := heq
      exact .inr h4
    · exact .inl ⟨e', f', h1, h2, by omega, h4⟩
  · rintro (⟨e', f', h1, h2, h3, h4⟩ | h)
    · exact ⟨e', f', h1, h2, by omega, h4⟩
    · exact ⟨e, f, he, hf, by omega, h⟩
theorem seenC_row {c : Int → Int → Prop} {e : Int} : seenC c e 73 ↔ seenC c (e + 1) (-72) := by
  constructor
  · rintro ⟨e', f', h1, h2, h3, h4⟩
    exact ⟨e', f', h1, h2, by omega, h4⟩
  · rintro ⟨e', f', h1, h2, h3, h4⟩
    unfold inR at h1 h2
    exact ⟨e', f', h1, h2, by omega, h4⟩
theorem seenC_end {c : Int → Int → Prop} : seenC c 73 (-72) ↔ ∃ e f, inR e ∧ inR f ∧ c e f := by
  constructor
  · rintro ⟨e', f', h1, h2, h3, h4⟩
    exact ⟨e', f', h1, h2, h4⟩
  · rintro ⟨e', f', h1, h2, h4⟩
    have := h1
    unfold inR at this
    exact ⟨e', f', h1, h2, by omega, h4⟩
/-- A mirrored symmetry whose line is this; a mirror. -/
def cAll (p : List ByteArray) (g : Gd) (k : Nat) (a e f : Int) : Prop := hasB p g k e f = true ∧ lineAt k e f = a
def cMir (p : List ByteArray) (g : Gd) (k : Nat) (a e f : Int) : Prop := hasB p g k e f = true ∧ lineAt k e f = a ∧ lineAlong k e f = 0
def lnAll (p : List ByteArray) (g : Gd) (k : Nat) (a : Int) : Prop := ∃ e f, inR e ∧ inR f ∧ cAll p g k a e f
def lnMir (p : List ByteArray) (g : Gd) (k : Nat) (a : Int) : Prop := ∃ e f, inR e ∧ inR f ∧ cMir p g k a e f
/-- A map that reads as a set. -/
def LnV (F : MS) (v : Value) (pr : Int → Prop) : Prop := ∃ g S es clock, v = .map (some g) ∧ F.g g (.map es clock) ∧ SetZ S es clock ∧ (∀ a, a ∈ S ↔ pr a) ∧ S.length ≤ 30000
theorem LnV.more {F : MS} {v : Value} {pr : Int → Prop} (h : LnV F v pr) (X : MS) : LnV (X + F) v pr := by
  obtain ⟨g, S, es, clock, h1, h2, h3⟩ := h
  exact ⟨g, S, es, clock, h1, Or.inr h2, h3⟩
structure Lns (F : MS) (p : List ByteArray) (g : Gd) (lb : Nat) : Prop where
  mir : ∀ k, 4 ≤ k → k < 8 → ∃ v, F.at lb k v ∧ LnV F v (lnMir p g k)
  all : ∀ k, 4 ≤ k → k < 8 → ∃ v, F.at lb (8 + k) v ∧ LnV F v (lnAll p g k)
theorem kindOf_knd (k : Nat) (hk : k < 8) (e f : Int) : kindOf (knd k e f) = k := by
  have h : k = 0 ∨ k = 1 ∨ k = 2 ∨ k = 3 ∨ k = 4 ∨ k = 5 ∨ k = 6 ∨ k = 7 := by omega
  rcases h with rfl | rfl | rfl | rfl | rfl | rfl | rfl | rfl <;> rfl
theorem kinds_at (k : Nat) (hk : k < 8) : kinds[k]? = some (knd k 0 0) := by
  have h : k = 0 ∨ k = 1 ∨ k = 2 ∨ k = 3 ∨ k = 4 ∨ k = 5 ∨ k = 6 ∨ k = 7 := by omega
  rcases h with rfl | rfl | rfl | rfl | rfl | rfl | rfl | rfl <;> rfl
theorem region_via {P : Program} {c : Code} {a : Act} {w : World} {Q : Exit → Act → World → Prop} (F : Nat → Nat → Act → Act) (R : Nat → Nat → World → Prop)
    (h : c.wp P (fun e a' W => e = .normal ∧ ∃ g4 g5, a' = F g4 g5 a ∧ R g4 g5 W) a w) (h2 : ∀ g4 g5 W, R g4 g5 W → Q .normal (F g4 g5 a) W) : c.wp P Q a w :=
  Code.wp_mono (fun e a' W ⟨h1, g4, g5, h3, h4⟩ => by rw [h1, h3]; exact h2 g4 g5 W h4) h
/-- The two sets of a kind so far. -/
structure LSt (p : List ByteArray) (g : Gd) (k : Nat) (e f : Int) (g1 g2 : Nat) (R : MS) (S1 S2 : List Int) (es1 es2 : Array MapEntry) (c1 c2 : Nat) (W : World) : Prop where
  s1 : SetZ S1 es1 c1
  s2 : SetZ S2 es2 c2
  m1 : ∀ a, a ∈ S1 ↔ seenC (cMir p g k a) e f
  m2 : ∀ a, a ∈ S2 ↔ seenC (cAll p g k a) e f
  l1 : (S1.length : Int) ≤ (e + 72) * 145 + (f + 72)
  l2 : (S2.length : Int) ≤ (e + 72) * 145 + (f + 72)
  hW : Has W (pts g1 (.map es1 c1) + (pts g2 (.map es2 c2) + R))
theorem line_ok {k : Nat} {e f : Int} (he : inR e) (hf : inR f) : zOk (lineAt k e f) := by
  unfold inR at he hf
  unfold zOk lineAt
  split
  · omega
  · split
    · omega
    · split <;> omega
theorem size110 : (Tryd.prog.info? 110).map (·.size) = some 1 := by kernel_rfl
/-- The maps' blocks as they are filled. -/
structure LPart (p : List ByteArray) (g : Gd) (k : Nat) (C : Array Value) (M : MS) : Prop where
  sz : C.size = 16
  mir : ∀ k', 4 ≤ k' → k' < k → ∃ v, C[k']? = some v ∧ LnV M v (lnMir p g k')
  all : ∀ k', 4 ≤ k' → k' < k → ∃ v, C[8 + k']? = some v ∧ LnV M v (lnAll p g k')
theorem lines_any {F : MS} {p : List ByteArray} {g : Gd} {gb : Nat} {w : World} (h : PGr F p g gb) (hk : KinOk F) (hH : Has w F) :
    Calls Tryd.prog 63 #[.pointer (some ⟨gb, 0, none⟩)] w fun e w' => ∃ lb X, e = .returned (.pointer (some ⟨lb, 0, none⟩)) ∧ Lns X p g lb ∧ Has w' X ∧ Kp w w' := by
  have Hg := hid h
  have Hk := hid hk
  have HH := hid hH
  clear h hk hH
  go_enter Tryd.func63, Tryd.ntmps63
  go_wp2
  obtain ⟨C0, hC0⟩ : ∃ C0, C0 = #[Value.map none, Value.map none, Value.map none, Value.map none, Value.map none, Value.map none, Value.map none, Value.map none, Value.map none, Value.map none, Value.map none, Value.map none, Value.map none, Value.map none, Value.map none, Value.map none] := ⟨_, rfl⟩
  have P0 := hid (show LPart p g 4 C0 (MS.all w) by rw [hC0]; exact ⟨rfl, fun k' h1 h2 => by omega, fun k' h1 h2 => by omega⟩)
  rw [← hC0]
  obtain ⟨lb, hlb⟩ : ∃ lb, lb = w.heap.size := ⟨_, rfl⟩
  obtain ⟨W1, hW1⟩ : ∃ W1, W1 = w.alloc (.cells C0 113) := ⟨_, rfl⟩
  have HW1 := hid (show Has W1 (blk lb C0 113 + MS.all w) by rw [hW1, hlb]; exact (Has.all w).alloc _)
  have HE1 := hid (show Ext w W1 by rw [hW1]; exact Ext.alloc w _)
  rw [← hW1, ← hlb]
  clear hC0 hW1 hlb
  have HN0 := hid (show ∀ W X, Has W (X + MS.all w) → ∀ N, Has w N → Has W N from fun W X hW N hN => hN.of_all hW)
  go_loopw [4] (fun v wr => ∃ k : Nat, ∃ C M, 4 ≤ k ∧ k ≤ 8 ∧ v = .int .i64 k ∧ LPart p g k C M ∧ Has wr (blk lb C 113 + M) ∧ (∀ W X, Has W (X + M) → ∀ N, Has w N → Has W N) ∧ Ext w wr) (fun v _ => 8 - (intOf v).toNat)
  case atStart => exact ⟨4, C0, MS.all w, Nat.le_refl _, by omega, rfl, P0.out, HW1.out, HN0.out, HE1.out⟩
  case round =>
    obtain ⟨k, C, M, h4, hk8, rfl, hP, hW, hN, hE⟩ := hrel
    have HP := hid hP
    have HW := hid hW
    have HN := hid hN
    have HE := hid hE
    clear hP hW hN hE P0 HW1 HE1 HN0
    by_cases hlt : k < 8
    · have hltI : (k : Int) < 8 := by omega
      have Hlt := hid hlt
      have H4 := hid h4
      clear hlt hk8 h4
      go_wp2
      refine region_via (fun g4 g5 a => (((((((((((((a.put (some 16) (.pointer (some ⟨lb, 0, none⟩))).put (some 17) (.int .i64 k)).put (some 18) (.pointer (some ⟨lb, 0, none⟩))).put (some 19) (.int .i64 k)).put (some 20) (.map (some g4))).put (some 21) (.map (some g5))).put (some 22) (.pointer (some ⟨lb, 0, none⟩))).put (some 23) (.pointer (some ⟨lb, 0, none⟩))).put (some 24) (.pointer (some ⟨lb, k, none⟩))).put none undef).put (some 25) (.pointer (some ⟨lb, 0, none⟩))).put (some 26) (.pointer (some ⟨lb, 8, none⟩))).put (some 27) (.pointer (some ⟨lb, 8 + k, none⟩))))
        (fun g4 g5 W => Has W (pts g4 (.map #[] 0) + (pts g5 (.map #[] 0) + (blk lb ((C.setIfInBounds k (.map (some g4))).setIfInBounds (8 + k) (.map (some g5))) 113 + M))) ∧ Ext w W) ?_ ?_
      · have hS : True := trivial
        have K0 := hid HW.out.drew
        have E0 := hid (HE.out.trans (Ext.drew _))
        refine wp_region_tree (fun _ => True) none (.quiet 0 (.quiet 1 (.quiet 2 (.quiet 3 (.quiet 6 (.quiet 7 (.quiet 10 (.quiet 11 (.two 4 5
          (.quiet 8 (.two 5 9 (.one 9 (.quiet 12 (.one 13 .done))) (.one 5 (.quiet 12 (.one 13 .done)))))
          (.one 4 (.quiet 8 (.one 9 (.quiet 12 (.one 13 .done)))))))))))))) (by kernel_rfl) (by kernel_rfl) (by kernel_rfl) (fun _ _ _ _ _ h => (by obtain ⟨h, _⟩ := h; cases h)) ?_
        repeat
          (refine tree_quiet ?_ hS rfl rfl (fun W hW => ?_) ?_
           rotate_left 1
           · obtain hW1 := hW
             go_simp
             exact rfl
           simp only [Act.put, List.setIfInBounds_toArray, List.set_cons_zero, List.set_cons_succ])
        refine tree_two ?_ ?_
        · refine tree_op rfl rfl ?_
          refine op_run (.map (some wr.drew.heap.size)) (wr.drew.alloc (.map #[] 0)) (ex_makeMap rfl) ?_
          have K1 := hid (K0.out.alloc (.map #[] 0))
          have E1 := hid (E0.out.trans (Ext.alloc wr.drew (.map #[] 0)))
          generalize wr.drew.heap.size = g4 at *
          generalize wr.drew.alloc _ = wa at *
          refine ⟨fun _ => trivial, ?_⟩
          simp only [Act.put, List.setIfInBounds_toArray, List.set_cons_zero, List.set_cons_succ]
          repeat
            (refine tree_quiet ?_ hS rfl rfl (fun W hW => ?_) ?_
             rotate_left 1
             · obtain hW1 := hW
               go_simp
               exact rfl
             simp only [Act.put, List.setIfInBounds_toArray, List.set_cons_zero, List.set_cons_succ])
          refine tree_two ?_ ?_
          · refine tree_op rfl rfl ?_
            refine op_run (.map (some wa.heap.size)) (wa.alloc (.map #[] 0)) (ex_makeMap rfl) ?_
            have K2 := hid (K1.out.alloc (.map #[] 0))
            have E2 := hid (E1.out.trans (Ext.alloc wa (.map #[] 0)))
            generalize wa.heap.size = g5 at *
            generalize wa.alloc _ = wb at *
            refine ⟨fun _ => trivial, ?_⟩
            simp only [Act.put, List.setIfInBounds_toArray, List.set_cons_zero, List.set_cons_succ]
            refine tree_op rfl rfl ?_
            refine op_store_blk (.tmp 24) (.tmp 20) 110 rfl size110 lb k (.map (some g4)) rfl rfl rfl C 113 _ (K2.out.eq (b := blk lb C 113 + (pts g5 (.map #[] 0) + (pts g4 (.map #[] 0) + M))) (by ac_rfl)) (by rw [HP.out.sz]; have := Hlt.out; omega) ?_
            intro wc k1 k2
            have K3 := hid k1
            have E3 := hid (E2.out.trans k2)
            clear k1 k2
            refine ⟨fun _ => trivial, ?_⟩
            simp only [Act.put, List.setIfInBounds_toArray, List.set_cons_zero, List.set_cons_succ]
            repeat
              (refine tree_quiet ?_ hS rfl rfl (fun W hW => ?_) ?_
               rotate_left 1
               · obtain hW1 := hW
                 go_simp
                 exact rfl
               simp only [Act.put, List.setIfInBounds_toArray, List.set_cons_zero, List.set_cons_succ])
            refine tree_op rfl rfl ?_
            refine op_store_blk (.tmp 27) (.tmp 21) 110 rfl size110 lb (8 + k) (.map (some g5)) rfl rfl rfl (C.setIfInBounds k (.map (some g4))) 113 _ (K3.out.eq (b := blk lb (C.setIfInBounds k (.map (some g4))) 113 + (pts g5 (.map #[] 0) + (pts g4 (.map #[] 0) + M))) (by ac_rfl)) (by rw [Array.size_setIfInBounds, HP.out.sz]; have := Hlt.out; omega) ?_
            intro wd k1 k2
            have K4 := hid k1
            have E4 := hid (E3.out.trans k2)
            clear k1 k2
            refine ⟨fun _ => trivial, ?_⟩
            simp only [Act.put, List.setIfInBounds_toArray, List.set_cons_zero, List.set_cons_succ]
            refine tree_done ?_
            exact ⟨rfl, g4, g5, rfl, K4.out.eq (by ac_rfl), E4.out⟩
          · refine tree_op rfl rfl ?_
            refine op_store_blk (.tmp 24) (.tmp 20) 110 rfl size110 lb k (.map (some g4)) rfl rfl rfl C 113 _ (K1.out.eq (b := blk lb C 113 + (pts g4 (.map #[] 0) + M)) (by ac_rfl)) (by rw [HP.out.sz]; have := Hlt.out; omega) ?_
            intro wb k1 k2
            have K2 := hid k1
            have E2 := hid (E1.out.trans k2)
            clear k1 k2
            refine ⟨fun _ => trivial, ?_⟩
            simp only [Act.put, List.setIfInBounds_toArray, List.set_cons_zero, List.set_cons_succ]
            refine tree_op rfl rfl ?_
            refine op_run (.map (some wb.heap.size)) (wb.alloc (.map #[] 0)) (ex_makeMap rfl) ?_
            have K3 := hid (K2.out.alloc (.map #[] 0))
            have E3 := hid (E2.out.trans (Ext.alloc wb (.map #[] 0)))
            generalize wb.heap.size = g5 at *
            generalize wb.alloc _ = wc at *
            refine ⟨fun _ => trivial, ?_⟩
            simp only [Act.put, List.setIfInBounds_toArray, List.set_cons_zero, List.set_cons_succ]
            repeat
              (refine tree_quiet ?_ hS rfl rfl (fun W hW => ?_) ?_
               rotate_left 1
               · obtain hW1 := hW
                 go_simp
                 exact rfl
               simp only [Act.put, List.setIfInBounds_toArray, List.set_cons_zero, List.set_cons_succ])
            refine tree_op rfl rfl ?_
            refine op_store_blk (.tmp 27) (.tmp 21) 110 rfl size110 lb (8 + k) (.map (some g5)) rfl rfl rfl (C.setIfInBounds k (.map (some g4))) 113 _ (K3.out.eq (b := blk lb (C.setIfInBounds k (.map (some g4))) 113 + (pts g5 (.map #[] 0) + (pts g4 (.map #[] 0) + M))) (by ac_rfl)) (by rw [Array.size_setIfInBounds, HP.out.sz]; have := Hlt.out; omega) ?_
            intro wd k1 k2
            have K4 := hid k1
            have E4 := hid (E3.out.trans k2)
            clear k1 k2
            refine ⟨fun _ => trivial, ?_⟩
            simp only [Act.put, List.setIfInBounds_toArray, List.set_cons_zero, List.set_cons_succ]
            refine tree_done ?_
            exact ⟨rfl, g4, g5, rfl, K4.out.eq (by ac_rfl), E4.out⟩
        · refine tree_op rfl rfl ?_
          refine op_run (.map (some wr.drew.heap.size)) (wr.drew.alloc (.map #[] 0)) (ex_makeMap rfl) ?_
          have K1 := hid (K0.out.alloc (.map #[] 0))
          have E1 := hid (E0.out.trans (Ext.alloc wr.drew (.map #[] 0)))
          generalize wr.drew.heap.size = g5 at *
          generalize wr.drew.alloc _ = wa at *
          refine ⟨fun _ => trivial, ?_⟩
          simp only [Act.put, List.setIfInBounds_toArray, List.set_cons_zero, List.set_cons_succ]
          refine tree_op rfl rfl ?_
          refine op_run (.map (some wa.heap.size)) (wa.alloc (.map #[] 0)) (ex_makeMap rfl) ?_
          have K2 := hid (K1.out.alloc (.map #[] 0))
          have E2 := hid (E1.out.trans (Ext.alloc wa (.map #[] 0)))
          generalize wa.heap.size = g4 at *
          generalize wa.alloc _ = wb at *
          refine ⟨fun _ => trivial, ?_⟩
          simp only [Act.put, List.setIfInBounds_toArray, List.set_cons_zero, List.set_cons_succ]
          repeat
            (refine tree_quiet ?_ hS rfl rfl (fun W hW => ?_) ?_
             rotate_left 1
             · obtain hW1 := hW
               go_simp
               exact rfl
             simp only [Act.put, List.setIfInBounds_toArray, List.set_cons_zero, List.set_cons_succ])
          refine tree_op rfl rfl ?_
          refine op_store_blk (.tmp 24) (.tmp 20) 110 rfl size110 lb k (.map (some g4)) rfl rfl rfl C 113 _ (K2.out.eq (b := blk lb C 113 + (pts g5 (.map #[] 0) + (pts g4 (.map #[] 0) + M))) (by ac_rfl)) (by rw [HP.out.sz]; have := Hlt.out; omega) ?_
          intro wc k1 k2
          have K3 := hid k1
          have E3 := hid (E2.out.trans k2)
          clear k1 k2
          refine ⟨fun _ => trivial, ?_⟩
          simp only [Act.put, List.setIfInBounds_toArray, List.set_cons_zero, List.set_cons_succ]
          repeat
            (refine tree_quiet ?_ hS rfl rfl (fun W hW => ?_) ?_
             rotate_left 1
             · obtain hW1 := hW
               go_simp
               exact rfl
             simp only [Act.put, List.setIfInBounds_toArray, List.set_cons_zero, List.set_cons_succ])
          refine tree_op rfl rfl ?_
          refine op_store_blk (.tmp 27) (.tmp 21) 110 rfl size110 lb (8 + k) (.map (some g5)) rfl rfl rfl (C.setIfInBounds k (.map (some g4))) 113 _ (K3.out.eq (b := blk lb (C.setIfInBounds k (.map (some g4))) 113 + (pts g5 (.map #[] 0) + (pts g4 (.map #[] 0) + M))) (by ac_rfl)) (by rw [Array.size_setIfInBounds, HP.out.sz]; have := Hlt.out; omega) ?_
          intro wd k1 k2
          have K4 := hid k1
          have E4 := hid (E3.out.trans k2)
          clear k1 k2
          refine ⟨fun _ => trivial, ?_⟩
          simp only [Act.put, List.setIfInBounds_toArray, List.set_cons_zero, List.set_cons_succ]
          refine tree_done ?_
          exact ⟨rfl, g4, g5, rfl, K4.out.eq (by ac_rfl), E4.out⟩
      · intro g1 g2 W hR
        obtain ⟨hW, hE⟩ := hR
        obtain ⟨C2, hC2⟩ : ∃ C2, C2 = (C.setIfInBounds k (.map (some g1))).setIfInBounds (8 + k) (.map (some g2)) := ⟨_, rfl⟩
        rw [← hC2] at hW
        have HC1 := hid (show C2[k]? = some (.map (some g1)) by rw [hC2, Array.getElem?_setIfInBounds_ne (by omega), Array.getElem?_setIfInBounds_self_of_lt (by rw [HP.out.sz]; have := Hlt.out; omega)])
        have HC2 := hid (show C2[8 + k]? = some (.map (some g2)) by rw [hC2, Array.getElem?_setIfInBounds_self_of_lt (by rw [Array.size_setIfInBounds, HP.out.sz]; have := Hlt.out; omega)])
        have HP2 := hid (show LPart p g k C2 M from ⟨by rw [hC2]; simp [HP.out.sz], fun k' h1 h2 => by
          have := Hlt.out
          rw [hC2, Array.getElem?_setIfInBounds_ne (by omega), Array.getElem?_setIfInBounds_ne (by omega)]; exact HP.out.mir k' h1 h2, fun k' h1 h2 => by
          have := Hlt.out
          rw [hC2, Array.getElem?_setIfInBounds_ne (by omega), Array.getElem?_setIfInBounds_ne (by omega)]; exact HP.out.all k' h1 h2⟩)
        have HSt := hid (show LSt p g k (-72) (-72) g1 g2 (blk lb C2 113 + M) [] [] #[] #[] 0 0 W from ⟨SetZ.none, SetZ.none, fun a => ⟨fun h => by simp at h, fun h => absurd h (seenC_start _)⟩, fun a => ⟨fun h => by simp at h, fun h => absurd h (seenC_start _)⟩, by simp, by simp, hW⟩)
        have HE := hid hE
        clear hW hE hC2 HP HW
        clear C
        have hm1 : ∀ e f, inR e → inR f → -1000 ≤ (knd k e f).e ∧ (knd k e f).e ≤ 1000 ∧ -1000 ≤ (knd k e f).f ∧ (knd k e f).f ≤ 1000 := fun e f he hf => by
          unfold inR at he hf
          simp only [knd]
          omega
        have HHas := hid (fun (e f : Int) (he : inR e) (hf : inR f) (W : World) (hW : Has W F) => has_any Hg.out k Hlt.out (knd k e f) (by have := hm1 e f he hf; exact ⟨this.1, this.2.1⟩) (by have := hm1 e f he hf; exact ⟨this.2.2.1, this.2.2.2⟩) W hW)
        have HLine := hid (fun (e f : Int) (he : inR e) (hf : inR f) (W : World) (hW : Has W F) => line_any Hk.out (knd k e f) W hW (by have := hm1 e f he hf; exact ⟨this.1, this.2.1⟩) (by have := hm1 e f he hf; exact ⟨this.2.2.1, this.2.2.2⟩))
        have Hkk := hid (kinds_at k Hlt.out)
        have Hkof := hid (fun e f => kindOf_knd k Hlt.out e f)
        obtain ⟨ka, kb, kc, kd, hknd⟩ := knd_eq k
        have Hknd := hid hknd
        clear hm1 hknd
        simp only [Act.put, List.setIfInBounds_toArray, List.set_cons_zero, List.set_cons_succ]
        go_wp2
        go_loopw [5] (fun v wq => ∃ e : Int, ∃ S1 S2 es1 es2 c1 c2, -72 ≤ e ∧ e ≤ 73 ∧ v = .int .i64 e ∧ LSt p g k e (-72) g1 g2 (blk lb C2 113 + M) S1 S2 es1 es2 c1 c2 wq ∧ Ext w wq) (fun v _ => (73 - intOf v).toNat)
        case atStart => exact ⟨-72, [], [], #[], #[], 0, 0, by omega, by omega, rfl, HSt.out, HE.out⟩
        case round =>
          clear HSt HE
          clear W
          obtain ⟨e, S1, S2, es1, es2, c1, c2, hel, heu, rfl, hSt, hE⟩ := hrel
          have HSt := hid hSt
          have HE := hid hE
          clear hSt hE
          by_cases hlt : e ≤ 72
          · have Hel := hid hel
            have Heu := hid hlt
            have hinR : inR e := ⟨hel, hlt⟩
            have HinE := hid hinR
            clear hinR heu
            go_wp2
            go_loopw [6] (fun v wq => ∃ f : Int, ∃ S1 S2 es1 es2 c1 c2, -72 ≤ f ∧ f ≤ 73 ∧ v = .int .i64 f ∧ LSt p g k e f g1 g2 (blk lb C2 113 + M) S1 S2 es1 es2 c1 c2 wq ∧ Ext w wq) (fun v _ => (73 - intOf v).toNat)
            case atStart => exact ⟨-72, S1, S2, es1, es2, c1, c2, by omega, by omega, rfl, HSt.out, HE.out⟩
            case round =>
              clear HSt HE
              clear S1 S2 es1 es2 c1 c2
              obtain ⟨f, S1, S2, es1, es2, c1, c2, hfl, hfu, rfl, hSt, hE⟩ := hrel
              have HSt := hid hSt
              have HE := hid hE
              clear hSt hE
              by_cases hltf : f ≤ 72
              · have Hfl := hid hfl
                have Hfu := hid hltf
                have HinF := hid (show inR f from ⟨hfl, hltf⟩)
                clear hfu
                have HF0 := HN.out wr (pts g1 (.map es1 c1) + (pts g2 (.map es2 c2) + blk lb C2 113)) (HSt.out.hW.eq (by ac_rfl)) _ HH.out
                have hk00 := Hknd.out 0 0
                have hkk : kinds[k]? = some ⟨ka, kb, kc, kd, 0, 0⟩ := by rw [Hkk.out, hk00]
                have m0 := (Hk.out k _ hkk 0 _ rfl).c0 HF0
                rw [Nat.add_zero] at m0
                have m1 := (Hk.out k _ hkk 1 _ rfl).c0 HF0
                have m2 := (Hk.out k _ hkk 2 _ rfl).c0 HF0
                have m3 := (Hk.out k _ hkk 3 _ rfl).c0 HF0
                have m4 := (Hk.out k _ hkk 4 _ rfl).c0 HF0
                have m5 := (Hk.out k _ hkk 5 _ rfl).c0 HF0
                clear HF0 hk00 hkk
                obtain ⟨bm, hbm⟩ : ∃ bm, bm = wr.heap.size := ⟨_, rfl⟩
                have HW3 := hid (show Has (wr.alloc (.cells #[.int .i64 ka, .int .i64 kb, .int .i64 kc, .int .i64 kd, .int .i64 e, .int .i64 f] 41)) (blk bm #[.int .i64 ka, .int .i64 kb, .int .i64 kc, .int .i64 kd, .int .i64 e, .int .i64 f] 41 + (pts g1 (.map es1 c1) + (pts g2 (.map es2 c2) + (blk lb C2 113 + M)))) from by rw [hbm]; exact HSt.out.hW.alloc _)
                have HE3 := hid (HE.out.trans (Ext.alloc wr (.cells #[.int .i64 ka, .int .i64 kb, .int .i64 kc, .int .i64 kd, .int .i64 e, .int .i64 f] 41)))
                have Hhas := hid (HHas.out e f HinE.out HinF.out _ (HN.out _ (blk bm #[.int .i64 ka, .int .i64 kb, .int .i64 kc, .int .i64 kd, .int .i64 e, .int .i64 f] 41 + (pts g1 (.map es1 c1) + (pts g2 (.map es2 c2) + blk lb C2 113))) (HW3.out.eq (by ac_rfl)) _ HH.out))
                have Hline := hid (HLine.out e f HinE.out HinF.out)
                have Hzok := hid (line_ok (k := k) HinE.out HinF.out)
                rw [Hkof.out e f] at Hline
                rw [Hknd.out e f] at Hhas Hline
                simp only at Hhas Hline
                obtain ⟨q, hq⟩ : ∃ q, q = hasB p g k e f := ⟨_, rfl⟩
                rw [← hq] at Hhas
                have Hq := hid hq
                obtain ⟨lat, hlat⟩ : ∃ lat, lat = lineAt k e f := ⟨_, rfl⟩
                obtain ⟨lal, hlal⟩ : ∃ lal, lal = lineAlong k e f := ⟨_, rfl⟩
                rw [← hlat] at Hline Hzok
                rw [← hlal] at Hline
                have Hlat := hid hlat
                have Hlal := hid hlal
                clear hq hlat hlal
                subst hbm
                cases q with
                | false =>
                  go_wp2_with (go_at_call 89; refine Hhas.out.mono ?_; rintro e5 w5 ⟨rfl, k5⟩; have K5 := hid (k5.1 _ HW3.out); have E5 := hid (HE3.out.trans k5.2); clear k5; have n0 : w5.cell? ⟨wr.heap.size, 0, none⟩ = some (.int .i64 ka) := K5.out.at_ rfl; have n1 : w5.cell? ⟨wr.heap.size, 1, none⟩ = some (.int .i64 kb) := K5.out.at_ rfl; have n2 : w5.cell? ⟨wr.heap.size, 2, none⟩ = some (.int .i64 kc) := K5.out.at_ rfl; have n3 : w5.cell? ⟨wr.heap.size, 3, none⟩ = some (.int .i64 kd) := K5.out.at_ rfl; have n4 : w5.cell? ⟨wr.heap.size, 4, none⟩ = some (.int .i64 e) := K5.out.at_ rfl; have n5 : w5.cell? ⟨wr.heap.size, 5, none⟩ = some (.int .i64 f) := K5.out.at_ rfl)
                  go_roundw
                  case rel => exact ⟨f + 1, S1, S2, es1, es2, c1, c2, by have := Hfl.out; omega, by have := Hfu.out; omega, by go_num, ⟨HSt.out.s1, HSt.out.s2, fun a => by rw [HSt.out.m1, seenC_next HinE.out HinF.out]; exact ⟨fun h => .inl h, fun h => h.elim id fun h => by have := h.1; rw [← Hq.out] at this; cases this⟩, fun a => by rw [HSt.out.m2, seenC_next HinE.out HinF.out]; exact ⟨fun h => .inl h, fun h => h.elim id fun h => by have := h.1; rw [← Hq.out] at this; cases this⟩, by have := HSt.out.l1; omega, by have := HSt.out.l2; omega, K5.out.right⟩, E5.out⟩
                  case measure => have := Hfu.out; simp [intOf]; omega
                | true =>
                  by_cases hal : lal = 0
                  · have Hal := hid hal
                    go_wp2_with (first
                    | (go_at_call 90; refine (Hline.out _ (HN.out _ (blk wr.heap.size #[.int .i64 ka, .int .i64 kb, .int .i64 kc, .int .i64 kd, .int .i64 e, .int .i64 f] 41 + (pts g1 (.map es1 c1) + (pts g2 (.map es2 c2) + blk lb C2 113))) (K5.out.eq (by ac_rfl)) _ HH.out)).mono ?_; rintro e6 w6 ⟨rfl, k6⟩; have K6 := hid (k6.1 _ K5.out); have E6 := hid (E5.out.trans k6.2); clear k6 n0 n1 n2 n3 n4 n5; have f6 : w6.cell? ⟨lb, 8 + k, none⟩ = some (.map (some g2)) := (K6.out.eq (b := blk lb C2 113 + (blk wr.heap.size #[.int .i64 ka, .int .i64 kb, .int .i64 kc, .int .i64 kd, .int .i64 e, .int .i64 f] 41 + (pts g1 (.map es1 c1) + (pts g2 (.map es2 c2) + M)))) (by ac_rfl)).at_ HC2.out)
                    | (go_at_call 89; refine Hhas.out.mono ?_; rintro e5 w5 ⟨rfl, k5⟩; have K5 := hid (k5.1 _ HW3.out); have E5 := hid (HE3.out.trans k5.2); clear k5; have n0 : w5.cell? ⟨wr.heap.size, 0, none⟩ = some (.int .i64 ka) := K5.out.at_ rfl; have n1 : w5.cell? ⟨wr.heap.size, 1, none⟩ = some (.int .i64 kb) := K5.out.at_ rfl; have n2 : w5.cell? ⟨wr.heap.size, 2, none⟩ = some (.int .i64 kc) := K5.out.at_ rfl; have n3 : w5.cell? ⟨wr.heap.size, 3, none⟩ = some (.int .i64 kd) := K5.out.at_ rfl; have n4 : w5.cell? ⟨wr.heap.size, 4, none⟩ = some (.int .i64 e) := K5.out.at_ rfl; have n5 : w5.cell? ⟨wr.heap.size, 5, none⟩ = some (.int .i64 f) := K5.out.at_ rfl)
                    | (refine wpList_putZ rfl (.tmp 67) (.tmp 68) (.const (.bool true)) rfl g1 rfl lat rfl rfl HSt.out.s1 Hzok.out (blk wr.heap.size #[.int .i64 ka, .int .i64 kb, .int .i64 kc, .int .i64 kd, .int .i64 e, .int .i64 f] 41 + (pts g2 (.map es2' c2') + (blk lb C2 113 + M))) (K7.out.eq (by ac_rfl)) ?_; intro S1' es1' c1' w8 j1 j2 j3 j4 j5; have J4 := hid j1; have J5 := hid j2; have J6 := hid j3; have K8 := hid j4; have E8 := hid (E7.out.trans j5); clear j1 j2 j3 j4 j5 f7)
                    | (refine wpList_putZ rfl (.tmp 58) (.tmp 59) (.const (.bool true)) rfl g2 rfl lat rfl rfl HSt.out.s2 Hzok.out (blk wr.heap.size #[.int .i64 ka, .int .i64 kb, .int .i64 kc, .int .i64 kd, .int .i64 e, .int .i64 f] 41 + (pts g1 (.map es1 c1) + (blk lb C2 113 + M))) (K6.out.eq (by ac_rfl)) ?_; intro S2' es2' c2' w7 j1 j2 j3 j4 j5; have J1 := hid j1; have J2 := hid j2; have J3 := hid j3; have K7 := hid j4; have E7 := hid (E6.out.trans j5); clear j1 j2 j3 j4 j5 f6; have f7 : w7.cell? ⟨lb, k, none⟩ = some (.map (some g1)) := (K7.out.eq (b := blk lb C2 113 + (blk wr.heap.size #[.int .i64 ka, .int .i64 kb, .int .i64 kc, .int .i64 kd, .int .i64 e, .int .i64 f] 41 + (pts g1 (.map es1 c1) + (pts g2 (.map es2' c2') + M)))) (by ac_rfl)).at_ HC1.out))
                    go_roundw
                    case rel => exact ⟨f + 1, S1', S2', es1', es2', c1', c2', by have := Hfl.out; omega, by have := Hfu.out; omega, by go_num, ⟨J4.out, J1.out, fun a => by
                      rw [J5.out, HSt.out.m1, seenC_next HinE.out HinF.out]
                      unfold cMir
                      rw [← Hq.out, ← Hlat.out, ← Hlal.out, Hal.out]
                      exact ⟨fun h => h.elim .inl fun h => .inr ⟨rfl, h.symm, rfl⟩, fun h => h.elim .inl fun h => .inr h.2.1.symm⟩, fun a => by
                      rw [J2.out, HSt.out.m2, seenC_next HinE.out HinF.out]
                      unfold cAll
                      rw [← Hq.out, ← Hlat.out]
                      exact ⟨fun h => h.elim .inl fun h => .inr ⟨rfl, h.symm⟩, fun h => h.elim .inl fun h => .inr h.2.symm⟩, by have := HSt.out.l1; have := J6.out; omega, by have := HSt.out.l2; have := J3.out; omega, (K8.out.eq (b := blk wr.heap.size #[.int .i64 ka, .int .i64 kb, .int .i64 kc, .int .i64 kd, .int .i64 e, .int .i64 f] 41 + (pts g1 (.map es1' c1') + (pts g2 (.map es2' c2') + (blk lb C2 113 + M)))) (by ac_rfl)).right⟩, E8.out⟩
                    case measure => have := Hfu.out; simp [intOf]; omega
                  · have Hal := hid hal
                    go_wp2_with (first
                    | (go_at_call 90; refine (Hline.out _ (HN.out _ (blk wr.heap.size #[.int .i64 ka, .int .i64 kb, .int .i64 kc, .int .i64 kd, .int .i64 e, .int .i64 f] 41 + (pts g1 (.map es1 c1) + (pts g2 (.map es2 c2) + blk lb C2 113))) (K5.out.eq (by ac_rfl)) _ HH.out)).mono ?_; rintro e6 w6 ⟨rfl, k6⟩; have K6 := hid (k6.1 _ K5.out); have E6 := hid (E5.out.trans k6.2); clear k6 n0 n1 n2 n3 n4 n5; have f6 : w6.cell? ⟨lb, 8 + k, none⟩ = some (.map (some g2)) := (K6.out.eq (b := blk lb C2 113 + (blk wr.heap.size #[.int .i64 ka, .int .i64 kb, .int .i64 kc, .int .i64 kd, .int .i64 e, .int .i64 f] 41 + (pts g1 (.map es1 c1) + (pts g2 (.map es2 c2) + M)))) (by ac_rfl)).at_ HC2.out)
                    | (go_at_call 89; refine Hhas.out.mono ?_; rintro e5 w5 ⟨rfl, k5⟩; have K5 := hid (k5.1 _ HW3.out); have E5 := hid (HE3.out.trans k5.2); clear k5; have n0 : w5.cell? ⟨wr.heap.size, 0, none⟩ = some (.int .i64 ka) := K5.out.at_ rfl; have n1 : w5.cell? ⟨wr.heap.size, 1, none⟩ = some (.int .i64 kb) := K5.out.at_ rfl; have n2 : w5.cell? ⟨wr.heap.size, 2, none⟩ = some (.int .i64 kc) := K5.out.at_ rfl; have n3 : w5.cell? ⟨wr.heap.size, 3, none⟩ = some (.int .i64 kd) := K5.out.at_ rfl; have n4 : w5.cell? ⟨wr.heap.size, 4, none⟩ = some (.int .i64 e) := K5.out.at_ rfl; have n5 : w5.cell? ⟨wr.heap.size, 5, none⟩ = some (.int .i64 f) := K5.out.at_ rfl)
                    | (refine wpList_putZ rfl (.tmp 58) (.tmp 59) (.const (.bool true)) rfl g2 rfl lat rfl rfl HSt.out.s2 Hzok.out (blk wr.heap.size #[.int .i64 ka, .int .i64 kb, .int .i64 kc, .int .i64 kd, .int .i64 e, .int .i64 f] 41 + (pts g1 (.map es1 c1) + (blk lb C2 113 + M))) (K6.out.eq (by ac_rfl)) ?_; intro S2' es2' c2' w7 j1 j2 j3 j4 j5; have J1 := hid j1; have J2 := hid j2; have J3 := hid j3; have K7 := hid j4; have E7 := hid (E6.out.trans j5); clear j1 j2 j3 j4 j5 f6; have f7 : w7.cell? ⟨lb, k, none⟩ = some (.map (some g1)) := (K7.out.eq (b := blk lb C2 113 + (blk wr.heap.size #[.int .i64 ka, .int .i64 kb, .int .i64 kc, .int .i64 kd, .int .i64 e, .int .i64 f] 41 + (pts g1 (.map es1 c1) + (pts g2 (.map es2' c2') + M)))) (by ac_rfl)).at_ HC1.out))
                    go_roundw
                    case rel => exact ⟨f + 1, S1, S2', es1, es2', c1, c2', by have := Hfl.out; omega, by have := Hfu.out; omega, by go_num, ⟨HSt.out.s1, J1.out, fun a => by
                      rw [HSt.out.m1, seenC_next HinE.out HinF.out]
                      exact ⟨fun h => .inl h, fun h => h.elim id fun h => absurd (by rw [Hlal.out]; exact h.2.2) Hal.out⟩, fun a => by
                      rw [J2.out, HSt.out.m2, seenC_next HinE.out HinF.out]
                      unfold cAll
                      rw [← Hq.out, ← Hlat.out]
                      exact ⟨fun h => h.elim .inl fun h => .inr ⟨rfl, h.symm⟩, fun h => h.elim .inl fun h => .inr h.2.symm⟩, by have := HSt.out.l1; omega, by have := HSt.out.l2; have := J3.out; omega, (K7.out.eq (b := blk wr.heap.size #[.int .i64 ka, .int .i64 kb, .int .i64 kc, .int .i64 kd, .int .i64 e, .int .i64 f] 41 + (pts g1 (.map es1 c1) + (pts g2 (.map es2' c2') + (blk lb C2 113 + M)))) (by ac_rfl)).right⟩, E7.out⟩
                    case measure => have := Hfu.out; simp [intOf]; omega
              · have hf73 : f = 73 := by omega
                subst hf73
                clear hltf hfl hfu
                go_wp2
                go_roundw
                case rel => exact ⟨e + 1, S1, S2, es1, es2, c1, c2, by have := Hel.out; omega, by have := Heu.out; omega, by go_num, ⟨HSt.out.s1, HSt.out.s2, fun a => by rw [HSt.out.m1, seenC_row], fun a => by rw [HSt.out.m2, seenC_row], by have := HSt.out.l1; omega, by have := HSt.out.l2; omega, HSt.out.hW⟩, HE.out⟩
                case measure => have := Heu.out; simp [intOf]; omega
          · have he73 : e = 73 := by omega
            subst he73
            clear hlt hel heu
            go_wp2
            go_roundw
            case rel =>
              have v1 : LnV (pts g1 (.map es1 c1) + (pts g2 (.map es2 c2) + M)) (.map (some g1)) (lnMir p g k) := ⟨g1, S1, es1, c1, rfl, Or.inl ⟨rfl, rfl⟩, HSt.out.s1, fun a => by rw [HSt.out.m1, seenC_end]; rfl, by have := HSt.out.l1; omega⟩
              have v2 : LnV (pts g1 (.map es1 c1) + (pts g2 (.map es2 c2) + M)) (.map (some g2)) (lnAll p g k) := ⟨g2, S2, es2, c2, rfl, Or.inr (Or.inl ⟨rfl, rfl⟩), HSt.out.s2, fun a => by rw [HSt.out.m2, seenC_end]; rfl, by have := HSt.out.l2; omega⟩
              exact ⟨k + 1, C2, pts g1 (.map es1 c1) + (pts g2 (.map es2 c2) + M), by have := H4.out; omega, Hlt.out, by go_num, ⟨HP2.out.sz, fun k' h1 h2 => by
                by_cases hkk : k' = k
                · rw [hkk]; exact ⟨_, HC1.out, v1⟩
                · obtain ⟨v, a1, a2⟩ := HP2.out.mir k' h1 (by omega)
                  exact ⟨v, a1, (a2.more _).more _⟩, fun k' h1 h2 => by
                by_cases hkk : k' = k
                · rw [hkk]; exact ⟨_, HC2.out, v2⟩
                · obtain ⟨v, a1, a2⟩ := HP2.out.all k' h1 (by omega)
                  exact ⟨v, a1, (a2.more _).more _⟩⟩, HSt.out.hW.eq (by ac_rfl), fun W X hW N hN => HN.out W (X + (pts g1 (.map es1 c1) + pts g2 (.map es2 c2))) (hW.eq (by ac_rfl)) N hN, HE.out⟩
            case measure => have := Hlt.out; simp [intOf]; omega
    · have hke : k = 8 := by omega
      subst hke
      clear hlt
      go_wp2
      go_ret
      exact ⟨lb, blk lb C 113 + M, rfl, ⟨fun k' h1 h2 => by
        obtain ⟨v, a1, a2⟩ := HP.out.mir k' h1 h2
        exact ⟨v, MS.at.less (blk_at a1) _, a2.more _⟩, fun k' h1 h2 => by
        obtain ⟨v, a1, a2⟩ := HP.out.all k' h1 h2
        exact ⟨v, MS.at.less (blk_at a1) _, a2.more _⟩⟩, HW.out, fun N hN => HN.out _ (blk lb C 113) HW.out N hN, HE.out⟩
end Go.Proofs.YteibbnmlmbhkpaaDoor

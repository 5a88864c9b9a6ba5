/-
  The walk of name where something is mirrored and there are no turns.
-/
import Derived.Test.YteibbnmlmbhkpaaDoorPName2
namespace Go.Proofs.YteibbnmlmbhkpaaDoor
open Go.RowKit
set_option linter.unusedVariables false
set_option linter.unusedSimpArgs false
set_option maxHeartbeats 2000000
set_option maxRecDepth 100000

theorem name_one {F : MS} {p : List ByteArray} {g : Gd} {gb : Nat} {w : World} (h : PGr F p g gb) (hk : KinOk F) (hsome : anyL p g) (h4 : ordOf (symL p g) = 1) (hH : Has w F) :
    Calls Tryd.prog 38 #[.pointer (some ⟨gb, 0, none⟩)] w fun e w' => e = .returned (.string (nameOf p g)) ∧ Kp w w' := by
  have Hlines := hid (lines_lin h hk hH)
  have Hsome := hid hsome
  obtain ⟨r, hr⟩ : ∃ r, r = ordOf (symL p g) := ⟨_, rfl⟩
  have hr4 : (r == 4) = false := by rw [hr, h4]; rfl
  have hr2 : (r == 2) = false := by rw [hr, h4]; rfl
  have h1r : ¬ 1 < r := by rw [hr, h4]; omega
  have Hr := hid hr
  obtain ⟨nm, hnm⟩ : ∃ nm, nm = nameOf p g := ⟨_, rfl⟩
  obtain ⟨d, hd⟩ : ∃ d, d = dirN p g 8 := ⟨_, rfl⟩
  have Hd := hid hd
  have N0 := hid (show d = 0 → nm = txt [112, 103] from fun hc => by rw [hnm]; unfold nameOf; simp only; rw [if_neg (fun hh => hh hsome), if_neg (by rw [h4]; omega), if_neg (by rw [h4]; omega), if_pos (by rw [← hd]; exact hc)])
  have N1 := hid (show d ≠ 0 → cmP p g → nm = txt [99, 109] from fun h0 hc => by rw [hnm]; unfold nameOf; simp only; rw [if_neg (fun hh => hh hsome), if_neg (by rw [h4]; omega), if_neg (by rw [h4]; omega), if_neg (by rw [← hd]; omega), if_pos hc])
  have N2 := hid (show d ≠ 0 → ¬ cmP p g → nm = txt [112, 109] from fun h0 hc => by rw [hnm]; unfold nameOf; simp only; rw [if_neg (fun hh => hh hsome), if_neg (by rw [h4]; omega), if_neg (by rw [h4]; omega), if_neg (by rw [← hd]; omega), if_neg hc])
  rw [← hnm]
  clear h hk hsome h4 hH hr hnm hd
  go_enter Tryd.func38, Tryd.ntmps38
  go_wp2_with (first
    | (go_at_call 63; refine Hlines.out.mono ?_; rintro e1 w1 ⟨lb, rfl, hL⟩; have HL := hid hL; have HA := hid (show Has (w1.alloc (.cells #[.pointer (some ⟨lb, 0, none⟩)] 104)) (blk w1.heap.size #[.pointer (some ⟨lb, 0, none⟩)] 104 + MS.all w1) from (Has.all w1).alloc _); clear hL)
    | (go_at_call 69; refine (directions_any (HL.out.lns.more _) HA3.out.right.right).mono ?_; rintro e8 w8 ⟨rfl, hw⟩; rw [hw, ← Hd.out]; clear hw)
    | (go_at_call 65; refine (any_any (HL.out.lns.more _) HA2.out).mono ?_; rintro e3 w3 ⟨⟨q, rfl, hq⟩, hw⟩; rw [hw]; have hqf : q = true := hq.2 Hsome.out; subst hqf; clear hw hq; have HA3 := hid (show Has ((w2.alloc (.cells #[.bool true] 4)).alloc (.cells #[.bool false] 4)) (blk (w2.heap.size + 1) #[.bool false] 4 + (blk w2.heap.size #[.bool true] 4 + (blk w1.heap.size #[.pointer (some ⟨lb, 0, none⟩)] 104 + MS.all w1))) from by have := (HA2.out.alloc (.cells #[.bool true] 4)).alloc (.cells #[.bool false] 4); rw [show (w2.alloc (.cells #[.bool true] 4)).heap.size = w2.heap.size + 1 by simp] at this; exact this); have f6 : ((w2.alloc (.cells #[.bool true] 4)).alloc (.cells #[.bool false] 4)).cell? ⟨w1.heap.size, 0, none⟩ = some (.pointer (some ⟨lb, 0, none⟩)) := HA3.out.right.right.at_ rfl)
    | (go_at_call 64; refine (order_any (HL.out.grp.more _) (HL.out.kin.more _) HA.out).mono ?_; rintro e2 w2 ⟨rfl, k2⟩; rw [← Hr.out]; have K2 := hid k2; have HA2 := hid (k2.1 _ HA.out); have E2 := hid ((Ext.alloc w1 _).trans k2.2); have f3 : w2.cell? ⟨w1.heap.size, 0, none⟩ = some (.pointer (some ⟨lb, 0, none⟩)) := HA2.out.at_ rfl; clear k2))
  · rename_i h0
    have h0' : d = 0 := by simpa using h0
    go_ret
    exact ⟨by rw [N0.out h0']; rfl, HL.out.end (bn := w2.heap.size) (bs := w2.heap.size + 1) (n := true) (s := false) (HA3.out.eq (by unfold Flg; ac_rfl)) ((E2.out.trans (Ext.alloc _ _)).trans (Ext.alloc _ _))⟩
  · rename_i h0 _ _
    have h0' : d ≠ 0 := by have := beq_eq_false_iff_ne.1 h0; omega
    have M1 := hid (N1.out h0')
    have M2 := hid (N2.out h0')
    have HR := hid HA3.out.right.right
    have HE := hid ((E2.out.trans (Ext.alloc w2 (.cells #[.bool true] 4))).trans (Ext.alloc _ (.cells #[.bool false] 4)))
    clear N0 N1 N2 h0 h0' f6 HA3 E2 HA2 K2 HA
    generalize w1.heap.size = bl at *
    generalize (w2.alloc _).alloc _ = w3 at *
    have Hend := hid (show ∀ W X, Has W (X + (blk bl #[.pointer (some ⟨lb, 0, none⟩)] 104 + MS.all w1)) → Ext w1 W → Kp w W from fun W X hW hE => ⟨fun M hM => (HL.out.kp.1 M hM).of_all (X := X + blk bl #[.pointer (some ⟨lb, 0, none⟩)] 104) (hW.eq (by ac_rfl)), HL.out.kp.2.trans hE⟩)
    have Hlns := hid (HL.out.lns)
    clear HL
    go_loopw [9] (fun v wr => ∃ k : Nat, 4 ≤ k ∧ k ≤ 8 ∧ v = .int .i64 k ∧ (∀ k', 4 ≤ k' → k' < k → ∀ a, lnAll p g k' a → (-18 ≤ a ∧ a ≤ 18) → lnMir p g k' a) ∧ (∃ Y, Has wr (Y + (blk bl #[.pointer (some ⟨lb, 0, none⟩)] 104 + MS.all w1))) ∧ Ext w1 wr) (fun v _ => 8 - (intOf v).toNat)
    case atStart => exact ⟨4, Nat.le_refl _, by omega, rfl, fun k' h1 h2 => by omega, ⟨0, by rw [MS.zero_add]; exact HR.out⟩, HE.out⟩
    case round =>
      obtain ⟨k, h4, h8, rfl, hno, ⟨Y, hY⟩, hE⟩ := hrel
      have Hno := hid hno
      have HY := hid hY
      have HE := hid hE
      have H4 := hid h4
      clear hno hY hE HR
      by_cases hlt : k < 8
      · have Hlt := hid hlt
        have hltI : (k : Int) < 8 := by omega
        obtain ⟨v1, a1, b1⟩ := Hlns.out.mir k h4 hlt
        obtain ⟨v2, a2, b2⟩ := Hlns.out.all k h4 hlt
        obtain ⟨g1, hg1, hlook⟩ := b1.look
        obtain ⟨g2, S2, es2, c2, hg2, hob, hS2, hmem, hlen⟩ := b2
        subst hg1
        subst hg2
        have HAll := HY.out.right.right
        have f3 : wr.cell? ⟨bl, 0, none⟩ = some (.pointer (some ⟨lb, 0, none⟩)) := HY.out.right.at_ rfl
        have f4 := a2.c0 HAll
        have hb := HAll.obj hob
        have hrg := run_range_map (P := Tryd.prog) wr 110 3 4 g2 es2 c2 und110 hb
        have A1 := hid a1
        have Hob := hid hob
        have Hlook := hid hlook
        have HS2 := hid hS2
        have Hmem := hid hmem
        have hI : Has (wr.alloc (.mapIter (some g2) c2 #[] c2)) (pts wr.heap.size (.mapIter (some g2) c2 #[] c2) + (Y + (blk bl #[.pointer (some ⟨lb, 0, none⟩)] 104 + MS.all w1))) := HY.out.alloc _
        have HI := hid hI
        have HEI := hid (HE.out.trans (Ext.alloc wr (.mapIter (some g2) c2 #[] c2)))
        clear a1 a2 b1 hlook hob hS2 hmem hlen HAll hI hlt h4 h8
        go_wp2
        generalize wr.heap.size = ib at *
        generalize wr.alloc _ = w4 at *
        clear hrg f3 f4 hb
        go_loopw [] (fun wq => ∃ seen, (∀ x ∈ es2.toList, seen.contains x.born = true → ∀ a, x.key = .int .i64 a → (-18 ≤ a ∧ a ≤ 18) → lnMir p g k a) ∧ Has wq (pts ib (.mapIter (some g2) c2 seen c2) + (Y + (blk bl #[.pointer (some ⟨lb, 0, none⟩)] 104 + MS.all w1))) ∧ Ext w1 wq) (fun wq => (leftOf es2 (wq.iterSeen ib)).size)
        case atStart => exact ⟨#[], fun x _ h => by simp at h, HI.out, HEI.out⟩
        case round =>
          clear HY HE HI HEI
          obtain ⟨seen, hseen, hW, hE⟩ := hrel
          have Hseen := hid hseen
          have HW := hid hW
          have HE := hid hE
          have hit := hW.get
          have hmp : wr.heap[g2]? = some (.map es2 c2) := hW.right.right.right.obj Hob.out
          have law := run_next_at (P := Tryd.prog) wr 0 ib g2 c2 c2 seen es2 c2 hit hmp HS2.out.1.1 (Nat.le_refl _)
          have hmeas : wr.iterSeen ib = seen := by unfold World.iterSeen; rw [hit]
          rw [hmeas]
          clear hseen hW hE hit
          rcases law with ⟨h0, hrun⟩ | ⟨e, he, w5, hal, hrun⟩
          · have hnx : ∀ ty, (Instr.next (.pointer (some ⟨ib, 0, none⟩)) false ty).run Tryd.prog wr = _ := fun _ => hrun
            have H0 := hid h0
            clear hrun h0 hmp
            go_wp2
            go_roundw
            case rel => exact ⟨k + 1, by have := H4.out; omega, Hlt.out, by go_num, fun k' h1 h2 a ha har => by
              by_cases hkk : k' = k
              · subst hkk
                have hm := (Hmem.out a).2 ha
                have h4 : Value.int .i64 a ∈ es2.toList.map (·.key) := by rw [HS2.out.2.1]; exact List.mem_map_of_mem hm
                obtain ⟨x, hx, hxk⟩ := List.mem_map.1 h4
                exact Hseen.out x hx (all_seen es2 seen H0.out x hx) a hxk har
              · exact Hno.out k' h1 (by omega) a ha har, ⟨_, HW.out.eq (MS.add_assoc _ _ _).symm⟩, HE.out⟩
            case measure => have := Hlt.out; simp [intOf]; omega
          · have hmem := mem_left he
            have Hborn := hid hmem.1
            have hkeys : e.key ∈ S2.map (Value.int .i64) := by rw [← HS2.out.2.1]; exact List.mem_map_of_mem hmem.1
            obtain ⟨a, haS, hak⟩ := List.mem_map.1 hkeys
            have HaS := hid ((Hmem.out a).1 haS)
            have Hak := hid hak
            have haz : zOk a := HS2.out.2.2.2 a haS
            have hval := HS2.out.2.2.1 e hmem.1
            rw [← hak, hval] at hrun
            have Hmeas := hid (left_shrinks es2 seen e he)
            obtain ⟨w6, hw6⟩ : ∃ w6, w6 = Go.ChangeMaps.setBlock w5 ib (.mapIter (some g2) c2 (seen.push e.born) c2) := ⟨_, rfl⟩
            rw [← hw6] at hrun
            have HW5 : Has w5 (pts ib (.mapIter (some g2) c2 seen c2) + (Y + (blk bl #[.pointer (some ⟨lb, 0, none⟩)] 104 + MS.all w1))) := by
              rcases hal with rfl | rfl
              · exact HW.out
              · exact HW.out.drew
            have HE5 : Ext w1 w5 := by
              rcases hal with rfl | rfl
              · exact HE.out
              · exact HE.out.trans (Ext.drew _)
            have HW6 := hid (show Has w6 (pts ib (.mapIter (some g2) c2 (seen.push e.born) c2) + (Y + (blk bl #[.pointer (some ⟨lb, 0, none⟩)] 104 + MS.all w1))) by rw [hw6]; exact HW5.setMap)
            have HE6 := hid (show Ext w1 w6 by rw [hw6]; exact HE5.trans (Ext.setMap _ _ _))
            have hit6 := HW6.out.get
            have hmp6 : w6.heap[g2]? = some (.map es2 c2) := HW6.out.right.right.right.obj Hob.out
            have hen := run_entry_at (P := Tryd.prog) w6 ib g2 c2 seen es2 c2 e hit6 hmp6 hmem.1 HS2.out.1.2.1
            rw [← hak, hval] at hen
            have hmeas6 := hid (show w6.iterSeen ib = seen.push e.born by unfold World.iterSeen; rw [hit6])
            have hnx : ∀ ty, (Instr.next (.pointer (some ⟨ib, 0, none⟩)) false ty).run Tryd.prog wr = _ := fun _ => hrun
            have g3 : w6.cell? ⟨bl, 0, none⟩ = some (.pointer (some ⟨lb, 0, none⟩)) := HW6.out.right.right.at_ rfl
            have g4 := A1.out.c0 HW6.out.right.right.right
            obtain ⟨q, hq, hlk⟩ := Hlook.out a haz
            have hl6 := hlk w6 HW6.out.right.right.right
            have Hq := hid hq
            clear hrun hmp hit6 hmp6 hkeys hak haS hal hw6 HW5 HE5 he haz hval hq hlk hmem
            have Hstep := hid (show ((-18 ≤ a ∧ a ≤ 18) → lnMir p g k a) → ∀ x ∈ es2.toList, (seen.push e.born).contains x.born = true → ∀ b, x.key = .int .i64 b → (-18 ≤ b ∧ b ≤ 18) → lnMir p g k b from fun hok x hx hc b hb hbr => by
              rw [contains_push] at hc
              rcases Bool.or_eq_true _ _ ▸ hc with h1 | h1
              · exact Hseen.out x hx h1 b hb hbr
              · have : x = e := born_inj HS2.out.1.2.1 hx Hborn.out (beq_iff_eq.1 h1)
                subst this
                rw [← Hak.out] at hb
                injection hb with _ hb
                subst hb
                exact hok hbr)
            by_cases h1 : -18 ≤ a
            · by_cases h2 : a ≤ 18
              · cases q with
                | true =>
                  have Hok := hid (Hq.out.1 rfl)
                  go_wp2
                  go_roundw
                  case rel => exact ⟨_, Hstep.out fun _ => Hok.out, HW6.out, HE6.out⟩
                  case measure => rw [hmeas6.out]; exact Hmeas.out
                | false =>
                  have Hbad := hid (show cmP p g from ⟨k, H4.out, Hlt.out, a, HaS.out, ⟨h1, h2⟩, fun h => by have := Hq.out.2 h; cases this⟩)
                  go_wp2
                  go_ret
                  exact ⟨by rw [M1.out Hbad.out]; rfl, Hend.out w6 (pts ib (.mapIter (some g2) c2 (seen.push e.born) c2) + Y) (HW6.out.eq (by ac_rfl)) HE6.out⟩
              · have H2 := hid h2
                go_wp2
                go_roundw
                case rel => exact ⟨_, Hstep.out fun h => absurd h.2 H2.out, HW6.out, HE6.out⟩
                case measure => rw [hmeas6.out]; exact Hmeas.out
            · have H1 := hid h1
              go_wp2
              go_roundw
              case rel => exact ⟨_, Hstep.out fun h => absurd h.1 H1.out, HW6.out, HE6.out⟩
              case measure => rw [hmeas6.out]; exact Hmeas.out
      · have hk8 : k = 8 := by omega
        subst hk8
        clear hlt h4 h8
        go_wp2
        go_ret
        exact ⟨by rw [M2.out (fun ⟨k', h1, h2, a, h3, h4, h5⟩ => h5 (Hno.out k' h1 h2 a h3 h4))]; rfl, Hend.out _ _ HY.out HE.out⟩
end Go.Proofs.YteibbnmlmbhkpaaDoor

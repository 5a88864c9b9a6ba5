/-
  The walk of replayed: a net in which the events within a cut are done again.
-/
import Derived.Test.YtnkgfgkgepadhaaWholeW
import Derived.Test.YtnkgfgkgepadhaaWithin2
import Derived.Test.YtnkgfgkgepadhaaKeeps4
import Derived.Test.YtnkgfgkgepadhaaWalk14
namespace Go.Proofs.Ytnkgfgkgepadhaa
open Go.RowKit
set_option linter.unusedVariables false
set_option linter.unusedSimpArgs false
set_option maxHeartbeats 4000000
set_option maxRecDepth 100000

theorem rpN_prefix {x0 : Net} {l : List Ev} {W : Nat → Bool} {t : Nat} : ∀ d {ρ : Net}, rpN x0 l W (t + d) = some ρ → ∃ x, rpN x0 l W t = some x
  | 0, ρ, h => ⟨ρ, h⟩
  | d + 1, ρ, h => by
    rw [show t + (d + 1) = t + d + 1 by omega] at h
    unfold rpN at h
    cases hd : rpN x0 l W (t + d) with
    | none => rw [hd] at h; cases h
    | some y => exact rpN_prefix d hd
theorem rpN_in {x0 x x' : Net} {l : List Ev} {W : Nat → Bool} {t : Nat} (h : rpN x0 l W t = some x) (h' : rpN x0 l W (t + 1) = some x') (hW : W t = true) : (doEv x (l.getD t dfEv)).1 = 0 ∧ x' = (doEv x (l.getD t dfEv)).2 := by
  unfold rpN at h'
  rw [h] at h'
  simp only [hW, if_true] at h'
  split at h'
  · rename_i h0
    exact ⟨h0, by injection h' with h'; exact h'.symm⟩
  · cases h'
theorem rpN_out {x0 x x' : Net} {l : List Ev} {W : Nat → Bool} {t : Nat} (h : rpN x0 l W t = some x) (h' : rpN x0 l W (t + 1) = some x') (hW : W t = false) : x' = x := by
  unfold rpN at h'
  rw [h] at h'
  simp only [hW, Bool.false_eq_true, if_false, Option.some.injEq] at h'
  exact h'.symm
theorem NetAt.hold {Q F : MS} {σ : Net} {b : Nat} {w : World} (h : NetAt Q F σ b w) : ∃ Z, Has w (Z + F) ∧ ∀ F' w', Has w' (Z + F') → NetAt Q F' σ b w' := by
  obtain ⟨h0, Pl, ps, m, h1, h2⟩ := h
  exact ⟨m + (Pl + Q), h2.eq (by ac_rfl), fun F' w' h => ⟨h0, Pl, ps, m, h1, h.eq (by ac_rfl)⟩⟩
theorem NetAt.moved {Q F F' : MS} {σ : Net} {b : Nat} {w : World} (h : NetAt Q F σ b w) (e : F = F') : NetAt Q F' σ b w := e ▸ h
def wIn (cut : List Int) (evs : List Ev) (i : Nat) : Bool := decide ((cntS evs i (evs.getD i dfEv).station.toNat : Int) < cut.getD (evs.getD i dfEv).station.toNat 0)

theorem replayed_net {F : MS} {l : List Int} {evs : List Ev} {cut : List Int} {A A2 A3 : Option Addr} {c c2 c3 : Nat} {w : World} {ρ : Net} (h : RdS F RT.int l (.slice A l.length c)) (he : RdS F RT.ev evs (.slice A2 evs.length c2)) (hc : RdS F RT.int cut (.slice A3 cut.length c3)) (hH : Has w F) (hn : newOk l) (hcl : cut.length = l.length)
    (hst : ∀ i, i < evs.length → ∃ k : Nat, k < l.length ∧ (evs.getD i dfEv).station = k) (hrp : rpN (Net.new l) evs (wIn cut evs) evs.length = some ρ) (hl : evs.length ≤ 400) :
    Calls Try.prog 48 #[.slice A l.length c, .slice A2 evs.length c2, .slice A3 cut.length c3] w fun e w' => ∃ b, e = .returned (.tuple #[.pointer (some ⟨b, 0, none⟩), .bool true]) ∧ NetAt 0 F ρ b w' ∧ Ext w w' := by
  obtain ⟨n2, n5, hbad⟩ := id hn
  have Hnew := hid (new_net h hH hn)
  have He := hid he
  have Hc := hid hc
  have Hst := hid hst
  have Hrp := hid hrp
  have Hcl := hid hcl
  have hclI : (cut.length : Int) = l.length := by omega
  obtain ⟨n, hnl⟩ : ∃ n, n = l.length := ⟨_, rfl⟩
  rw [← hnl] at n2 n5 Hnew Hst Hcl ⊢
  have Hsn := hid (fun s t (hs : s < n) (ht : t ≤ evs.length) => snAt_get (n := n) (l := evs) Hst.out hs t ht)
  rw [Hcl.out] at Hc ⊢
  obtain ⟨N, hN⟩ : ∃ N, N = evs.length := ⟨_, rfl⟩
  have HN := hid hN
  rw [← hN] at He Hrp hl Hst Hsn ⊢
  have nI : (n : Int) ≤ 5 := by omega
  have N0 := hid (show 0 < n by omega)
  have NI : (N : Int) ≤ 400 := by omega
  clear h he hc hst hrp hbad hn hH hcl hN hclI
  clear hnl
  go_enter Try.func48, Try.ntmps48
  go_wp2_with (first
    | (go_at_call 24; refine Hnew.out.mono ?_; rintro e w1 ⟨b, rfl, k1, k2⟩; obtain ⟨Z, k3, k4⟩ := k1.hold; have K1 := hid k3; have B1 := hid k4; have E1 := hid k2; clear k1 k2 k3 k4)
    | (at_make; refine wpList_make_sl rfl (.tmp 29) (.tmp 29) 22 rfl 3 _ 1 8 Try.underlying22 info3 .i64 .i64 n rfl rfl (by omega) (by simp only [maxLen]; omega) _ K1.out ?_; intro v' w2 m1 k1 k2 k3 _; have h1' := made_ints k1; obtain ⟨As, ks, rfl, _⟩ := k1.form; obtain ⟨bs, os, rfl⟩ := ints_some h1' (by rw [List.length_replicate]; exact N0.out); have K2 := hid h1'; have K3 := hid k2; have E3 := hid (E1.out.trans k3); clear k1 k2 k3 h1'))
  go_loopw [11] (fun v wr => ∃ t : Nat, t ≤ N ∧ v = .int .i64 t ∧ ∃ x ms, rpN (Net.new l) evs (wIn cut evs) t = some x ∧ Ints (snAt n evs t) (.slice (some ⟨bs, os, none⟩) n ks) ms ∧ NetAt 0 (ms + F) x b wr ∧ Ext w wr) (fun v _ => N - (intOf v).toNat)
  case atStart => exact ⟨0, Nat.zero_le _, rfl, Net.new l, m1, rfl, K2.out, B1.out _ _ (K3.out.eq (by ac_rfl)), E3.out⟩
  case round =>
    obtain ⟨t, ht, rfl, x, ms, hx, hs, hA, hE⟩ := hrel
    have Hx := hid hx
    have Hs := hid hs
    have HEr := hid hE
    by_cases hlt : t < N
    · obtain ⟨Z, hZ, hback⟩ := hA.hold
      have HZ := hid hZ
      have Hback := hid hback
      clear hZ hback hA hE hx hs K1 K2 K3 B1 E1 E3
      obtain ⟨s, hsn, hst⟩ := Hst.out t hlt
      obtain ⟨v, hv⟩ : ∃ v, evs[t]? = some v := ⟨_, List.getElem?_eq_getElem (by rw [← HN.out]; exact hlt)⟩
      have hvg : evs.getD t dfEv = v := by simp [List.getD, hv]
      obtain ⟨b1, o1, Ak, ck, hA2, e0, e1, e2, e3, e4, _⟩ := He.out.getEv hv
      subst hA2
      obtain ⟨curs, rfl, z1, z2, z3⟩ := ints_at Hs.out (j := s) (by rw [snAt_length]; exact hsn)
      obtain ⟨b4, o4, hA3, e5⟩ := Hc.out.getInt (get_getD (l := cut) (j := s) 0 (by rw [Hcl.out]; exact hsn))
      subst hA3
      have hHF : Has wr F := HZ.out.right.right
      have f0 := e0.c0 hHF
      have f1 := e1.c0 hHF
      have f2 := e2.c0 hHF
      have f3 := e3.c0 hHF
      have f4 := e4.c0 hHF
      have hst' := hst
      rw [hvg] at hst'
      rw [hst'] at f0
      have hsv := Hsn.out s t hsn (Nat.le_of_lt hlt)
      obtain ⟨sv, hsve⟩ : ∃ sv, sv = (snAt n evs t).getD s 0 := ⟨_, rfl⟩
      rw [← hsve] at z2 hsv
      have hsb := snAt_bound n evs s t
      rw [← hsve] at hsb
      have hsv1 : IntKind.i64.wrap (sv + 1) = sv + 1 := by rw [IntKind.wrap_i64]; omega
      obtain ⟨cv, hcv⟩ : ∃ cv, cv = cut.getD s 0 := ⟨_, rfl⟩
      rw [← hcv] at e5
      have HW := hid (show wIn cut evs t = decide (sv < cv) by unfold wIn; rw [hst, Int.toNat_natCast, hsv, hcv])
      obtain ⟨x', hx'⟩ := rpN_prefix (N - (t + 1)) (t := t + 1) (by rw [show t + 1 + (N - (t + 1)) = N by omega]; exact Hrp.out)
      have Hx' := hid hx'
      have Hn := hid (show snAt n evs (t + 1) = (snAt n evs t).set s (sv + 1) by show (snAt n evs t).set _ _ = _; rw [hst, Int.toNat_natCast, hsve])
      have Hin := hid (fun hW => rpN_in Hx.out hx' hW)
      have Hout := hid (fun hW => rpN_out Hx.out hx' hW)
      rw [hvg] at Hin
      have hltI : (t : Int) < N := by omega
      have hsI : (s : Int) < n := by omega
      have hsI2 : ¬ (n : Int) ≤ s := by omega
      have hs0 : ¬ (s : Int) < 0 := by omega
      have Hz1 := hid z1
      have Hz2 := hid z2
      have Hz3 := hid z3
      have He5 := hid e5
      have Hlt := hid hlt
      obtain ⟨wh, hwh⟩ : ∃ a, a = v.what := ⟨_, rfl⟩
      obtain ⟨ot, hot⟩ : ∃ a, a = v.other := ⟨_, rfl⟩
      obtain ⟨pc, hpc⟩ : ∃ a, a = v.pieces := ⟨_, rfl⟩
      obtain ⟨nk, hnk⟩ : ∃ a, a = v.clock.length := ⟨_, rfl⟩
      rw [← hwh] at f1
      rw [← hot] at f2
      rw [← hpc] at f3
      rw [← hnk] at f4
      have Hdo := hid (show doEv x v = if wh = 1 then x.work s pc else if wh = 2 then x.send s ot pc else x.recv ot s by unfold doEv; rw [hwh, hot, hpc, hst'])
      clear e0 e1 e2 e3 e4 e5 z1 z2 z3 hlt hst hst' hsv hsve hcv hx' hvg hv hHF hwh hot hpc hnk hsb
      have HA := hid (HZ.out.alloc (.cells #[.int .i64 0, .int .i64 0, .int .i64 0, .int .i64 0, .slice none 0 0] 68))
      go_wp2_with (first
        | (refine wpList_store_whole rfl (.tmp 12) (.tmp 40) 68 rfl 5 size68q wr.heap.size (.agg #[.int .i64 s, .int .i64 wh, .int .i64 ot, .int .i64 pc, .slice Ak nk ck]) rfl rfl rfl (by simp [Value.cells, Value.oneCell']) #[.int .i64 0, .int .i64 0, .int .i64 0, .int .i64 0, .slice none 0 0] 68 _ HA.out rfl ?_; intro w5 k1 k2; have J1 := hid (show Has w5 (blk wr.heap.size #[.int .i64 s, .int .i64 wh, .int .i64 ot, .int .i64 pc, .slice Ak nk ck] 68 + _) from k1); have J2 := hid ((HEr.out.trans (Ext.alloc _ _)).trans k2); have g0 := J1.out.at_ (i := 0) rfl; have J3 := hid (J1.out.eq (b := blk bs curs 3 + (blk wr.heap.size #[.int .i64 s, .int .i64 wh, .int .i64 ot, .int .i64 pc, .slice Ak nk ck] 68 + (Z + F))) (by ac_rfl)); have g5 := J3.out.at_ Hz2.out; clear k1 k2)
        | (refine wpList_store_blk rfl (.tmp 57) (.tmp 56) 3 rfl size3 bs (os + s) (.int .i64 (sv + 1)) rfl rfl rfl curs 3 _ J3.out Hz1.out ?_; intro w6 k1 k2; have J4 := hid k1; have J5 := hid (J2.out.trans k2); clear k1 k2 g0 g5))
      obtain ⟨gm, hgm⟩ : ∃ gm, gm = wr.heap.size := ⟨_, rfl⟩
      rw [← hgm] at J4 ⊢
      have HM := hid (J4.out.eq (b := (blk bs (curs.setIfInBounds (os + s) (.int .i64 (sv + 1))) 3 + (blk gm #[.int .i64 s, .int .i64 wh, .int .i64 ot, .int .i64 pc, .slice Ak nk ck] 68 + F)) + Z) (by ac_rfl))
      clear hgm J1 J2 J3 HA
      have keep : ∀ (W : World) (Y : MS), Has W (Y + (blk bs (curs.setIfInBounds (os + s) (.int .i64 (sv + 1))) 3 + (blk gm #[.int .i64 s, .int .i64 wh, .int .i64 ot, .int .i64 pc, .slice Ak nk ck] 68 + F))) → (W.cell? ⟨bs, os + s, none⟩ = some (.int .i64 (sv + 1)) ∧ W.cell? ⟨b4, o4 + s, none⟩ = some (.int .i64 cv) ∧ W.cell? ⟨gm, 0, none⟩ = some (.int .i64 s) ∧ W.cell? ⟨gm, 1, none⟩ = some (.int .i64 wh) ∧ W.cell? ⟨gm, 2, none⟩ = some (.int .i64 ot) ∧ W.cell? ⟨gm, 3, none⟩ = some (.int .i64 pc)) := fun W Y h => by
        have h1 : Has W (blk bs (curs.setIfInBounds (os + s) (.int .i64 (sv + 1))) 3 + (Y + (blk gm #[.int .i64 s, .int .i64 wh, .int .i64 ot, .int .i64 pc, .slice Ak nk ck] 68 + F))) := h.eq (by ac_rfl)
        have h2 : Has W (blk gm #[.int .i64 s, .int .i64 wh, .int .i64 ot, .int .i64 pc, .slice Ak nk ck] 68 + (Y + (blk bs (curs.setIfInBounds (os + s) (.int .i64 (sv + 1))) 3 + F))) := h.eq (by ac_rfl)
        exact ⟨h1.at_ (arr_eq Hz1.out), He5.out.c0 h.right.right.right, h2.at_ rfl, h2.at_ rfl, h2.at_ rfl, h2.at_ rfl⟩
      obtain ⟨s1, s2, s3, s4, s5, s6⟩ := keep w6.drew Z (J4.out.drew.eq (by ac_rfl))
      have hS : w6.drew.cell? ⟨bs, os + s, none⟩ = some (.int .i64 (sv + 1)) ∧ w6.drew.cell? ⟨b4, o4 + s, none⟩ = some (.int .i64 cv) ∧ w6.drew.cell? ⟨gm, 0, none⟩ = some (.int .i64 s) := ⟨s1, s2, s3⟩
      clear f0 f1 f2 f3 f4 s1 s2 s3 keep
      refine wp_region_txt (fun W => W.cell? ⟨bs, os + s, none⟩ = some (.int .i64 (sv + 1)) ∧ W.cell? ⟨b4, o4 + s, none⟩ = some (.int .i64 cv) ∧ W.cell? ⟨gm, 0, none⟩ = some (.int .i64 s)) none
        [(0, true), (1, true), (2, true), (3, true), (4, true), (5, true), (6, true), (7, true), (8, true), (9, true), (10, true)] (by kernel_rfl) rfl (by kernel_rfl) (by kernel_rfl) (by repeat (first | with_reducible refine PanicOk.thn ?_ | with_reducible refine PanicOk.blk ?_ | exact PanicOk.body _ _ _)) ?_
      repeat
        (refine txt_quiet ?_ hS rfl rfl (fun W hW => ?_) ?_
         rotate_left 1
         · obtain ⟨hW1, hW2, hW3⟩ := hW
           go_simp
           exact rfl
         simp only [Act.put, List.setIfInBounds_toArray, List.set_cons_zero, List.set_cons_succ])
      refine txt_done ?_
      obtain ⟨s1, s2, s3⟩ := hS
      have HZ2 := hid (Hback.out (blk bs (curs.setIfInBounds (os + s) (.int .i64 (sv + 1))) 3 + (blk gm #[.int .i64 s, .int .i64 wh, .int .i64 ot, .int .i64 pc, .slice Ak nk ck] 68 + F)) w6.drew (HM.out.drew.eq (by ac_rfl)))
      have Hs2 := hid (Hz3.out (sv + 1))
      by_cases hin : sv < cv
      · have hgt : ¬ cv < sv + 1 := by omega
        obtain ⟨hd0, hd1⟩ := Hin.out (HW.out.trans (decide_eq_true hin))
        rw [Hdo.out] at hd0 hd1
        by_cases hw1 : wh = 1
        · rw [if_pos hw1] at hd0 hd1
          have Hd0 := hid hd0
          have Hd1 := hid hd1
          subst hw1
          clear hd0 hd1 hin
          go_wp2_with (go_at_call 26; refine (work_net HZ2.out s pc).mono ?_; rintro e w7 ⟨rfl, k1, k2⟩; rw [Hd0.out]; have L1 := hid k1; have L2 := hid ((J5.out.trans (Ext.drew _)).trans k2); clear k1 k2)
          go_roundw
          case rel => exact ⟨t + 1, Hlt.out, by go_num, x', _, Hx'.out, by rw [Hn.out]; exact Hs2.out, by rw [Hd1.out]; exact (show NetAt 0 (blk gm #[.int .i64 s, .int .i64 1, .int .i64 ot, .int .i64 pc, .slice Ak nk ck] 68 + (blk bs (curs.setIfInBounds (os + s) (.int .i64 (sv + 1))) 3 + F)) _ _ _ from L1.out.moved (by ac_rfl)).beside, L2.out⟩
          case measure => have := Hlt.out; simp [intOf]; omega
        · rw [if_neg hw1] at hd0 hd1
          by_cases hw2 : wh = 2
          · rw [if_pos hw2] at hd0 hd1
            have Hd0 := hid hd0
            have Hd1 := hid hd1
            subst hw2
            clear hd0 hd1 hin hw1
            go_wp2_with (go_at_call 25; refine (send_net HZ2.out s ot pc).mono ?_; rintro e w7 ⟨rfl, k1, k2⟩; rw [Hd0.out]; have L1 := hid k1; have L2 := hid ((J5.out.trans (Ext.drew _)).trans k2); clear k1 k2)
            go_roundw
            case rel => exact ⟨t + 1, Hlt.out, by go_num, x', _, Hx'.out, by rw [Hn.out]; exact Hs2.out, by rw [Hd1.out]; exact (show NetAt 0 (blk gm #[.int .i64 s, .int .i64 2, .int .i64 ot, .int .i64 pc, .slice Ak nk ck] 68 + (blk bs (curs.setIfInBounds (os + s) (.int .i64 (sv + 1))) 3 + F)) _ _ _ from L1.out.moved (by ac_rfl)).beside, L2.out⟩
            case measure => have := Hlt.out; simp [intOf]; omega
          · rw [if_neg hw2] at hd0 hd1
            have Hd0 := hid hd0
            have Hd1 := hid hd1
            have t1 : (wh == 1) = false := by simp [hw1]
            have t2 : (wh == 2) = false := by simp [hw2]
            clear hd0 hd1 hin hw1 hw2
            go_wp2_with (go_at_call 16; refine (recv_net HZ2.out ot s).mono ?_; rintro e w7 ⟨rfl, k1, k2⟩; rw [Hd0.out]; have L1 := hid k1; have L2 := hid ((J5.out.trans (Ext.drew _)).trans k2); clear k1 k2)
            go_roundw
            case rel => exact ⟨t + 1, Hlt.out, by go_num, x', _, Hx'.out, by rw [Hn.out]; exact Hs2.out, by rw [Hd1.out]; exact (show NetAt 0 (blk gm #[.int .i64 s, .int .i64 wh, .int .i64 ot, .int .i64 pc, .slice Ak nk ck] 68 + (blk bs (curs.setIfInBounds (os + s) (.int .i64 (sv + 1))) 3 + F)) _ _ _ from L1.out.moved (by ac_rfl)).beside, L2.out⟩
            case measure => have := Hlt.out; simp [intOf]; omega
      · have hgt : cv < sv + 1 := by omega
        have hd1 := Hout.out (HW.out.trans (decide_eq_false hin))
        have Hd1 := hid hd1
        clear hd1 hin s4 s5 s6
        go_wp2
        go_roundw
        case rel => exact ⟨t + 1, Hlt.out, by go_num, x', _, Hx'.out, by rw [Hn.out]; exact Hs2.out, by rw [Hd1.out]; exact (show NetAt 0 (blk gm #[.int .i64 s, .int .i64 wh, .int .i64 ot, .int .i64 pc, .slice Ak nk ck] 68 + (blk bs (curs.setIfInBounds (os + s) (.int .i64 (sv + 1))) 3 + F)) _ _ _ from HZ2.out.moved (by ac_rfl)).beside, J5.out.trans (Ext.drew _)⟩
        case measure => have := Hlt.out; simp [intOf]; omega
    · have hte : t = N := by omega
      subst hte
      have Hend := hid hA
      have Heq := hid (show x = ρ from by have := Hrp.out; rw [hx] at this; injection this)
      clear hA hE hx hs
      go_wp2
      go_ret2
      exact ⟨b, rfl, by rw [← Heq.out]; exact Hend.out.beside, HEr.out⟩
end Go.Proofs.Ytnkgfgkgepadhaa

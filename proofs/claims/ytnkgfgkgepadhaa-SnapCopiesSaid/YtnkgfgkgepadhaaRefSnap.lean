/-
  The walk of the reference's Total. The walk of the reference's Snapshot.
-/
import Derived.Test.YtnkgfgkgepadhaaRefLook
namespace Go.Proofs.Ytnkgfgkgepadhaa
open Go.RowKit
set_option linter.unusedVariables false
set_option linter.unusedSimpArgs false
set_option maxHeartbeats 4000000
set_option maxRecDepth 100000

theorem rtotal_any {F : MS} {σ : Net} {b : Nat} {w : World} (hok : NetOk σ) (hr : RdRef F σ b) (hH : Has w F) :
    Calls Try.prog 72 #[.pointer (some ⟨b, 0, none⟩)] w fun e w' => e = .returned (.int .i64 σ.total) ∧ w = w' := by
  obtain ⟨A0, c0, A2, c2, A3, c3, A4, c4, a0, k0, _⟩ := hr.head
  have f0 := a0.cell0 hH
  have Hk0 := hid k0
  have Hr := hid hr
  have HH := hid hH
  have Hok := hid hok
  have Ht := hid hok.totOk
  have q5 : (σ.sta.length : Int) ≤ 5 := by have := hok.n5; omega
  clear hr hH hok a0 k0
  go_enter Try.func72, Try.ntmps72
  go_wp2
  go_loop [3, 4] (fun vo v => ∃ t : Nat, t ≤ σ.sta.length ∧ v = .int .i64 t ∧ vo = .int .i64 (isum ((List.range t).map (totOf σ)))) (fun _ v => σ.sta.length - (intOf v).toNat)
  case atStart => exact ⟨0, Nat.zero_le _, rfl, rfl⟩
  case round =>
    obtain ⟨t, ht, rfl, rfl⟩ := hrel
    by_cases hlt : t < σ.sta.length
    · obtain ⟨s, hs⟩ : ∃ s, σ.sta[t]? = some s := ⟨_, List.getElem?_eq_getElem hlt⟩
      obtain ⟨bh, oh, hA, e1⟩ := Hk0.out.getInt (show σ.helds[t]? = some s.pieces by simp [Net.helds, hs])
      subst hA
      have f1 := e1.cell0 HH.out
      obtain ⟨r, hrr, hrl, hrj⟩ := chan_get Hok.out hlt
      have hm := List.mem_of_getElem? hrr
      have hp := Ht.out.sta s (List.mem_of_getElem? hs)
      have hpart := tot_part Ht.out ht
      have htot : totOf σ t = s.pieces + totRow r := by unfold totOf; rw [hs, show σ.chan.getD t [] = r by simp [List.getD, hrr]]
      have Htot := hid htot
      have Hmore := hid (show isum ((List.range (t + 1)).map (totOf σ)) = isum ((List.range t).map (totOf σ)) + totOf σ t by rw [range_map_more, isum_snoc])
      have Hlt := hid hlt
      have htI : (t : Int) < σ.sta.length := by omega
      have Hrj := hid hrj
      have Hrl := hid (show r.length = σ.sta.length from hrl)
      have Hline := hid (Ht.out.line r hm)
      have Hmsg := hid (Ht.out.msg r hm)
      have htr := totRow_bound (Ht.out.cols r hm) (Ht.out.line r hm) (Ht.out.msg r hm)
      clear hs e1 hrr hrl hrj hm htot hlt
      obtain ⟨h1, h2⟩ := hp
      obtain ⟨h3, h4⟩ := hpart
      generalize isum ((List.range t).map (totOf σ)) = S at *
      generalize s.pieces = p at *
      go_wp2
      go_loop [3, 5] (fun vo v => ∃ u : Nat, u ≤ σ.sta.length ∧ v = .int .i64 u ∧ vo = .int .i64 (S + p + isum ((r.take u).map totLine))) (fun _ v => σ.sta.length - (intOf v).toNat)
      case atStart => exact ⟨0, Nat.zero_le _, rfl, by simp [isum]⟩
      case round =>
        obtain ⟨u, hu, rfl, rfl⟩ := hrel
        have hpart2 := isum_bound (B := 1000000000) (by omega) (l := (r.take u).map totLine) (fun a ha => by
          obtain ⟨y, hy, rfl⟩ := List.mem_map.1 ha
          have hy := List.mem_of_mem_take hy
          exact totLine_bound (Hline.out y hy) (Hmsg.out y hy))
        rw [List.length_map, List.length_take, Nat.min_eq_left (by rw [Hrl.out]; exact hu)] at hpart2
        by_cases hlu : u < σ.sta.length
        · have hq := Hrj.out u hlu
          have hqm := List.mem_of_getElem? hq
          obtain ⟨bl, ol, cl, b2, o2, c2', A, c, l1, l2, l3, l4⟩ := Hr.out.line Hok.out Hlt.out hlu
          have g1 := l1.cell0 HH.out
          have g2 := l2.cell0 HH.out
          have g3 := l3.cell0 HH.out
          generalize σ.lineAt t u = q at *
          have hql := Hline.out q hqm
          have hqlI : (q.length : Int) ≤ 1000 := by omega
          have Hmsg2 := hid (Hmsg.out q hqm)
          have Hmore2 := hid (show isum ((r.take (u + 1)).map totLine) = isum ((r.take u).map totLine) + totLine q by rw [map_take_more totLine hq, isum_snoc])
          have Hl4 := hid l4
          have Hlu := hid hlu
          have huI : (u : Int) < σ.sta.length := by omega
          have hb5 : 0 ≤ isum ((r.take u).map totLine) ∧ isum ((r.take u).map totLine) ≤ 5000000000 := by omega
          obtain ⟨h5, h6⟩ := hb5
          clear hq hqm l1 l2 l3 l4 hlu hpart2
          generalize isum ((r.take u).map totLine) = S2 at *
          go_wp2
          go_loop [3, 6] (fun vo v => ∃ x : Nat, x ≤ q.length ∧ v = .int .i64 x ∧ vo = .int .i64 (S + p + S2 + isum ((q.take x).map fun y => max y.told 0))) (fun _ v => q.length - (intOf v).toNat)
          case atStart => exact ⟨0, Nat.zero_le _, rfl, by simp [isum]⟩
          case round =>
            obtain ⟨x, hx, rfl, rfl⟩ := hrel
            have hpart3 := isum_bound (B := 1000000) (by omega) (l := (q.take x).map fun y => max y.told 0) (fun a ha => by
              obtain ⟨y, hy, rfl⟩ := List.mem_map.1 ha
              have := Hmsg2.out y (List.mem_of_mem_take hy)
              omega)
            rw [List.length_map, List.length_take, Nat.min_eq_left hx] at hpart3
            by_cases hlx : x < q.length
            · obtain ⟨y, hy⟩ : ∃ y, q[x]? = some y := ⟨_, List.getElem?_eq_getElem hlx⟩
              obtain ⟨bm, om, Ac, cc, hA, e1, _, _⟩ := Hl4.out.getRmsg hy
              subst hA
              have g4 := e1.cell0 HH.out
              have hby := Hmsg2.out y (List.mem_of_getElem? hy)
              have Hmore3 := hid (show isum ((q.take (x + 1)).map fun y => max y.told 0) = isum ((q.take x).map fun y => max y.told 0) + max y.told 0 by rw [map_take_more (fun y : Msg => max y.told 0) hy, isum_snoc])
              have Hlx := hid hlx
              have hxI : (x : Int) < q.length := by omega
              have hb6 : 0 ≤ isum ((q.take x).map fun y => max y.told 0) ∧ isum ((q.take x).map fun y => max y.told 0) ≤ 1000000000 := by omega
              obtain ⟨h7, h8⟩ := hb6
              clear hy e1 hlx hpart3
              generalize isum ((q.take x).map fun y => max y.told 0) = S3 at *
              generalize y.told = z at *
              go_wp2
              all_goals
                go_round
                case rel => exact ⟨x + 1, Hlx.out, by go_num, by rw [Hmore3.out]; congr 1; omega⟩
                case measure => have := Hlx.out; simp [intOf]; omega
            · obtain rfl : x = q.length := by omega
              have Htl := hid (show isum ((q.take q.length).map fun y => max y.told 0) = totLine q by rw [List.take_length]; rfl)
              have htb := totLine_bound hql Hmsg2.out
              clear hpart3
              rw [Htl.out]
              go_wp2
              go_round
              case rel => exact ⟨u + 1, Hlu.out, by go_num, by rw [Hmore2.out]; go_num⟩
              case measure => have := Hlu.out; simp [intOf]; omega
        · obtain rfl : u = σ.sta.length := by omega
          have Htl := hid (show isum ((r.take σ.sta.length).map totLine) = totRow r by rw [List.take_of_length_le (by rw [Hrl.out]; omega)]; rfl)
          clear hpart2
          rw [Htl.out]
          go_wp2
          go_round
          case rel => exact ⟨t + 1, Hlt.out, by go_num, by rw [Hmore.out, Htot.out]; go_num⟩
          case measure => have := Hlt.out; simp [intOf]; omega
    · obtain rfl : t = σ.sta.length := by omega
      go_wp2
      go_ret
      exact ⟨rfl, rfl⟩
end Go.Proofs.Ytnkgfgkgepadhaa

namespace Go.Proofs.Ytnkgfgkgepadhaa
open Go.RowKit
set_option linter.unusedVariables false
set_option linter.unusedSimpArgs false
set_option maxHeartbeats 2000000
set_option maxRecDepth 100000

theorem rsnapshot_no {F : MS} {σ : Net} {b : Nat} {w : World} (hok : NetOk σ) (hr : RdRef F σ b) (hH : Has w F) (no : Int) (he : σ.snapErr no ≠ 0) :
    Calls Try.prog 75 #[.pointer (some ⟨b, 0, none⟩), .int .i64 no] w fun e w' => e = .returned (.tuple #[.agg #[.slice none 0 0, .slice none 0 0], .int .i64 (σ.snapErr no)]) ∧ (∀ M, Has w M → Has w' M) ∧ Ext w w' := by
  have HA := hH.alloc (.cells #[.slice none 0 0, .slice none 0 0] 38)
  have Hc := hid (rready_any hok (hr.more (pts w.heap.size (.cells #[.slice none 0 0, .slice none 0 0] 38))) HA no)
  generalize σ.snapErr no = c at *
  have hc : (c != 0) = true := by simpa using he
  have HA2 := hid (show Has (w.alloc (.cells #[.slice none 0 0, .slice none 0 0] 38)) (blk w.heap.size #[.slice none 0 0, .slice none 0 0] 38 + MS.all w) from (Has.all w).alloc _)
  clear he hr hH hok HA
  go_enter Try.func75, Try.ntmps75
  go_wp2_with (first
    | (go_at_call 93; refine Hc.out.mono ?_; rintro e w2 ⟨rfl, k1, k2⟩; have K1 := hid k1; have K2 := hid k2; clear k1 k2)
    | (refine wpList_store_whole rfl (.tmp 4) (.tmp 12) 38 rfl 2 size38 w.heap.size (.agg #[.slice none 0 0, .slice none 0 0]) rfl rfl rfl (by simp [Value.cells, Value.oneCell']) #[.slice none 0 0, .slice none 0 0] 38 (MS.all w) (K1.out _ (HA2.out)) rfl ?_; intro w3 j1 j2))
  have q0 : w3.cell? ⟨w.heap.size, 0, none⟩ = some (.slice none 0 0) := j1.at_ (by rfl)
  have q1 : w3.cell? ⟨w.heap.size, 1, none⟩ = some (.slice none 0 0) := j1.at_ (by rfl)
  exact bodyPost_ret (v := .tuple #[.agg #[.slice none 0 0, .slice none 0 0], .int .i64 c]) (by simp [results, Try.results75, go_sem, q0, q1]) rfl ⟨rfl, fun M h => Has.of_all h j1, ((Ext.alloc _ _).trans K2.out).trans j2⟩

theorem rsnapshot_yes {F : MS} {σ : Net} {b : Nat} {w : World} (hok : NetOk σ) (hr : RdRef F σ b) (hH : Has w F) {k : Nat} (hk : k < σ.shots.length) (he : σ.snapErr (k + 1) = 0) :
    Calls Try.prog 75 #[.pointer (some ⟨b, 0, none⟩), .int .i64 (k + 1)] w fun e w' => ∃ A c A' c', e = .returned (.tuple #[.agg #[.slice A σ.sta.length c, .slice A' σ.sta.length c'], .int .i64 0]) ∧ RdS F RT.int (σ.X k).pieces (.slice A σ.sta.length c) ∧ RdS F (RT.sl (RT.sl RT.int)) (σ.X k).under (.slice A' σ.sta.length c') ∧ (∀ M, Has w M → Has w' M) ∧ Ext w w' := by
  have HA := hH.alloc (.cells #[.slice none 0 0, .slice none 0 0] 38)
  have Hc := hid (rready_any hok (hr.more (pts w.heap.size (.cells #[.slice none 0 0, .slice none 0 0] 38))) HA (k + 1))
  have HA2 := hid (show Has (w.alloc (.cells #[.slice none 0 0, .slice none 0 0] 38)) (blk w.heap.size #[.slice none 0 0, .slice none 0 0] 38 + MS.all w) from (Has.all w).alloc _)
  rw [he] at Hc
  obtain ⟨A4, c4, b5, o5, S0, s0, S1, s1, S2, s2, S3, s3, S4, s4, rfl, a4, ⟨e0, e1, e2, e3, e4⟩, r0, r1, r2, r3, r4⟩ := hr.shot hok hk
  have Ha := hid (And.intro a4 (And.intro e1 (And.intro e4 (And.intro r1 r4))))
  have HH := hid hH
  have hkI : (k : Int) < σ.shots.length := by omega
  have hk8 : (k : Int) < 8 := by have := hok.shots; omega
  have hw2 : IntKind.i64.wrap ((k : Int) + 1 - 1) = (k : Int) := by rw [IntKind.wrap_i64]; omega
  have hw3 : IntKind.i64.wrap (k : Int) = (k : Int) := by rw [IntKind.wrap_i64]; omega
  clear he a4 e0 e1 e2 e3 e4 r0 r1 r2 r3 r4 hr hH hok HA
  go_enter Try.func75, Try.ntmps75
  go_wp2_with (go_at_call 93; refine Hc.out.mono ?_; rintro e w2 ⟨rfl, k1, k2⟩; have K1 := hid k1; have K2 := hid k2; clear k1 k2)
  have HB := hid (K1.out _ HA2.out)
  have HF := hid (Has.of_all (w := w) (w' := w2) HH.out HB.out)
  have hS : w2.drew.cell? ⟨b, 4, none⟩ = some (.slice (some ⟨b5, o5, none⟩) σ.shots.length c4) ∧ w2.drew.cell? ⟨b5, o5 + k * 5 + 1, none⟩ = some (.slice S1 σ.sta.length s1) ∧ w2.drew.cell? ⟨b5, o5 + k * 5 + 4, none⟩ = some (.slice S4 σ.sta.length s4) := ⟨Ha.out.1.cell0 HF.out.drew, Ha.out.2.1.cell0 HF.out.drew, Ha.out.2.2.1.cell0 HF.out.drew⟩
  refine wp_region_txt (fun W => W.cell? ⟨b, 4, none⟩ = some (.slice (some ⟨b5, o5, none⟩) σ.shots.length c4) ∧ W.cell? ⟨b5, o5 + k * 5 + 1, none⟩ = some (.slice S1 σ.sta.length s1) ∧ W.cell? ⟨b5, o5 + k * 5 + 4, none⟩ = some (.slice S4 σ.sta.length s4)) none
    [(0, true), (1, true), (2, true), (3, true), (4, true), (5, true), (6, true), (7, true), (8, true), (9, true), (10, true), (11, true), (12, true), (13, true), (14, true), (15, true), (16, true), (17, true), (18, true), (19, false), (20, true)] (by kernel_rfl) rfl (by kernel_rfl) (by kernel_rfl) (by repeat (first | with_reducible refine PanicOk.thn ?_ | with_reducible refine PanicOk.blk ?_ | exact PanicOk.body _ _ _)) ?_
  repeat
    (refine txt_quiet ?_ hS rfl rfl (fun W hW => ?_) ?_
     rotate_left 1
     · obtain ⟨hW1, hW2, hW3⟩ := hW
       go_simp
       exact rfl
     simp only [Act.put, List.setIfInBounds_toArray, List.set_cons_zero, List.set_cons_succ])
  refine txt_op rfl rfl ?_
  refine op_store_whole (.tmp 4) (.tmp 32) 38 rfl 2 size38 w.heap.size (.agg #[.slice S1 σ.sta.length s1, .slice S4 σ.sta.length s4]) rfl rfl rfl (by simp [Value.cells, Value.oneCell']) #[.slice none 0 0, .slice none 0 0] 38 (MS.all w) HB.out.drew rfl ?_
  intro w4 k7 k8
  have hF4 := Has.of_all (w := w) (w' := w4) HH.out k7
  have hS4 : w4.cell? ⟨b, 4, none⟩ = some (.slice (some ⟨b5, o5, none⟩) σ.shots.length c4) ∧ w4.cell? ⟨b5, o5 + k * 5 + 1, none⟩ = some (.slice S1 σ.sta.length s1) ∧ w4.cell? ⟨b5, o5 + k * 5 + 4, none⟩ = some (.slice S4 σ.sta.length s4) := ⟨Ha.out.1.cell0 hF4, Ha.out.2.1.cell0 hF4, Ha.out.2.2.1.cell0 hF4⟩
  refine ⟨fun _ => hS4, ?_⟩
  simp only [Act.put, List.setIfInBounds_toArray, List.set_cons_zero, List.set_cons_succ]
  clear hS
  repeat
    (refine txt_quiet ?_ hS4 rfl rfl (fun W hW => ?_) ?_
     rotate_left 1
     · obtain ⟨hW1, hW2, hW3⟩ := hW
       go_simp
       exact rfl
     simp only [Act.put, List.setIfInBounds_toArray, List.set_cons_zero, List.set_cons_succ])
  refine txt_done ?_
  have q0 : w4.cell? ⟨w.heap.size, 0, none⟩ = some (.slice S1 σ.sta.length s1) := k7.at_ (by rfl)
  have q1 : w4.cell? ⟨w.heap.size, 1, none⟩ = some (.slice S4 σ.sta.length s4) := k7.at_ (by rfl)
  go_wp2
  exact bodyPost_ret (v := .tuple #[.agg #[.slice S1 σ.sta.length s1, .slice S4 σ.sta.length s4], .int .i64 0]) (by simp [results, Try.results75, go_sem, q0, q1]) rfl
    ⟨S1, s1, S4, s4, rfl, Ha.out.2.2.2.1, Ha.out.2.2.2.2, fun M h => Has.of_all h k7, ((Ext.alloc _ _).trans K2.out).trans ((Ext.drew _).trans k8)⟩
end Go.Proofs.Ytnkgfgkgepadhaa

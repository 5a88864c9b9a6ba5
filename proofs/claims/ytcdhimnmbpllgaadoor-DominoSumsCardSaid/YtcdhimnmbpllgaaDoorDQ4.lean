/-
  The walks of the specification's In (49), around (50), has (51). The walk of the specification's Refutes (18) (printed by gen_rref.py). The walk of Refutes (17) (printed by gen_rf.py).
-/
import Derived.Test.YtcdhimnmbpllgaaDoorDC2
import Derived.Test.YtcdhimnmbpllgaaDoorDC3
import Derived.Test.YtcdhimnmbpllgaaDoorRPlain
import Derived.Test.YtcdhimnmbpllgaaDoorTW1
import Derived.Test.YtcdhimnmbpllgaaDoorPair66
namespace Go.Proofs.YtcdhimnmbpllgaaDoor
open Go.RowKit
set_option linter.unusedVariables false
set_option linter.unusedSimpArgs false
set_option maxHeartbeats 2000000
set_option maxRecDepth 100000

theorem in_any {F : MS} {p : List ByteArray} {A : Option Addr} {c : Nat} {w : World} (hr : RdS F RT.str p (.slice A p.length c)) (hp : RegOk p) (hH : Has w F) (x y : Int) :
    Calls Tryd.prog 49 #[.slice A p.length c, .int .i64 x, .int .i64 y] w fun e w' => e = .returned (.bool (hsI p x y)) ∧ w' = w := by
  have hnc := hr.cells.2.1
  have Hu := hid (show hsI p x y = (decide (0 ≤ x) && (decide (0 ≤ y) && (decide (x < wd p) && (decide (y < p.length) && (bt (p.getD y.toNat empty) x.toNat == 35))))) from rfl)
  obtain ⟨r, hre⟩ : ∃ r, r = hsI p x y := ⟨_, rfl⟩
  rw [← hre]
  have Hr := hid hre
  obtain ⟨s0, hs0⟩ : ∃ s, p[0]? = some s := ⟨_, List.getElem?_eq_getElem (by have := hp.h1; omega)⟩
  obtain ⟨b, o, hA, hat0⟩ := hr.getStr hs0
  have hsz0 := hp.rows s0 (List.mem_of_getElem? hs0)
  subst hA
  have g0 := hat0.c0 hH
  rw [Nat.add_zero] at g0
  have hszI : (s0.size : Int) = wd p := by omega
  have hp1 : (0 : Int) < p.length := by have := hp.h1; omega
  have hp2 : 0 < p.length := by have := hp.h1; omega
  clear hre hat0 hs0
  by_cases h2 : 0 ≤ y
  · by_cases h4 : y < p.length
    · by_cases h1 : 0 ≤ x
      · by_cases h3 : x < wd p
        · obtain ⟨i, hi⟩ : ∃ i : Nat, y = i := ⟨y.toNat, by omega⟩
          obtain ⟨j, hj⟩ : ∃ j : Nat, x = j := ⟨x.toNat, by omega⟩
          subst hi
          subst hj
          obtain ⟨s, hs⟩ : ∃ s, p[i]? = some s := ⟨_, List.getElem?_eq_getElem (by omega)⟩
          obtain ⟨b', o', hA, hat⟩ := hr.getStr hs
          injection hA with hA; injection hA with e1 e2
          subst e1; subst e2
          have hsz := hp.rows s (List.mem_of_getElem? hs)
          have hb : bt (p.getD ((i : Int).toNat) empty) ((j : Int).toNat) = bt s j := by
            rw [Int.toNat_natCast, Int.toNat_natCast, getD_some hs]
          have hjs : j < s.size := by omega
          have hbt := bt_eq s j hjs
          have Hr2 := hid (show r = (bt s j == 35) by rw [Hr.out, Hu.out, decide_eq_true h1, decide_eq_true h2, decide_eq_true h3, decide_eq_true h4, hb]; simp)
          generalize bt s j = z at *
          have f0 := hat.c0 hH
          have hjI : (j : Int) < s.size := by omega
          clear hs hat hsz hb hH hr hp hsz0
          go_enter Tryd.func49, Tryd.ntmps49
          go_wp2
          go_ret
          exact ⟨by rw [Hr2.out]; first | rfl | simp, rfl⟩
        · have Hr2 := hid (show r = false by rw [Hr.out, Hu.out]; simp [h3])
          clear hr hp hH hsz0
          go_enter Tryd.func49, Tryd.ntmps49
          go_wp2
          go_ret
          exact ⟨by rw [Hr2.out]; first | rfl | simp, rfl⟩
      · have Hr2 := hid (show r = false by rw [Hr.out, Hu.out]; simp [h1])
        clear hr hp hH hsz0
        go_enter Tryd.func49, Tryd.ntmps49
        go_wp2
        go_ret
        exact ⟨by rw [Hr2.out]; first | rfl | simp, rfl⟩
    · have Hr2 := hid (show r = false by rw [Hr.out, Hu.out]; simp [h4])
      clear hr hp hH hsz0
      go_enter Tryd.func49, Tryd.ntmps49
      go_wp2
      go_ret
      exact ⟨by rw [Hr2.out]; first | rfl | simp, rfl⟩
  · have Hr2 := hid (show r = false by rw [Hr.out, Hu.out]; simp [h2])
    clear hr hp hH hsz0
    go_enter Tryd.func49, Tryd.ntmps49
    go_wp2
    go_ret
    exact ⟨by rw [Hr2.out]; first | rfl | simp, rfl⟩
theorem has_c {F : MS} {l : List (Int × Int)} {A : Option Addr} {c : Nat} {w : World} (hr : RdS F RT.cl l (.slice A l.length c)) (hl : l.length ≤ 1000) (hH : Has w F) (a b : Int) :
    Calls Tryd.prog 51 #[.slice A l.length c, .agg #[.int .i64 a, .int .i64 b]] w fun e w' => e = .returned (.bool (decide ((a, b) ∈ l))) ∧ Kp w w' := by
  have HG := hid (show Has (w.alloc (.cells #[.int .i64 a, .int .i64 b] 66)) (blk w.heap.size #[.int .i64 a, .int .i64 b] 66 + MS.all w) from (Has.all w).alloc _)
  have HEA := hid (Ext.alloc w (.cells #[.int .i64 a, .int .i64 b] 66))
  have hNc := hr.cells.2.1
  have Hr := hid hr
  have HH := hid hH
  obtain ⟨N, hN⟩ : ∃ N, N = l.length := ⟨_, rfl⟩
  rw [← hN] at Hr hNc hl ⊢
  have HN := hid hN
  have hNI : (N : Int) ≤ 1000 := by omega
  obtain ⟨rr, hrr⟩ : ∃ rr, rr = decide ((a, b) ∈ l) := ⟨_, rfl⟩
  rw [← hrr]
  have Hrr := hid hrr
  clear hr hH hN hl hrr
  go_enter Tryd.func51, Tryd.ntmps51
  go_wp2
  go_loopw [5] (fun v wr => ∃ i : Nat, i ≤ N ∧ v = .int .i64 i ∧ (∀ (j : Nat) k, j < i → l[j]? = some k → k ≠ (a, b)) ∧ Has wr (blk w.heap.size #[.int .i64 a, .int .i64 b] 66 + MS.all w) ∧ Ext w wr) (fun v _ => N - (intOf v).toNat)
  case atStart => exact ⟨0, Nat.zero_le _, rfl, fun j k h => by omega, HG.out, HEA.out⟩
  case round =>
    obtain ⟨i, hi, rfl, hno, hW, hE⟩ := hrel
    have Hno := hid hno
    have HW := hid hW
    have HE := hid hE
    clear hno hW hE
    by_cases hlt : i < N
    · have hltI : (i : Int) < N := by omega
      obtain ⟨k, hk⟩ : ∃ k, l[i]? = some k := ⟨_, List.getElem?_eq_getElem (by rw [← HN.out]; exact hlt)⟩
      have HF := HH.out.of_all (X := blk w.heap.size #[.int .i64 a, .int .i64 b] 66) HW.out
      obtain ⟨ka, kb⟩ := k
      obtain ⟨bq, oq, hA, e0, e1⟩ := Hr.out.getCl hk
      subst hA
      have g0 := e0.c0 HF
      have g1 := e1.c0 HF
      simp only at g0 g1
      have m0 : wr.cell? ⟨w.heap.size, 0, none⟩ = some (.int .i64 a) := HW.out.at_ rfl
      have m1 : wr.cell? ⟨w.heap.size, 1, none⟩ = some (.int .i64 b) := HW.out.at_ rfl
      have Hlt := hid hlt
      have Hki := hid hk
      have hNc1 : N ≤ c := hNc
      cases hq : decide (((ka, kb) : Int × Int) = (a, b)) with
      | true =>
        have hif := fun W => ifs2 ka kb a b W
        rw [hq] at hif
        have Hq := hid (of_decide_eq_true hq)
        clear HF hlt hk hq e0 e1
        go_wp2
        go_quiet (fail)
        go_wp2
        go_ret
        exact ⟨by rw [Hrr.out, decide_eq_true (by rw [← Hq.out]; exact List.mem_of_getElem? Hki.out)]; rfl, (Kp.drewN ⟨fun M hM => hM.of_all HW.out, HE.out⟩ _)⟩
      | false =>
        have hif := fun W => ifs2 ka kb a b W
        rw [hq] at hif
        have Hq := hid (of_decide_eq_false hq)
        clear HF hlt hk hq e0 e1
        go_wp2
        go_quiet (fail)
        go_wp2
        go_roundw
        case rel => exact ⟨i + 1, Hlt.out, by go_num, fun j k h hk => by
          by_cases hji : j = i
          · subst hji
            rw [Hki.out] at hk
            injection hk with hk
            exact fun h => Hq.out (by rw [← h, ← hk])
          · exact Hno.out j k (by omega) hk, HW.out.drewN _, HE.out.trans (Ext.drewN _ _)⟩
        case measure => have := Hlt.out; simp [intOf]; omega
    · have hie : i = N := by omega
      subst hie
      clear hlt
      go_wp2
      go_ret
      exact ⟨by rw [Hrr.out, decide_eq_false (fun hm => by
        obtain ⟨j, hj⟩ := List.getElem?_of_mem hm
        exact Hno.out j _ (by rw [HN.out]; exact (List.getElem?_eq_some_iff.1 hj).1) hj rfl)]; rfl, fun M hM => hM.of_all HW.out, HE.out⟩
def arndV (qx qy : Int) : Array Value := #[.int .i64 qx, .int .i64 (qy - 1), .int .i64 (qx - 1), .int .i64 qy, .int .i64 (qx + 1), .int .i64 qy, .int .i64 qx, .int .i64 (qy + 1)]
theorem arnd_at (qx qy : Int) : ∀ i : Nat, i < 4 → (arndV qx qy)[i * 2]? = some (.int .i64 (qx + dxN i)) ∧ (arndV qx qy)[i * 2 + 1]? = some (.int .i64 (qy + dyN i))
  | 0, _ => ⟨by simp [arndV, dxN], by simp [arndV, dyN]; omega⟩
  | 1, _ => ⟨by simp [arndV, dxN]; omega, by simp [arndV, dyN]⟩
  | 2, _ => ⟨by simp [arndV, dxN], by simp [arndV, dyN]⟩
  | 3, _ => ⟨by simp [arndV, dxN], by simp [arndV, dyN]⟩
  | i + 4, h => by omega
theorem around_any {F : MS} {p : List ByteArray} {A : Option Addr} {c : Nat} {w : World} (hr : RdS F RT.str p (.slice A p.length c)) (hp : RegOk p) (hH : Has w F) (q : Int × Int) (h1 : -1000 ≤ q.1 ∧ q.1 ≤ 1000) (h2 : -1000 ≤ q.2 ∧ q.2 ≤ 1000) :
    Calls Tryd.prog 50 #[.slice A p.length c, clV q] w fun e w' => ∃ v m, e = .returned v ∧ Cls (nbrsL p q) v m ∧ (∀ M, Has w M → Has w' (m + M)) ∧ Ext w w' := by
  obtain ⟨qx, qy⟩ := q
  simp only at h1 h2
  have Hin := hid (fun (x y : Int) (W : World) (X : MS) (h : Has W (X + MS.all w)) => show Calls Tryd.prog 49 #[.slice A p.length c, .int .i64 x, .int .i64 y] W fun e w' => e = .returned (.bool (hsI p x y)) ∧ w' = W from in_any hr hp (hH.of_all h) x y)
  have HA := hid (show Has (w.alloc (.cells #[.int .i64 qx, .int .i64 qy] 66)) (blk w.heap.size #[.int .i64 qx, .int .i64 qy] 66 + MS.all w) from (Has.all w).alloc _)
  have HEA := hid (Ext.alloc w (.cells #[.int .i64 qx, .int .i64 qy] 66))
  have HG := hid (show Has ((w.alloc (.cells #[.int .i64 qx, .int .i64 qy] 66)).alloc (.cells (arndV qx qy) 66)) (blk (w.heap.size + 1) (arndV qx qy) 66 + (blk w.heap.size #[.int .i64 qx, .int .i64 qy] 66 + MS.all w)) by
    have h := HA.out.alloc (.cells (arndV qx qy) 66)
    rw [show (w.alloc (.cells #[.int .i64 qx, .int .i64 qy] 66)).heap.size = w.heap.size + 1 by simp] at h
    exact h)
  have HEG := hid (HEA.out.trans (Ext.alloc _ (.cells (arndV qx qy) 66)))
  have y0 := HA.out.at_ (i := 0) rfl
  have y1 := HA.out.at_ (i := 1) rfl
  clear hr hp hH
  show Calls Tryd.prog 50 #[.slice A p.length c, .agg #[.int .i64 qx, .int .i64 qy]] w _
  go_enter Tryd.func50, Tryd.ntmps50
  go_wp2
  obtain ⟨W1, hW1⟩ : ∃ W1, W1 = (w.alloc (.cells #[.int .i64 qx, .int .i64 qy] 66)).alloc (.cells (arndV qx qy) 66) := ⟨_, rfl⟩
  rw [← hW1] at HG HEG
  unfold arndV at hW1
  rw [← hW1]
  have HB := hid (show Has W1 (0 + (blk (w.heap.size + 1) (arndV qx qy) 66 + (blk w.heap.size #[.int .i64 qx, .int .i64 qy] 66 + MS.all w))) by rw [MS.zero_add]; exact HG.out)
  clear hW1 y0 y1 HA HEA
  go_loopw [5, 7] (fun v5 v7 wr => ∃ (i : Nat) (m : MS), i ≤ 4 ∧ v7 = .int .i64 i ∧ Cls (nbrsK p (qx, qy) i) v5 m ∧ Has wr (m + (blk (w.heap.size + 1) (arndV qx qy) 66 + (blk w.heap.size #[.int .i64 qx, .int .i64 qy] 66 + MS.all w))) ∧ Ext w wr) (fun _ v _ => 4 - (intOf v).toNat)
  case atStart => exact ⟨0, 0, by omega, rfl, Cls.nil, HB.out, HEG.out⟩
  case round =>
    obtain ⟨i, m, hi, rfl, hc, hW, hE⟩ := hrel
    obtain ⟨A5, c5, rfl, _⟩ := SlR.form hc
    obtain ⟨n, hn⟩ : ∃ n, n = (nbrsK p (qx, qy) i).length := ⟨_, rfl⟩
    have hn4 : n ≤ 4 := by rw [hn]; exact Nat.le_trans (nbrsK_len _ _ _) hi
    rw [← hn] at hc ⊢
    have Hn := hid hn
    have HC := hid hc
    have HW := hid hW
    have HE := hid hE
    clear hc hW hE hn
    by_cases hlt : i < 4
    · have hltI : (i : Int) < 4 := by omega
      have Hlt := hid hlt
      obtain ⟨a0, a1⟩ := arnd_at qx qy i hlt
      have A0 := hid a0
      have A1 := hid a1
      have hd1 := dxN_le i
      have hd2 := dyN_le i
      have hsucc := hid (nbrsK_succ p (qx, qy) i)
      simp only at hsucc
      obtain ⟨ex, hex⟩ : ∃ ex, ex = qx + dxN i := ⟨_, rfl⟩
      obtain ⟨ey, hey⟩ : ∃ ey, ey = qy + dyN i := ⟨_, rfl⟩
      have HS := hid (show ∀ W X, Has W (X + (blk (w.heap.size + 1) (arndV qx qy) 66 + (blk w.heap.size #[.int .i64 qx, .int .i64 qy] 66 + MS.all w))) → W.cell? ⟨w.heap.size + 1, i * 2, none⟩ = some (.int .i64 ex) ∧ W.cell? ⟨w.heap.size + 1, i * 2 + 1, none⟩ = some (.int .i64 ey) from fun W X h => by
        have h2 : Has W (blk (w.heap.size + 1) (arndV qx qy) 66 + (X + (blk w.heap.size #[.int .i64 qx, .int .i64 qy] 66 + MS.all w))) := h.eq (by ac_rfl)
        rw [hex, hey]
        exact ⟨h2.at_ A0.out, h2.at_ A1.out⟩)
      rw [← hex, ← hey] at hsucc
      clear a0 a1 hex hey hlt hi hd1 hd2
      go_wp2
      have hS : (fun W' : World => W'.cell? ⟨w.heap.size + 1, i * 2, none⟩ = some (.int .i64 ex) ∧ W'.cell? ⟨w.heap.size + 1, i * 2 + 1, none⟩ = some (.int .i64 ey)) wr.drew := HS.out _ m HW.out.drew
      have hcall := hid (Hin.out ex ey wr.drew (m + (blk (w.heap.size + 1) (arndV qx qy) 66 + blk w.heap.size #[.int .i64 qx, .int .i64 qy] 66)) (HW.out.drew.eq (by ac_rfl)))
      cases hq : hsI p ex ey with
      | true =>
        rw [hq] at hcall
        have Hq := hid hq
        clear hq
        refine wp_region_txt (fun W' : World => W'.cell? ⟨w.heap.size + 1, i * 2, none⟩ = some (.int .i64 ex) ∧ W'.cell? ⟨w.heap.size + 1, i * 2 + 1, none⟩ = some (.int .i64 ey)) none
          [(0, true), (1, true), (2, true), (3, true), (4, true), (5, true), (6, true), (7, true), (8, true), (9, true), (10, true), (11, false)] (by kernel_rfl) rfl (by kernel_rfl) (by kernel_rfl) (by repeat (first | with_reducible refine PanicOk.thn ?_ | with_reducible refine PanicOk.blk ?_ | exact PanicOk.body _ _ _)) ?_
        repeat
          (refine txt_quiet ?_ hS rfl rfl (fun W hW => ?_) ?_
           rotate_left 1
           · obtain ⟨hW1, hW2⟩ := hW
             go_simp
             exact rfl
           simp only [Act.put, List.setIfInBounds_toArray, List.set_cons_zero, List.set_cons_succ])
        refine txt_op rfl rfl ?_
        refine op_call 49 _ _ (by go_simp) _ hcall.out ?_
        rintro e1 w1 ⟨rfl, rfl⟩
        refine ⟨_, rfl, fun _ => hS, ?_⟩
        simp only [Act.put, List.setIfInBounds_toArray, List.set_cons_zero, List.set_cons_succ]
        refine txt_done ?_
        obtain ⟨q0, q1⟩ := hS
        go_wp2_with (at_builtin; refine wpList_push rfl (.tmp 51) (.tmp 56) row29 rfl (.slice A5 n c5) rfl _ rfl (by simp) ClR ClR.one ClR.len _ (ex, ey) m 0 _ HC.out ⟨rfl, rfl⟩ ((HW.out.drew).eq (by rw [MS.zero_add])) n Hn.out.symm (by omega) (by omega) ?_; intro A8 c8 w8 m8 j4 j5 j6; have J4 := hid j4; have J5 := hid j5; have J6 := hid ((HE.out.trans (Ext.drew _)).trans j6); clear j4 j5 j6)
        go_roundw
        case rel => exact ⟨i + 1, m8, Hlt.out, by go_num, by rw [hsucc.out, Hq.out]; exact J4.out, J5.out, J6.out⟩
        case measure => have := Hlt.out; simp [intOf]; omega
      | false =>
        rw [hq] at hcall
        have Hq := hid hq
        clear hq
        refine wp_region_txt (fun W' : World => W'.cell? ⟨w.heap.size + 1, i * 2, none⟩ = some (.int .i64 ex) ∧ W'.cell? ⟨w.heap.size + 1, i * 2 + 1, none⟩ = some (.int .i64 ey)) none
          [(0, true), (1, true), (2, true), (3, true), (4, true), (5, true), (6, true), (7, true), (8, true), (9, true), (10, true), (11, false)] (by kernel_rfl) rfl (by kernel_rfl) (by kernel_rfl) (by repeat (first | with_reducible refine PanicOk.thn ?_ | with_reducible refine PanicOk.blk ?_ | exact PanicOk.body _ _ _)) ?_
        repeat
          (refine txt_quiet ?_ hS rfl rfl (fun W hW => ?_) ?_
           rotate_left 1
           · obtain ⟨hW1, hW2⟩ := hW
             go_simp
             exact rfl
           simp only [Act.put, List.setIfInBounds_toArray, List.set_cons_zero, List.set_cons_succ])
        refine txt_op rfl rfl ?_
        refine op_call 49 _ _ (by go_simp) _ hcall.out ?_
        rintro e1 w1 ⟨rfl, rfl⟩
        refine ⟨_, rfl, fun _ => hS, ?_⟩
        simp only [Act.put, List.setIfInBounds_toArray, List.set_cons_zero, List.set_cons_succ]
        refine txt_done ?_
        clear hS
        go_wp2
        go_roundw
        case rel => exact ⟨i + 1, m, Hlt.out, by go_num, by rw [hsucc.out, Hq.out]; simp only [Bool.false_eq_true, if_false, List.append_nil]; exact (by have h := HC.out; rw [Hn.out] at h ⊢; exact h), HW.out.drew, HE.out.trans (Ext.drew _)⟩
        case measure => have := Hlt.out; simp [intOf]; omega
    · have hie : i = 4 := by omega
      subst hie
      clear hlt hi
      go_wp2
      go_ret
      exact ⟨_, m, rfl, (by have h := HC.out; rw [Hn.out] at h ⊢; exact h), fun M hM => (Has.with_all hM (HW.out.eq (b := (m + (blk (w.heap.size + 1) (arndV qx qy) 66 + blk w.heap.size #[.int .i64 qx, .int .i64 qy] 66)) + MS.all w) (by ac_rfl)) |> fun h => (h.eq (b := m + M + (blk (w.heap.size + 1) (arndV qx qy) 66 + blk w.heap.size #[.int .i64 qx, .int .i64 qy] 66)) (by ac_rfl)).left), HE.out⟩
end Go.Proofs.YtcdhimnmbpllgaaDoor

namespace Go.Proofs.YtcdhimnmbpllgaaDoor
open Go.RowKit
set_option linter.unusedVariables false
set_option linter.unusedSimpArgs false
set_option maxHeartbeats 4000000
set_option maxRecDepth 100000

theorem hsI_nat {p : List ByteArray} {x y : Int} (h : hsI p x y = true) : ∃ X Y : Nat, x = X ∧ y = Y ∧ X < wd p ∧ Y < p.length := by
  unfold hsI at h
  simp only [Bool.and_eq_true, decide_eq_true_eq] at h
  exact ⟨x.toNat, y.toNat, by omega, by omega, by omega, by omega⟩
theorem rd_all_cl {F : MS} {w : World} {l : List (Int × Int)} {v : Value} (h : RdS F RT.cl l v) (hH : Has w F) : RdS (MS.all w) RT.cl l v := rd_all (F := F) (T := RT.cl) (fun _ _ h => h) h hH
theorem par_eq {X Y : Nat} : ((X : Int) + (Y : Int)).tmod 2 = ((((X + Y) % 2 : Nat)) : Int) := by
  rw [show (X : Int) + (Y : Int) = ((X + Y : Nat) : Int) from (Int.natCast_add X Y).symm, Int.tmod_eq_emod_of_nonneg (Int.natCast_nonneg _)]
  rfl
theorem blackB_par {X Y : Nat} : blackB ((X : Int), (Y : Int)) = decide ((X + Y) % 2 = 0) := by
  unfold blackB
  simp only
  rw [show ((X : Int) + (Y : Int)) % 2 = (((X + Y) % 2 : Nat) : Int) from rfl]
  by_cases h : (X + Y) % 2 = 0
  · rw [h]; rfl
  · rw [decide_eq_false h, beq_eq_false_iff_ne]; omega
theorem refrf_any {F : MS} {p : List ByteArray} {A : Option Addr} {c : Nat} {t : List (Int × Int)} {B : Option Addr} {ct : Nat} {w : World} (hr : RdS F RT.str p (.slice A p.length c)) (hl : p.length ≤ 1000) (hs : ∀ s ∈ p, s.size ≤ 1000000) (ht : RdS F RT.cl t (.slice B t.length ct)) (htl : t.length ≤ 200) (hH : Has w F) :
    Calls Tryd.prog 18 #[.slice A p.length c, .slice B t.length ct] w fun e w' => e = .returned (.tuple #[.bool (isReg p && refB p t), .int .i64 (cntE p)]) ∧ Kp w w' := by
  have Hreg := hid (region_kp hr hl hs hH)
  cases hq : isReg p with
  | false =>
    rw [hq] at Hreg
    have HC := hid (show cntE p = 2 by unfold cntE; rw [hq]; rfl)
    rw [HC.out]
    clear hl hs hr hH hq ht htl
    go_enter Tryd.func18, Tryd.ntmps18
    go_wp2_with (go_at_call 28; refine Hreg.out.mono ?_; rintro e1 w1 ⟨rfl, k1⟩; have K1 := hid k1; clear k1)
    go_ret2
    exact ⟨rfl, K1.out⟩
  | true =>
    rw [hq] at Hreg
    have HC := hid (show cntE p = 0 by unfold cntE; rw [hq]; rfl)
    rw [HC.out, Bool.true_and]
    have hp := (isReg.ok hq).1
    have hw8 := hp.w8
    have hh8 := hp.h8
    have Hin := hid (fun (x y : Int) (W : World) (X : MS) (h : Has W (X + MS.all w)) => show Calls Tryd.prog 49 #[.slice A p.length c, .int .i64 x, .int .i64 y] W fun e w' => e = .returned (.bool (hsI p x y)) ∧ w' = W from in_any hr hp (hH.of_all h) x y)
    have Harn := hid (fun (X Y : Nat) (hX : X < wd p) (hY : Y < p.length) (W : World) (M : MS) (h : Has W (M + MS.all w)) => show Calls Tryd.prog 50 #[.slice A p.length c, .agg #[.int .i64 (X : Int), .int .i64 (Y : Int)]] W fun e w' => ∃ v m, e = .returned v ∧ Cls (nbrsL p ((X : Int), (Y : Int))) v m ∧ (∀ M, Has W M → Has w' (m + M)) ∧ Ext W w' from around_any hr hp (hH.of_all h) ((X : Int), (Y : Int)) (by simp only; omega) (by simp only; omega))
    have HH := hid hH
    have HasI := hid (fun (x y : Int) (h : hsI p x y = true) => hsI_nat h)
    have htc := ht.cells.2.1
    have Htd := hid (fun (i : Nat) (d : Int × Int) (h : t[i]? = some d) => ht.getCl h)
    have Hnl := hid (fun i => show (nearL p (t.take i)).length ≤ 800 from by
      have h1 := nearL_len p (t.take i)
      have h2 : (t.take i).length ≤ t.length := List.length_take_le' i t
      omega)
    obtain ⟨TN, hTN⟩ : ∃ TN, TN = t.length := ⟨_, rfl⟩
    rw [← hTN] at htl htc ⊢
    have HTN := hid hTN
    obtain ⟨R, hR⟩ : ∃ R, R = refB p t := ⟨_, rfl⟩
    rw [← hR]
    have HR := hid (show R = (okL p (b0L t) none t && decide ((nearL p t).length < TN)) by rw [hR, hTN]; rfl)
    obtain ⟨R0, hR0⟩ : ∃ R0, R0 = okL p (b0L t) none t := ⟨_, rfl⟩
    rw [← hR0] at HR
    have HR0 := hid hR0
    obtain ⟨b0, hb0⟩ : ∃ b0, b0 = b0L t := ⟨_, rfl⟩
    have Hb0 := hid hb0
    rw [← hb0] at HR0
    have HaF := hid (fun (W : World) (X : MS) (h : Has W (X + MS.all w)) => hH.of_all h)
    have Hp := hid hp
    have hTI : (TN : Int) ≤ 200 := by omega
    clear hl hs hr hH hq ht hTN hR hR0 hb0 hp
    go_enter Tryd.func18, Tryd.ntmps18
    go_wp2_with (go_at_call 28; refine Hreg.out.mono ?_; rintro e1 w1 ⟨rfl, k1⟩; have H1 := hid (k1.1 _ (Has.all w)); have E1 := hid k1.2; clear k1)
    go_loopw [6, 7] (fun v6 v7 wr => ∃ (i : Nat) (m : MS), i ≤ TN ∧ v7 = .int .i64 i ∧ Cls (nearL p (t.take i)) v6 m ∧ okL p b0 (prevC t i) (t.drop i) = R0 ∧ (0 < i → ∃ z, t[0]? = some z ∧ hsI p z.1 z.2 = true) ∧ Has wr (m + MS.all w) ∧ Ext w wr) (fun _ v _ => TN - (intOf v).toNat)
    case atStart => exact ⟨0, 0, Nat.zero_le _, rfl, Cls.nil, HR0.out.symm, fun h => by omega, by rw [MS.zero_add]; exact H1.out, E1.out⟩
    case round =>
      clear H1 E1
      obtain ⟨i, m, hi, rfl, hc, hR, hz, hW, hE⟩ := hrel
      obtain ⟨A6, c6, rfl, _⟩ := SlR.form hc
      obtain ⟨n, hn⟩ : ∃ n, n = (nearL p (t.take i)).length := ⟨_, rfl⟩
      have hn8 : n ≤ 800 := by rw [hn]; exact Hnl.out i
      rw [← hn] at hc ⊢
      have Hn := hid hn
      have HC6 := hid hc
      have HW := hid hW
      have HE := hid hE
      have HRi := hid hR
      have Hz := hid hz
      clear hc hW hE hR hz hn
      by_cases hlt : i < TN
      · have hltI : (i : Int) < TN := by omega
        have Hlt := hid hlt
        have hT0 : (0 : Int) < TN := by omega
        have hT0N : 0 < TN := by omega
        obtain ⟨d, hd⟩ : ∃ d, t[i]? = some d := ⟨_, List.getElem?_eq_getElem (by rw [← HTN.out]; exact hlt)⟩
        obtain ⟨z, hzd⟩ : ∃ z, t[0]? = some z := ⟨_, List.getElem?_eq_getElem (by rw [← HTN.out]; exact hT0N)⟩
        obtain ⟨bt, ot, hB, t0, t1⟩ := Htd.out i d hd
        obtain ⟨bt', ot', hB', s0, s1⟩ := Htd.out 0 z hzd
        subst hB
        injection hB' with hB'; injection hB' with e1 e2
        subst e1; subst e2
        have hmore := okL_more (p := p) (b0 := b0) (prev := prevC t i) hd
        rw [HRi.out] at hmore
        have hprev : prevC t (i + 1) = some d := by unfold prevC; rw [if_neg (by omega), Nat.add_sub_cancel]; exact hd
        have hb0z : b0 = blackB z := by rw [Hb0.out]; unfold b0L; rw [getD_some hzd]
        have hzin : hsI p d.1 d.2 = true → hsI p z.1 z.2 = true := fun h => by
          by_cases h0 : i = 0
          · subst h0; rw [hd] at hzd; injection hzd with hzd; rw [← hzd]; exact h
          · obtain ⟨z', h1, h2⟩ := Hz.out (by omega)
            rw [hzd] at h1; injection h1 with h1; rw [h1]; exact h2
        have hznext := hid (fun (h : hsI p z.1 z.2 = true) => show 0 < i + 1 → ∃ z, t[0]? = some z ∧ hsI p z.1 z.2 = true from fun _ => ⟨z, hzd, h⟩)
        have hnm := hid (nearL_more (p := p) hd)
        have Hd := hid hd
        obtain ⟨dx, dy⟩ := d
        obtain ⟨zx, zy⟩ := z
        simp only at t0 t1 s0 s1
        rw [show ot + 0 * 2 = ot by omega] at s0 s1
        have HaT := hid (fun (W : World) (X : MS) (h : Has W (X + MS.all w)) => show (W.cell? ⟨bt, ot + i * 2, none⟩ = some (.int .i64 dx) ∧ W.cell? ⟨bt, ot + i * 2 + 1, none⟩ = some (.int .i64 dy)) ∧ W.cell? ⟨bt, ot, none⟩ = some (.int .i64 zx) ∧ W.cell? ⟨bt, ot + 1, none⟩ = some (.int .i64 zy) from ⟨⟨t0.c0 (HaF.out W X h), t1.c0 (HaF.out W X h)⟩, s0.c0 (HaF.out W X h), s1.c0 (HaF.out W X h)⟩)
        have Hprev := hid hprev
        have Hmore := hid hmore
        have Hzin := hid hzin
        have Hb0z := hid hb0z
        obtain ⟨⟨y0, y1⟩, _⟩ := HaT.out wr _ HW.out
        clear hlt hi hd hzd t0 t1 s0 s1 hmore hprev hzin hb0z
        obtain ⟨b8, hb8⟩ : ∃ b8, b8 = wr.heap.size := ⟨_, rfl⟩; have HAb8 := hid (show Has (wr.alloc (.cells #[.int .i64 0, .int .i64 0] 66)) (blk b8 #[.int .i64 0, .int .i64 0] 66 + (m + MS.all w)) by rw [hb8]; exact HW.out.alloc _); have Hb8 := hid hb8; clear hb8
        go_wp2_with (rw [← Hb8.out]; refine wpList_store_whole rfl (.tmp 8) (.tmp 23) 66 rfl 2 size66 b8 (.agg #[.int .i64 dx, .int .i64 dy]) rfl rfl rfl (by simp [Value.cells, Value.oneCell']) #[.int .i64 0, .int .i64 0] 66 _ HAb8.out rfl ?_; intro w41 j1 j2; have H41 := hid (show Has w41 (blk b8 #[.int .i64 dx, .int .i64 dy] 66 + (m + MS.all w)) from j1.eq (by unfold blk; ac_rfl)); have E41 := hid ((HE.out.trans (Ext.alloc _ _)).trans j2); clear j1 j2)
        cases hha : hsI p dx dy with
        | false =>
          have hno := hid (show R = false by
            rw [HR.out, Hmore.out]
            unfold okR
            simp only [hha]; simp)
          have HD8 := hid (show Has w41.drew (blk b8 #[.int .i64 dx, .int .i64 dy] 66 + (m + MS.all w)) from H41.out.drew)
          have ED8 := hid (E41.out.trans (Ext.drew _))
          have hS : (fun W' : World => W'.cell? ⟨b8, 0, none⟩ = some (.int .i64 dx) ∧ W'.cell? ⟨b8, 1, none⟩ = some (.int .i64 dy) ∧ W'.cell? ⟨bt, ot, none⟩ = some (.int .i64 zx) ∧ W'.cell? ⟨bt, ot + 1, none⟩ = some (.int .i64 zy)) w41.drew := ⟨(HD8.out.eq (b := (blk b8 #[.int .i64 dx, .int .i64 dy] 66 + (m + MS.all w))) (by ac_rfl)).at_ (i := 0) rfl, (HD8.out.eq (b := (blk b8 #[.int .i64 dx, .int .i64 dy] 66 + (m + MS.all w))) (by ac_rfl)).at_ (i := 1) rfl, (HaT.out w41.drew _ ((HD8.out.eq (b := (blk b8 #[.int .i64 dx, .int .i64 dy] 66 + m) + MS.all w) (by ac_rfl)))).2.1, (HaT.out w41.drew _ ((HD8.out.eq (b := (blk b8 #[.int .i64 dx, .int .i64 dy] 66 + m) + MS.all w) (by ac_rfl)))).2.2⟩
          have hq := Hin.out dx dy w41.drew _ ((HD8.out.eq (b := (blk b8 #[.int .i64 dx, .int .i64 dy] 66 + m) + MS.all w) (by ac_rfl)))
          rw [hha] at hq
          refine wp_region_txt (fun W' => W'.cell? ⟨b8, 0, none⟩ = some (.int .i64 dx) ∧ W'.cell? ⟨b8, 1, none⟩ = some (.int .i64 dy) ∧ W'.cell? ⟨bt, ot, none⟩ = some (.int .i64 zx) ∧ W'.cell? ⟨bt, ot + 1, none⟩ = some (.int .i64 zy)) none
            [(0, true), (1, true), (2, true), (3, true), (4, true), (5, false), (6, true), (7, true), (8, true), (9, true), (10, true), (11, true), (12, true), (13, true), (14, true), (15, true), (16, true), (17, true), (18, true), (19, true), (20, true), (21, true), (22, true), (23, true), (24, true), (25, true)] (by kernel_rfl) rfl (by kernel_rfl) (by kernel_rfl) (by repeat (first | with_reducible refine PanicOk.thn ?_ | with_reducible refine PanicOk.blk ?_ | exact PanicOk.body _ _ _)) ?_
          repeat (first
            | (refine txt_off hS rfl rfl ?_; simp only [Act.put, List.setIfInBounds_toArray, List.set_cons_zero, List.set_cons_succ])
            | (refine txt_quiet ?_ hS rfl rfl (fun W hW => ?_) ?_
               rotate_left 1
               · obtain ⟨hW1, hW2, hW3, hW4⟩ := hW
                 go_simp
                 exact rfl
               simp only [Act.put, List.setIfInBounds_toArray, List.set_cons_zero, List.set_cons_succ]))
          refine txt_op rfl rfl ?_
          refine op_call 49 _ _ (by go_simp) _ hq ?_
          rintro e7 w7 ⟨rfl, rfl⟩
          refine ⟨_, rfl, fun _ => hS, ?_⟩
          simp only [Act.put, List.setIfInBounds_toArray, List.set_cons_zero, List.set_cons_succ]
          repeat (first
            | (refine txt_off hS rfl rfl ?_; simp only [Act.put, List.setIfInBounds_toArray, List.set_cons_zero, List.set_cons_succ])
            | (refine txt_quiet ?_ hS rfl rfl (fun W hW => ?_) ?_
               rotate_left 1
               · obtain ⟨hW1, hW2, hW3, hW4⟩ := hW
                 go_simp
                 exact rfl
               simp only [Act.put, List.setIfInBounds_toArray, List.set_cons_zero, List.set_cons_succ]))
          refine txt_done ?_
          try simp only [Act.put]
          clear hS hq
          go_wp2
          go_ret2
          exact ⟨by first | rfl | (rw [hno.out]; rfl), fun M hM => hM.of_all ((HD8.out.eq (b := (blk b8 #[.int .i64 dx, .int .i64 dy] 66 + m) + MS.all w) (by ac_rfl))), ED8.out⟩
        | true =>
          obtain ⟨X, Y, hdx, hdy, hXW, hYH⟩ := HasI.out dx dy hha
          have hz0 := Hzin.out hha
          obtain ⟨X0, Y0, hzx, hzy, hX0, hY0⟩ := HasI.out zx zy hz0
          subst hdx; subst hdy; subst hzx; subst hzy
          have hX8 : X ≤ 8 := by omega
          have hY8 : Y ≤ 8 := by omega
          have hX08 : X0 ≤ 8 := by omega
          have hY08 : Y0 ≤ 8 := by omega
          obtain ⟨sc, hsc⟩ : ∃ sc : Int, sc = (X : Int) + (Y : Int) := ⟨_, rfl⟩
          obtain ⟨sz, hsz⟩ : ∃ sz : Int, sz = (X0 : Int) + (Y0 : Int) := ⟨_, rfl⟩
          obtain ⟨rc, hrc⟩ : ∃ rc : Int, rc = (((X + Y) % 2 : Nat) : Int) := ⟨_, rfl⟩
          obtain ⟨r0, hr0⟩ : ∃ r0 : Int, r0 = (((X0 + Y0) % 2 : Nat) : Int) := ⟨_, rfl⟩
          have htm1 : sc.tmod 2 = rc := by rw [hsc, hrc]; exact par_eq
          have htm2 : sz.tmod 2 = r0 := by rw [hsz, hr0]; exact par_eq
          have hbcr : (blackB ((X : Int), (Y : Int)) == b0) = decide (rc = r0) := by
            rw [Hb0z.out, blackB_par, blackB_par]
            have h1 : (X + Y) % 2 = 0 ∨ (X + Y) % 2 = 1 := by omega
            have h2 : (X0 + Y0) % 2 = 0 ∨ (X0 + Y0) % 2 = 1 := by omega
            rw [hrc, hr0]
            rcases h1 with h1 | h1 <;> rcases h2 with h2 | h2 <;> rw [h1, h2] <;> rfl
          clear hrc hr0
          by_cases hcol : rc = r0
          · have hbc : (blackB ((X : Int), (Y : Int)) == b0) = true := by rw [hbcr]; exact decide_eq_true hcol
            clear hbcr
            have hcc : (rc != r0) = false := by rw [bne_eq_false_iff_eq]; exact hcol
            have HD8 := hid (show Has w41.drew (blk b8 #[.int .i64 (X : Int), .int .i64 (Y : Int)] 66 + (m + MS.all w)) from H41.out.drew)
            have ED8 := hid (E41.out.trans (Ext.drew _))
            have hS : (fun W' : World => W'.cell? ⟨b8, 0, none⟩ = some (.int .i64 (X : Int)) ∧ W'.cell? ⟨b8, 1, none⟩ = some (.int .i64 (Y : Int)) ∧ W'.cell? ⟨bt, ot, none⟩ = some (.int .i64 (X0 : Int)) ∧ W'.cell? ⟨bt, ot + 1, none⟩ = some (.int .i64 (Y0 : Int))) w41.drew := ⟨(HD8.out.eq (b := (blk b8 #[.int .i64 (X : Int), .int .i64 (Y : Int)] 66 + (m + MS.all w))) (by ac_rfl)).at_ (i := 0) rfl, (HD8.out.eq (b := (blk b8 #[.int .i64 (X : Int), .int .i64 (Y : Int)] 66 + (m + MS.all w))) (by ac_rfl)).at_ (i := 1) rfl, (HaT.out w41.drew _ ((HD8.out.eq (b := (blk b8 #[.int .i64 (X : Int), .int .i64 (Y : Int)] 66 + m) + MS.all w) (by ac_rfl)))).2.1, (HaT.out w41.drew _ ((HD8.out.eq (b := (blk b8 #[.int .i64 (X : Int), .int .i64 (Y : Int)] 66 + m) + MS.all w) (by ac_rfl)))).2.2⟩
            have hq := Hin.out (X : Int) (Y : Int) w41.drew _ ((HD8.out.eq (b := (blk b8 #[.int .i64 (X : Int), .int .i64 (Y : Int)] 66 + m) + MS.all w) (by ac_rfl)))
            rw [hha] at hq
            have hw1 : IntKind.i64.wrap ((X : Int) + (Y : Int)) = sc := by rw [IntKind.wrap_i64, hsc]; omega
            have hw2 : IntKind.i64.wrap ((X0 : Int) + (Y0 : Int)) = sz := by rw [IntKind.wrap_i64, hsz]; omega
            clear hsc hsz
            refine wp_region_txt (fun W' => W'.cell? ⟨b8, 0, none⟩ = some (.int .i64 (X : Int)) ∧ W'.cell? ⟨b8, 1, none⟩ = some (.int .i64 (Y : Int)) ∧ W'.cell? ⟨bt, ot, none⟩ = some (.int .i64 (X0 : Int)) ∧ W'.cell? ⟨bt, ot + 1, none⟩ = some (.int .i64 (Y0 : Int))) none
              [(0, true), (1, true), (2, true), (3, true), (4, true), (5, false), (6, true), (7, true), (8, true), (9, true), (10, true), (11, true), (12, true), (13, true), (14, true), (15, true), (16, true), (17, true), (18, true), (19, true), (20, true), (21, true), (22, true), (23, true), (24, true), (25, true)] (by kernel_rfl) rfl (by kernel_rfl) (by kernel_rfl) (by repeat (first | with_reducible refine PanicOk.thn ?_ | with_reducible refine PanicOk.blk ?_ | exact PanicOk.body _ _ _)) ?_
            repeat (first
              | (refine txt_off hS rfl rfl ?_; simp only [Act.put, List.setIfInBounds_toArray, List.set_cons_zero, List.set_cons_succ])
              | (refine txt_quiet ?_ hS rfl rfl (fun W hW => ?_) ?_
                 rotate_left 1
                 · obtain ⟨hW1, hW2, hW3, hW4⟩ := hW
                   go_simp
                   exact rfl
                 simp only [Act.put, List.setIfInBounds_toArray, List.set_cons_zero, List.set_cons_succ]))
            refine txt_op rfl rfl ?_
            refine op_call 49 _ _ (by go_simp) _ hq ?_
            rintro e7 w7 ⟨rfl, rfl⟩
            refine ⟨_, rfl, fun _ => hS, ?_⟩
            simp only [Act.put, List.setIfInBounds_toArray, List.set_cons_zero, List.set_cons_succ]
            repeat (first
              | (refine txt_off hS rfl rfl ?_; simp only [Act.put, List.setIfInBounds_toArray, List.set_cons_zero, List.set_cons_succ])
              | (refine txt_quiet ?_ hS rfl rfl (fun W hW => ?_) ?_
                 rotate_left 1
                 · obtain ⟨hW1, hW2, hW3, hW4⟩ := hW
                   go_simp
                   exact rfl
                 simp only [Act.put, List.setIfInBounds_toArray, List.set_cons_zero, List.set_cons_succ]))
            refine txt_done ?_
            try simp only [Act.put]
            clear hS hq
            go_wp2
            clear hw1 hw2 hcc
            by_cases hi0 : i = 0
            · subst hi0
              have hord : ordC (prevC t 0) ((X : Int), (Y : Int)) = true := by rfl
              have Hnext := hid (show okL p b0 (prevC t (0 + 1)) (t.drop (0 + 1)) = R0 by
                rw [Hprev.out, Hmore.out]
                unfold okR
                simp only [hha, Bool.true_and]
                rw [hbc, hord]; simp)
              clear hord hbc hcol
              have HD10 := hid (show Has w41.drew.drew (blk b8 #[.int .i64 (X : Int), .int .i64 (Y : Int)] 66 + (m + MS.all w)) from HD8.out.drew)
              have ED10 := hid (ED8.out.trans (Ext.drew _))
              have hS : (fun W' : World => W'.cell? ⟨b8, 0, none⟩ = some (.int .i64 (X : Int)) ∧ W'.cell? ⟨b8, 1, none⟩ = some (.int .i64 (Y : Int))) w41.drew.drew := ⟨(HD10.out.eq (b := (blk b8 #[.int .i64 (X : Int), .int .i64 (Y : Int)] 66 + (m + MS.all w))) (by ac_rfl)).at_ (i := 0) rfl, (HD10.out.eq (b := (blk b8 #[.int .i64 (X : Int), .int .i64 (Y : Int)] 66 + (m + MS.all w))) (by ac_rfl)).at_ (i := 1) rfl⟩
              refine wp_region_txt (fun W' => W'.cell? ⟨b8, 0, none⟩ = some (.int .i64 (X : Int)) ∧ W'.cell? ⟨b8, 1, none⟩ = some (.int .i64 (Y : Int))) none
                [(0, true), (1, true), (2, true), (3, true), (4, true), (5, true), (6, true), (7, true), (8, true), (9, true), (10, true), (11, true), (12, true), (13, true), (14, true), (15, true), (16, true), (17, true), (18, true), (19, true), (20, true), (21, true), (22, true), (23, true), (24, true), (25, true), (26, true), (27, true), (28, true), (29, true), (30, true), (31, true), (32, true), (33, true), (34, true)] (by kernel_rfl) rfl (by kernel_rfl) (by kernel_rfl) (by repeat (first | with_reducible refine PanicOk.thn ?_ | with_reducible refine PanicOk.blk ?_ | exact PanicOk.body _ _ _)) ?_
              repeat (first
                | (refine txt_off hS rfl rfl ?_; simp only [Act.put, List.setIfInBounds_toArray, List.set_cons_zero, List.set_cons_succ])
                | (refine txt_quiet ?_ hS rfl rfl (fun W hW => ?_) ?_
                   rotate_left 1
                   · obtain ⟨hW1, hW2⟩ := hW
                     go_simp
                     exact rfl
                   simp only [Act.put, List.setIfInBounds_toArray, List.set_cons_zero, List.set_cons_succ]))
              refine txt_done ?_
              try simp only [Act.put]
              clear hS
              have x0 := (HD10.out.eq (b := (blk b8 #[.int .i64 (X : Int), .int .i64 (Y : Int)] 66 + (m + MS.all w))) (by ac_rfl)).at_ (i := 0) rfl
              have x1 := (HD10.out.eq (b := (blk b8 #[.int .i64 (X : Int), .int .i64 (Y : Int)] 66 + (m + MS.all w))) (by ac_rfl)).at_ (i := 1) rfl
              go_wp2_with (go_at_call 50; refine (Harn.out X Y hXW hYH w41.drew.drew _ (HD10.out.eq (b := (blk b8 #[.int .i64 (X : Int), .int .i64 (Y : Int)] 66 + m) + MS.all w) (by ac_rfl))).mono ?_; rintro e61 w61 ⟨v9, m9, rfl, hC9, k61, l61⟩; have H61 := hid (k61 _ HD10.out); have E61 := hid (ED10.out.trans l61); clear k61 l61; obtain ⟨A9, c9, rfl, _⟩ := SlR.form hC9; have HC9 := hid hC9; clear x0 x1 hC9)
              obtain ⟨nk, hnk⟩ : ∃ nk, nk = (nbrsL p ((X : Int), (Y : Int))).length := ⟨_, rfl⟩
              have hnk4 : nk ≤ 4 := by rw [hnk]; exact nbrsK_len p _ 4
              rw [← hnk] at HC9 ⊢
              have Hnk := hid hnk
              clear hnk
              go_loopw [6, 10] (fun v6 v10 wq => ∃ (k : Nat) (mk : MS), k ≤ nk ∧ v10 = .int .i64 k ∧ Cls (((nbrsL p ((X : Int), (Y : Int))).take k).foldl insN (nearL p (t.take 0))) v6 mk ∧ Has wq (mk + (m9 + (blk b8 #[.int .i64 (X : Int), .int .i64 (Y : Int)] 66 + MS.all w))) ∧ Ext w wq) (fun _ v _ => nk - (intOf v).toNat)
              case atStart => exact ⟨0, m, Nat.zero_le _, rfl, (by have h := HC6.out; rw [Hn.out] at h ⊢; exact h), H61.out.eq (b := m + (m9 + (blk b8 #[.int .i64 (X : Int), .int .i64 (Y : Int)] 66 + MS.all w))) (by ac_rfl), E61.out⟩
              case round =>
                obtain ⟨k, mk, hk, rfl, hck, hWk, hEk⟩ := hrel
                obtain ⟨A6, c6, rfl, _⟩ := SlR.form hck
                obtain ⟨nn, hnn⟩ : ∃ nn, nn = (((nbrsL p ((X : Int), (Y : Int))).take k).foldl insN (nearL p (t.take 0))).length := ⟨_, rfl⟩
                have hnn8 : nn ≤ 804 := by
                  have h1 := foldN_len (nearL p (t.take 0)) ((nbrsL p ((X : Int), (Y : Int))).take k)
                  have h2 := List.length_take_le k (nbrsL p ((X : Int), (Y : Int)))
                  have h3 := Hnl.out 0
                  omega
                rw [← hnn] at hck ⊢
                have Hnn := hid hnn
                have HCk := hid hck
                have HWk := hid hWk
                have HEk := hid hEk
                clear hck hWk hEk hnn
                by_cases hlk : k < nk
                · have hlkI : (k : Int) < nk := by omega
                  have Hk := hid hlk
                  obtain ⟨q, hqk⟩ : ∃ q, (nbrsL p ((X : Int), (Y : Int)))[k]? = some q := ⟨_, List.getElem?_eq_getElem (by rw [← Hnk.out]; exact hlk)⟩
                  have hfm := fold_more1 (acc := nearL p (t.take 0)) hqk
                  obtain ⟨bn, on, hBn, n0, n1⟩ := HC9.out.rd.getCl hqk
                  subst hBn
                  have y0 := n0.c0 HWk.out.right.left
                  have y1 := n1.c0 HWk.out.right.left
                  obtain ⟨qx, qy⟩ := q
                  simp only at y0 y1
                  have hhas := hid (show Calls Tryd.prog 51 #[.slice A6 nn c6, .agg #[.int .i64 qx, .int .i64 qy]] wr fun e w' => e = .returned (.bool (decide ((qx, qy) ∈ ((nbrsL p ((X : Int), (Y : Int))).take k).foldl insN (nearL p (t.take 0))))) ∧ Kp wr w' from by
                    have h := HCk.out.rd
                    rw [Hnn.out] at h ⊢
                    exact has_c h (by rw [← Hnn.out]; omega) HWk.out.left qx qy)
                  have Hfm := hid hfm
                  have HqkX := hid hqk
                  clear hlk hk hqk n0 n1 hfm
                  by_cases hmem : (qx, qy) ∈ ((nbrsL p ((X : Int), (Y : Int))).take k).foldl insN (nearL p (t.take 0))
                  · rw [decide_eq_true hmem] at hhas
                    have hins := hid (show ∀ a : List (Int × Int), (qx, qy) ∈ a → insN a (qx, qy) = a from fun a h => by unfold insN; rw [if_pos h])
                    have Hmem := hid hmem
                    clear hmem
                    go_wp2_with (go_at_call 51; refine hhas.out.mono ?_; rintro e5 w5 ⟨rfl, k5⟩; have HW5 := hid (k5.1 _ HWk.out); have HE5 := hid (HEk.out.trans k5.2); clear k5)
                    go_roundw
                    case rel => exact ⟨k + 1, mk, Hk.out, by go_num, by rw [Hfm.out, hins.out _ Hmem.out]; (have h := HCk.out; rw [Hnn.out] at h ⊢; exact h), HW5.out, HE5.out⟩
                    case measure => have := Hk.out; simp [intOf]; omega
                  · rw [decide_eq_false hmem] at hhas
                    have hins := hid (show ∀ a : List (Int × Int), ¬ (qx, qy) ∈ a → insN a (qx, qy) = a ++ [(qx, qy)] from fun a h => by unfold insN; rw [if_neg h])
                    have Hmem := hid hmem
                    clear hmem
                    go_wp2_with (first
                      | (at_builtin; refine wpList_push rfl (.tmp 101) (.tmp 106) row29 rfl (.slice A6 nn c6) rfl _ rfl (by simp) ClR ClR.one ClR.len _ (qx, qy) mk 0 _ HCk.out ⟨rfl, rfl⟩ ((HW5.out).eq (by rw [MS.zero_add])) nn Hnn.out.symm (by omega) (by omega) ?_; intro A8 c8 w8 m8 j4 j5 j6; have J4 := hid j4; have J5 := hid j5; have J6 := hid (HE5.out.trans j6); clear j4 j5 j6 z0 z1)
                      | (go_at_call 51; refine hhas.out.mono ?_; rintro e5 w5 ⟨rfl, k5⟩; have HW5 := hid (k5.1 _ HWk.out); have HE5 := hid (HEk.out.trans k5.2); clear y0 y1; obtain ⟨bn', on', hBn', n0, n1⟩ := HC9.out.rd.getCl (i := k) (q := (qx, qy)) HqkX.out; injection hBn' with hBn'; injection hBn' with g1 g2; subst g1; subst g2; have z0 := n0.c0 HW5.out.right.left; have z1 := n1.c0 HW5.out.right.left; simp only at z0 z1; clear k5 n0 n1))
                    go_roundw
                    case rel => exact ⟨k + 1, m8, Hk.out, by go_num, by rw [Hfm.out, hins.out _ Hmem.out]; exact J4.out, J5.out, J6.out⟩
                    case measure => have := Hk.out; simp [intOf]; omega
                · have hke : k = nk := by omega
                  subst hke
                  clear hlk hk
                  have htk : (nbrsL p ((X : Int), (Y : Int))).take k = nbrsL p ((X : Int), (Y : Int)) := List.take_of_length_le (by rw [Hnk.out]; exact Nat.le_refl _)
                  have Hck2 := hid (show Cls (nearL p (t.take (0 + 1))) (.slice A6 nn c6) mk from by
                    rw [hnm.out]
                    have h := HCk.out
                    rw [htk] at h
                    exact h)
                  clear htk
                  go_wp2
                  go_roundw
                  case rel => exact ⟨0 + 1, mk, Hlt.out, by go_num, Hck2.out, Hnext.out, hznext.out hz0, HWk.out.eq (b := (mk + MS.all w) + (m9 + blk b8 #[.int .i64 (X : Int), .int .i64 (Y : Int)] 66)) (by ac_rfl) |>.left, HEk.out⟩
                  case measure => have := Hlt.out; simp [intOf]; omega
            · obtain ⟨j, rfl⟩ : ∃ j, i = j + 1 := ⟨i - 1, by omega⟩
              obtain ⟨e, he⟩ : ∃ e, t[j]? = some e := ⟨_, List.getElem?_eq_getElem (by have h1 := Hlt.out; have h2 := HTN.out; omega)⟩
              obtain ⟨bt', ot', hB, e0, e1⟩ := Htd.out j e he
              injection hB with hB; injection hB with e2 e3
              subst e2; subst e3
              have hpv : prevC t (j + 1) = some e := by unfold prevC; rw [if_neg (by omega), Nat.add_sub_cancel]; exact he
              obtain ⟨ex, ey⟩ := e
              simp only at e0 e1
              have Hpv := hid (fun (W : World) (X : MS) (h : Has W (X + MS.all w)) => show W.cell? ⟨bt, ot + j * 2, none⟩ = some (.int .i64 ex) ∧ W.cell? ⟨bt, ot + j * 2 + 1, none⟩ = some (.int .i64 ey) from ⟨e0.c0 (HaF.out W X h), e1.c0 (HaF.out W X h)⟩)
              have hjI : (j : Int) < TN := by have := Hlt.out; omega
              have hj1 : (j : Int) ≤ 1000 := by omega
              have hjw : IntKind.i64.wrap (j : Int) = (j : Int) := by rw [IntKind.wrap_i64]; omega
              clear hi0
              by_cases h1 : (Y : Int) < ey
              · have hord : ordC (prevC t (j + 1)) ((X : Int), (Y : Int)) = false := by rw [hpv]; unfold ordC; simp only; exact decide_eq_false (fun hh => by have h9 := (rdC_ge (e := (ex, ey)) (c := ((X : Int), (Y : Int)))).2 (.inl h1); omega)
                have hno := hid (show R = false by
                  rw [HR.out, Hmore.out]
                  unfold okR
                  rw [hord]; simp)
                have HD10 := hid (show Has w41.drew.drew (blk b8 #[.int .i64 (X : Int), .int .i64 (Y : Int)] 66 + (m + MS.all w)) from HD8.out.drew)
                have ED10 := hid (ED8.out.trans (Ext.drew _))
                have hS : (fun W' : World => W'.cell? ⟨b8, 0, none⟩ = some (.int .i64 (X : Int)) ∧ W'.cell? ⟨b8, 1, none⟩ = some (.int .i64 (Y : Int)) ∧ W'.cell? ⟨bt, ot + j * 2, none⟩ = some (.int .i64 ex) ∧ W'.cell? ⟨bt, ot + j * 2 + 1, none⟩ = some (.int .i64 ey)) w41.drew.drew := ⟨(HD10.out.eq (b := (blk b8 #[.int .i64 (X : Int), .int .i64 (Y : Int)] 66 + (m + MS.all w))) (by ac_rfl)).at_ (i := 0) rfl, (HD10.out.eq (b := (blk b8 #[.int .i64 (X : Int), .int .i64 (Y : Int)] 66 + (m + MS.all w))) (by ac_rfl)).at_ (i := 1) rfl, (Hpv.out w41.drew.drew _ ((HD10.out.eq (b := (blk b8 #[.int .i64 (X : Int), .int .i64 (Y : Int)] 66 + m) + MS.all w) (by ac_rfl)))).1, (Hpv.out w41.drew.drew _ ((HD10.out.eq (b := (blk b8 #[.int .i64 (X : Int), .int .i64 (Y : Int)] 66 + m) + MS.all w) (by ac_rfl)))).2⟩
                refine wp_region_txt (fun W' => W'.cell? ⟨b8, 0, none⟩ = some (.int .i64 (X : Int)) ∧ W'.cell? ⟨b8, 1, none⟩ = some (.int .i64 (Y : Int)) ∧ W'.cell? ⟨bt, ot + j * 2, none⟩ = some (.int .i64 ex) ∧ W'.cell? ⟨bt, ot + j * 2 + 1, none⟩ = some (.int .i64 ey)) none
                  [(0, true), (1, true), (2, true), (3, true), (4, true), (5, true), (6, true), (7, true), (8, true), (9, true), (10, true), (11, true), (12, true), (13, true), (14, true), (15, true), (16, true), (17, true), (18, true), (19, true), (20, true), (21, true), (22, true), (23, true), (24, true), (25, true), (26, true), (27, true), (28, true), (29, true), (30, true), (31, true), (32, true), (33, true), (34, true)] (by kernel_rfl) rfl (by kernel_rfl) (by kernel_rfl) (by repeat (first | with_reducible refine PanicOk.thn ?_ | with_reducible refine PanicOk.blk ?_ | exact PanicOk.body _ _ _)) ?_
                repeat (first
                  | (refine txt_off hS rfl rfl ?_; simp only [Act.put, List.setIfInBounds_toArray, List.set_cons_zero, List.set_cons_succ])
                  | (refine txt_quiet ?_ hS rfl rfl (fun W hW => ?_) ?_
                     rotate_left 1
                     · obtain ⟨hW1, hW2, hW3, hW4⟩ := hW
                       go_simp
                       exact rfl
                     simp only [Act.put, List.setIfInBounds_toArray, List.set_cons_zero, List.set_cons_succ]))
                refine txt_done ?_
                try simp only [Act.put]
                clear hS hjw
                go_wp2
                go_ret2
                exact ⟨by first | rfl | (rw [hno.out]; rfl), fun M hM => hM.of_all ((HD10.out.eq (b := (blk b8 #[.int .i64 (X : Int), .int .i64 (Y : Int)] 66 + m) + MS.all w) (by ac_rfl))), ED10.out⟩
              · by_cases h2 : ey = (Y : Int)
                · by_cases h3 : (X : Int) ≤ ex
                  · have h1n : ¬ (ey > (Y : Int)) := h1
                    have hord : ordC (prevC t (j + 1)) ((X : Int), (Y : Int)) = false := by rw [hpv]; unfold ordC; simp only; exact decide_eq_false (fun hh => by have h9 := (rdC_ge (e := (ex, ey)) (c := ((X : Int), (Y : Int)))).2 (.inr ⟨h2, h3⟩); omega)
                    have hno := hid (show R = false by
                      rw [HR.out, Hmore.out]
                      unfold okR
                      rw [hord]; simp)
                    have HD10 := hid (show Has w41.drew.drew (blk b8 #[.int .i64 (X : Int), .int .i64 (Y : Int)] 66 + (m + MS.all w)) from HD8.out.drew)
                    have ED10 := hid (ED8.out.trans (Ext.drew _))
                    have hS : (fun W' : World => W'.cell? ⟨b8, 0, none⟩ = some (.int .i64 (X : Int)) ∧ W'.cell? ⟨b8, 1, none⟩ = some (.int .i64 (Y : Int)) ∧ W'.cell? ⟨bt, ot + j * 2, none⟩ = some (.int .i64 ex) ∧ W'.cell? ⟨bt, ot + j * 2 + 1, none⟩ = some (.int .i64 ey)) w41.drew.drew := ⟨(HD10.out.eq (b := (blk b8 #[.int .i64 (X : Int), .int .i64 (Y : Int)] 66 + (m + MS.all w))) (by ac_rfl)).at_ (i := 0) rfl, (HD10.out.eq (b := (blk b8 #[.int .i64 (X : Int), .int .i64 (Y : Int)] 66 + (m + MS.all w))) (by ac_rfl)).at_ (i := 1) rfl, (Hpv.out w41.drew.drew _ ((HD10.out.eq (b := (blk b8 #[.int .i64 (X : Int), .int .i64 (Y : Int)] 66 + m) + MS.all w) (by ac_rfl)))).1, (Hpv.out w41.drew.drew _ ((HD10.out.eq (b := (blk b8 #[.int .i64 (X : Int), .int .i64 (Y : Int)] 66 + m) + MS.all w) (by ac_rfl)))).2⟩
                    refine wp_region_txt (fun W' => W'.cell? ⟨b8, 0, none⟩ = some (.int .i64 (X : Int)) ∧ W'.cell? ⟨b8, 1, none⟩ = some (.int .i64 (Y : Int)) ∧ W'.cell? ⟨bt, ot + j * 2, none⟩ = some (.int .i64 ex) ∧ W'.cell? ⟨bt, ot + j * 2 + 1, none⟩ = some (.int .i64 ey)) none
                      [(0, true), (1, true), (2, true), (3, true), (4, true), (5, true), (6, true), (7, true), (8, true), (9, true), (10, true), (11, true), (12, true), (13, true), (14, true), (15, true), (16, true), (17, true), (18, true), (19, true), (20, true), (21, true), (22, true), (23, true), (24, true), (25, true), (26, true), (27, true), (28, true), (29, true), (30, true), (31, true), (32, true), (33, true), (34, true)] (by kernel_rfl) rfl (by kernel_rfl) (by kernel_rfl) (by repeat (first | with_reducible refine PanicOk.thn ?_ | with_reducible refine PanicOk.blk ?_ | exact PanicOk.body _ _ _)) ?_
                    repeat (first
                      | (refine txt_off hS rfl rfl ?_; simp only [Act.put, List.setIfInBounds_toArray, List.set_cons_zero, List.set_cons_succ])
                      | (refine txt_quiet ?_ hS rfl rfl (fun W hW => ?_) ?_
                         rotate_left 1
                         · obtain ⟨hW1, hW2, hW3, hW4⟩ := hW
                           go_simp
                           exact rfl
                         simp only [Act.put, List.setIfInBounds_toArray, List.set_cons_zero, List.set_cons_succ]))
                    refine txt_done ?_
                    try simp only [Act.put]
                    clear hS hjw
                    go_wp2
                    go_ret2
                    exact ⟨by first | rfl | (rw [hno.out]; rfl), fun M hM => hM.of_all ((HD10.out.eq (b := (blk b8 #[.int .i64 (X : Int), .int .i64 (Y : Int)] 66 + m) + MS.all w) (by ac_rfl))), ED10.out⟩
                  · have h1n : ¬ (ey > (Y : Int)) := h1
                    have hord : ordC (prevC t (j + 1)) ((X : Int), (Y : Int)) = true := by rw [hpv]; unfold ordC; simp only; exact decide_eq_true (by rcases Int.lt_or_le (rdC (ex, ey) ((X : Int), (Y : Int))) 0 with h9 | h9; exact h9; exfalso; rcases (rdC_ge (e := (ex, ey)) (c := ((X : Int), (Y : Int)))).1 h9 with h8 | h8 <;> simp only at h8 <;> omega)
                    have Hnext := hid (show okL p b0 (prevC t ((j + 1) + 1)) (t.drop ((j + 1) + 1)) = R0 by
                      rw [Hprev.out, Hmore.out]
                      unfold okR
                      simp only [hha, Bool.true_and]
                      rw [hbc, hord]; simp)
                    clear hord he e0 e1 hpv hbc hcol
                    have HD10 := hid (show Has w41.drew.drew (blk b8 #[.int .i64 (X : Int), .int .i64 (Y : Int)] 66 + (m + MS.all w)) from HD8.out.drew)
                    have ED10 := hid (ED8.out.trans (Ext.drew _))
                    have hS : (fun W' : World => W'.cell? ⟨b8, 0, none⟩ = some (.int .i64 (X : Int)) ∧ W'.cell? ⟨b8, 1, none⟩ = some (.int .i64 (Y : Int)) ∧ W'.cell? ⟨bt, ot + j * 2, none⟩ = some (.int .i64 ex) ∧ W'.cell? ⟨bt, ot + j * 2 + 1, none⟩ = some (.int .i64 ey)) w41.drew.drew := ⟨(HD10.out.eq (b := (blk b8 #[.int .i64 (X : Int), .int .i64 (Y : Int)] 66 + (m + MS.all w))) (by ac_rfl)).at_ (i := 0) rfl, (HD10.out.eq (b := (blk b8 #[.int .i64 (X : Int), .int .i64 (Y : Int)] 66 + (m + MS.all w))) (by ac_rfl)).at_ (i := 1) rfl, (Hpv.out w41.drew.drew _ ((HD10.out.eq (b := (blk b8 #[.int .i64 (X : Int), .int .i64 (Y : Int)] 66 + m) + MS.all w) (by ac_rfl)))).1, (Hpv.out w41.drew.drew _ ((HD10.out.eq (b := (blk b8 #[.int .i64 (X : Int), .int .i64 (Y : Int)] 66 + m) + MS.all w) (by ac_rfl)))).2⟩
                    refine wp_region_txt (fun W' => W'.cell? ⟨b8, 0, none⟩ = some (.int .i64 (X : Int)) ∧ W'.cell? ⟨b8, 1, none⟩ = some (.int .i64 (Y : Int)) ∧ W'.cell? ⟨bt, ot + j * 2, none⟩ = some (.int .i64 ex) ∧ W'.cell? ⟨bt, ot + j * 2 + 1, none⟩ = some (.int .i64 ey)) none
                      [(0, true), (1, true), (2, true), (3, true), (4, true), (5, true), (6, true), (7, true), (8, true), (9, true), (10, true), (11, true), (12, true), (13, true), (14, true), (15, true), (16, true), (17, true), (18, true), (19, true), (20, true), (21, true), (22, true), (23, true), (24, true), (25, true), (26, true), (27, true), (28, true), (29, true), (30, true), (31, true), (32, true), (33, true), (34, true)] (by kernel_rfl) rfl (by kernel_rfl) (by kernel_rfl) (by repeat (first | with_reducible refine PanicOk.thn ?_ | with_reducible refine PanicOk.blk ?_ | exact PanicOk.body _ _ _)) ?_
                    repeat (first
                      | (refine txt_off hS rfl rfl ?_; simp only [Act.put, List.setIfInBounds_toArray, List.set_cons_zero, List.set_cons_succ])
                      | (refine txt_quiet ?_ hS rfl rfl (fun W hW => ?_) ?_
                         rotate_left 1
                         · obtain ⟨hW1, hW2, hW3, hW4⟩ := hW
                           go_simp
                           exact rfl
                         simp only [Act.put, List.setIfInBounds_toArray, List.set_cons_zero, List.set_cons_succ]))
                    refine txt_done ?_
                    try simp only [Act.put]
                    clear hS hjw
                    have x0 := (HD10.out.eq (b := (blk b8 #[.int .i64 (X : Int), .int .i64 (Y : Int)] 66 + (m + MS.all w))) (by ac_rfl)).at_ (i := 0) rfl
                    have x1 := (HD10.out.eq (b := (blk b8 #[.int .i64 (X : Int), .int .i64 (Y : Int)] 66 + (m + MS.all w))) (by ac_rfl)).at_ (i := 1) rfl
                    go_wp2_with (go_at_call 50; refine (Harn.out X Y hXW hYH w41.drew.drew _ (HD10.out.eq (b := (blk b8 #[.int .i64 (X : Int), .int .i64 (Y : Int)] 66 + m) + MS.all w) (by ac_rfl))).mono ?_; rintro e61 w61 ⟨v9, m9, rfl, hC9, k61, l61⟩; have H61 := hid (k61 _ HD10.out); have E61 := hid (ED10.out.trans l61); clear k61 l61; obtain ⟨A9, c9, rfl, _⟩ := SlR.form hC9; have HC9 := hid hC9; clear x0 x1 hC9)
                    obtain ⟨nk, hnk⟩ : ∃ nk, nk = (nbrsL p ((X : Int), (Y : Int))).length := ⟨_, rfl⟩
                    have hnk4 : nk ≤ 4 := by rw [hnk]; exact nbrsK_len p _ 4
                    rw [← hnk] at HC9 ⊢
                    have Hnk := hid hnk
                    clear hnk
                    go_loopw [6, 10] (fun v6 v10 wq => ∃ (k : Nat) (mk : MS), k ≤ nk ∧ v10 = .int .i64 k ∧ Cls (((nbrsL p ((X : Int), (Y : Int))).take k).foldl insN (nearL p (t.take (j + 1)))) v6 mk ∧ Has wq (mk + (m9 + (blk b8 #[.int .i64 (X : Int), .int .i64 (Y : Int)] 66 + MS.all w))) ∧ Ext w wq) (fun _ v _ => nk - (intOf v).toNat)
                    case atStart => exact ⟨0, m, Nat.zero_le _, rfl, (by have h := HC6.out; rw [Hn.out] at h ⊢; exact h), H61.out.eq (b := m + (m9 + (blk b8 #[.int .i64 (X : Int), .int .i64 (Y : Int)] 66 + MS.all w))) (by ac_rfl), E61.out⟩
                    case round =>
                      obtain ⟨k, mk, hk, rfl, hck, hWk, hEk⟩ := hrel
                      obtain ⟨A6, c6, rfl, _⟩ := SlR.form hck
                      obtain ⟨nn, hnn⟩ : ∃ nn, nn = (((nbrsL p ((X : Int), (Y : Int))).take k).foldl insN (nearL p (t.take (j + 1)))).length := ⟨_, rfl⟩
                      have hnn8 : nn ≤ 804 := by
                        have h1 := foldN_len (nearL p (t.take (j + 1))) ((nbrsL p ((X : Int), (Y : Int))).take k)
                        have h2 := List.length_take_le k (nbrsL p ((X : Int), (Y : Int)))
                        have h3 := Hnl.out (j + 1)
                        omega
                      rw [← hnn] at hck ⊢
                      have Hnn := hid hnn
                      have HCk := hid hck
                      have HWk := hid hWk
                      have HEk := hid hEk
                      clear hck hWk hEk hnn
                      by_cases hlk : k < nk
                      · have hlkI : (k : Int) < nk := by omega
                        have Hk := hid hlk
                        obtain ⟨q, hqk⟩ : ∃ q, (nbrsL p ((X : Int), (Y : Int)))[k]? = some q := ⟨_, List.getElem?_eq_getElem (by rw [← Hnk.out]; exact hlk)⟩
                        have hfm := fold_more1 (acc := nearL p (t.take (j + 1))) hqk
                        obtain ⟨bn, on, hBn, n0, n1⟩ := HC9.out.rd.getCl hqk
                        subst hBn
                        have y0 := n0.c0 HWk.out.right.left
                        have y1 := n1.c0 HWk.out.right.left
                        obtain ⟨qx, qy⟩ := q
                        simp only at y0 y1
                        have hhas := hid (show Calls Tryd.prog 51 #[.slice A6 nn c6, .agg #[.int .i64 qx, .int .i64 qy]] wr fun e w' => e = .returned (.bool (decide ((qx, qy) ∈ ((nbrsL p ((X : Int), (Y : Int))).take k).foldl insN (nearL p (t.take (j + 1)))))) ∧ Kp wr w' from by
                          have h := HCk.out.rd
                          rw [Hnn.out] at h ⊢
                          exact has_c h (by rw [← Hnn.out]; omega) HWk.out.left qx qy)
                        have Hfm := hid hfm
                        have HqkX := hid hqk
                        clear hlk hk hqk n0 n1 hfm
                        by_cases hmem : (qx, qy) ∈ ((nbrsL p ((X : Int), (Y : Int))).take k).foldl insN (nearL p (t.take (j + 1)))
                        · rw [decide_eq_true hmem] at hhas
                          have hins := hid (show ∀ a : List (Int × Int), (qx, qy) ∈ a → insN a (qx, qy) = a from fun a h => by unfold insN; rw [if_pos h])
                          have Hmem := hid hmem
                          clear hmem
                          go_wp2_with (go_at_call 51; refine hhas.out.mono ?_; rintro e5 w5 ⟨rfl, k5⟩; have HW5 := hid (k5.1 _ HWk.out); have HE5 := hid (HEk.out.trans k5.2); clear k5)
                          go_roundw
                          case rel => exact ⟨k + 1, mk, Hk.out, by go_num, by rw [Hfm.out, hins.out _ Hmem.out]; (have h := HCk.out; rw [Hnn.out] at h ⊢; exact h), HW5.out, HE5.out⟩
                          case measure => have := Hk.out; simp [intOf]; omega
                        · rw [decide_eq_false hmem] at hhas
                          have hins := hid (show ∀ a : List (Int × Int), ¬ (qx, qy) ∈ a → insN a (qx, qy) = a ++ [(qx, qy)] from fun a h => by unfold insN; rw [if_neg h])
                          have Hmem := hid hmem
                          clear hmem
                          go_wp2_with (first
                            | (at_builtin; refine wpList_push rfl (.tmp 101) (.tmp 106) row29 rfl (.slice A6 nn c6) rfl _ rfl (by simp) ClR ClR.one ClR.len _ (qx, qy) mk 0 _ HCk.out ⟨rfl, rfl⟩ ((HW5.out).eq (by rw [MS.zero_add])) nn Hnn.out.symm (by omega) (by omega) ?_; intro A8 c8 w8 m8 j4 j5 j6; have J4 := hid j4; have J5 := hid j5; have J6 := hid (HE5.out.trans j6); clear j4 j5 j6 z0 z1)
                            | (go_at_call 51; refine hhas.out.mono ?_; rintro e5 w5 ⟨rfl, k5⟩; have HW5 := hid (k5.1 _ HWk.out); have HE5 := hid (HEk.out.trans k5.2); clear y0 y1; obtain ⟨bn', on', hBn', n0, n1⟩ := HC9.out.rd.getCl (i := k) (q := (qx, qy)) HqkX.out; injection hBn' with hBn'; injection hBn' with g1 g2; subst g1; subst g2; have z0 := n0.c0 HW5.out.right.left; have z1 := n1.c0 HW5.out.right.left; simp only at z0 z1; clear k5 n0 n1))
                          go_roundw
                          case rel => exact ⟨k + 1, m8, Hk.out, by go_num, by rw [Hfm.out, hins.out _ Hmem.out]; exact J4.out, J5.out, J6.out⟩
                          case measure => have := Hk.out; simp [intOf]; omega
                      · have hke : k = nk := by omega
                        subst hke
                        clear hlk hk
                        have htk : (nbrsL p ((X : Int), (Y : Int))).take k = nbrsL p ((X : Int), (Y : Int)) := List.take_of_length_le (by rw [Hnk.out]; exact Nat.le_refl _)
                        have Hck2 := hid (show Cls (nearL p (t.take ((j + 1) + 1))) (.slice A6 nn c6) mk from by
                          rw [hnm.out]
                          have h := HCk.out
                          rw [htk] at h
                          exact h)
                        clear htk
                        go_wp2
                        go_roundw
                        case rel => exact ⟨(j + 1) + 1, mk, Hlt.out, by go_num, Hck2.out, Hnext.out, hznext.out hz0, HWk.out.eq (b := (mk + MS.all w) + (m9 + blk b8 #[.int .i64 (X : Int), .int .i64 (Y : Int)] 66)) (by ac_rfl) |>.left, HEk.out⟩
                        case measure => have := Hlt.out; simp [intOf]; omega
                · have h2b : (ey == (Y : Int)) = false := by rw [beq_eq_false_iff_ne]; exact h2
                  have hord : ordC (prevC t (j + 1)) ((X : Int), (Y : Int)) = true := by rw [hpv]; unfold ordC; simp only; exact decide_eq_true (by rcases Int.lt_or_le (rdC (ex, ey) ((X : Int), (Y : Int))) 0 with h9 | h9; exact h9; exfalso; rcases (rdC_ge (e := (ex, ey)) (c := ((X : Int), (Y : Int)))).1 h9 with h8 | h8 <;> simp only at h8 <;> omega)
                  have Hnext := hid (show okL p b0 (prevC t ((j + 1) + 1)) (t.drop ((j + 1) + 1)) = R0 by
                    rw [Hprev.out, Hmore.out]
                    unfold okR
                    simp only [hha, Bool.true_and]
                    rw [hbc, hord]; simp)
                  clear hord he e0 e1 hpv hbc hcol
                  have HD10 := hid (show Has w41.drew.drew (blk b8 #[.int .i64 (X : Int), .int .i64 (Y : Int)] 66 + (m + MS.all w)) from HD8.out.drew)
                  have ED10 := hid (ED8.out.trans (Ext.drew _))
                  have hS : (fun W' : World => W'.cell? ⟨b8, 0, none⟩ = some (.int .i64 (X : Int)) ∧ W'.cell? ⟨b8, 1, none⟩ = some (.int .i64 (Y : Int)) ∧ W'.cell? ⟨bt, ot + j * 2, none⟩ = some (.int .i64 ex) ∧ W'.cell? ⟨bt, ot + j * 2 + 1, none⟩ = some (.int .i64 ey)) w41.drew.drew := ⟨(HD10.out.eq (b := (blk b8 #[.int .i64 (X : Int), .int .i64 (Y : Int)] 66 + (m + MS.all w))) (by ac_rfl)).at_ (i := 0) rfl, (HD10.out.eq (b := (blk b8 #[.int .i64 (X : Int), .int .i64 (Y : Int)] 66 + (m + MS.all w))) (by ac_rfl)).at_ (i := 1) rfl, (Hpv.out w41.drew.drew _ ((HD10.out.eq (b := (blk b8 #[.int .i64 (X : Int), .int .i64 (Y : Int)] 66 + m) + MS.all w) (by ac_rfl)))).1, (Hpv.out w41.drew.drew _ ((HD10.out.eq (b := (blk b8 #[.int .i64 (X : Int), .int .i64 (Y : Int)] 66 + m) + MS.all w) (by ac_rfl)))).2⟩
                  refine wp_region_txt (fun W' => W'.cell? ⟨b8, 0, none⟩ = some (.int .i64 (X : Int)) ∧ W'.cell? ⟨b8, 1, none⟩ = some (.int .i64 (Y : Int)) ∧ W'.cell? ⟨bt, ot + j * 2, none⟩ = some (.int .i64 ex) ∧ W'.cell? ⟨bt, ot + j * 2 + 1, none⟩ = some (.int .i64 ey)) none
                    [(0, true), (1, true), (2, true), (3, true), (4, true), (5, true), (6, true), (7, true), (8, true), (9, true), (10, true), (11, true), (12, true), (13, true), (14, true), (15, true), (16, true), (17, true), (18, true), (19, true), (20, true), (21, true), (22, true), (23, true), (24, true), (25, true), (26, true), (27, true), (28, true), (29, true), (30, true), (31, true), (32, true), (33, true), (34, true)] (by kernel_rfl) rfl (by kernel_rfl) (by kernel_rfl) (by repeat (first | with_reducible refine PanicOk.thn ?_ | with_reducible refine PanicOk.blk ?_ | exact PanicOk.body _ _ _)) ?_
                  repeat (first
                    | (refine txt_off hS rfl rfl ?_; simp only [Act.put, List.setIfInBounds_toArray, List.set_cons_zero, List.set_cons_succ])
                    | (refine txt_quiet ?_ hS rfl rfl (fun W hW => ?_) ?_
                       rotate_left 1
                       · obtain ⟨hW1, hW2, hW3, hW4⟩ := hW
                         go_simp
                         exact rfl
                       simp only [Act.put, List.setIfInBounds_toArray, List.set_cons_zero, List.set_cons_succ]))
                  refine txt_done ?_
                  try simp only [Act.put]
                  clear hS hjw
                  have x0 := (HD10.out.eq (b := (blk b8 #[.int .i64 (X : Int), .int .i64 (Y : Int)] 66 + (m + MS.all w))) (by ac_rfl)).at_ (i := 0) rfl
                  have x1 := (HD10.out.eq (b := (blk b8 #[.int .i64 (X : Int), .int .i64 (Y : Int)] 66 + (m + MS.all w))) (by ac_rfl)).at_ (i := 1) rfl
                  go_wp2_with (go_at_call 50; refine (Harn.out X Y hXW hYH w41.drew.drew _ (HD10.out.eq (b := (blk b8 #[.int .i64 (X : Int), .int .i64 (Y : Int)] 66 + m) + MS.all w) (by ac_rfl))).mono ?_; rintro e61 w61 ⟨v9, m9, rfl, hC9, k61, l61⟩; have H61 := hid (k61 _ HD10.out); have E61 := hid (ED10.out.trans l61); clear k61 l61; obtain ⟨A9, c9, rfl, _⟩ := SlR.form hC9; have HC9 := hid hC9; clear x0 x1 hC9)
                  obtain ⟨nk, hnk⟩ : ∃ nk, nk = (nbrsL p ((X : Int), (Y : Int))).length := ⟨_, rfl⟩
                  have hnk4 : nk ≤ 4 := by rw [hnk]; exact nbrsK_len p _ 4
                  rw [← hnk] at HC9 ⊢
                  have Hnk := hid hnk
                  clear hnk
                  go_loopw [6, 10] (fun v6 v10 wq => ∃ (k : Nat) (mk : MS), k ≤ nk ∧ v10 = .int .i64 k ∧ Cls (((nbrsL p ((X : Int), (Y : Int))).take k).foldl insN (nearL p (t.take (j + 1)))) v6 mk ∧ Has wq (mk + (m9 + (blk b8 #[.int .i64 (X : Int), .int .i64 (Y : Int)] 66 + MS.all w))) ∧ Ext w wq) (fun _ v _ => nk - (intOf v).toNat)
                  case atStart => exact ⟨0, m, Nat.zero_le _, rfl, (by have h := HC6.out; rw [Hn.out] at h ⊢; exact h), H61.out.eq (b := m + (m9 + (blk b8 #[.int .i64 (X : Int), .int .i64 (Y : Int)] 66 + MS.all w))) (by ac_rfl), E61.out⟩
                  case round =>
                    obtain ⟨k, mk, hk, rfl, hck, hWk, hEk⟩ := hrel
                    obtain ⟨A6, c6, rfl, _⟩ := SlR.form hck
                    obtain ⟨nn, hnn⟩ : ∃ nn, nn = (((nbrsL p ((X : Int), (Y : Int))).take k).foldl insN (nearL p (t.take (j + 1)))).length := ⟨_, rfl⟩
                    have hnn8 : nn ≤ 804 := by
                      have h1 := foldN_len (nearL p (t.take (j + 1))) ((nbrsL p ((X : Int), (Y : Int))).take k)
                      have h2 := List.length_take_le k (nbrsL p ((X : Int), (Y : Int)))
                      have h3 := Hnl.out (j + 1)
                      omega
                    rw [← hnn] at hck ⊢
                    have Hnn := hid hnn
                    have HCk := hid hck
                    have HWk := hid hWk
                    have HEk := hid hEk
                    clear hck hWk hEk hnn
                    by_cases hlk : k < nk
                    · have hlkI : (k : Int) < nk := by omega
                      have Hk := hid hlk
                      obtain ⟨q, hqk⟩ : ∃ q, (nbrsL p ((X : Int), (Y : Int)))[k]? = some q := ⟨_, List.getElem?_eq_getElem (by rw [← Hnk.out]; exact hlk)⟩
                      have hfm := fold_more1 (acc := nearL p (t.take (j + 1))) hqk
                      obtain ⟨bn, on, hBn, n0, n1⟩ := HC9.out.rd.getCl hqk
                      subst hBn
                      have y0 := n0.c0 HWk.out.right.left
                      have y1 := n1.c0 HWk.out.right.left
                      obtain ⟨qx, qy⟩ := q
                      simp only at y0 y1
                      have hhas := hid (show Calls Tryd.prog 51 #[.slice A6 nn c6, .agg #[.int .i64 qx, .int .i64 qy]] wr fun e w' => e = .returned (.bool (decide ((qx, qy) ∈ ((nbrsL p ((X : Int), (Y : Int))).take k).foldl insN (nearL p (t.take (j + 1)))))) ∧ Kp wr w' from by
                        have h := HCk.out.rd
                        rw [Hnn.out] at h ⊢
                        exact has_c h (by rw [← Hnn.out]; omega) HWk.out.left qx qy)
                      have Hfm := hid hfm
                      have HqkX := hid hqk
                      clear hlk hk hqk n0 n1 hfm
                      by_cases hmem : (qx, qy) ∈ ((nbrsL p ((X : Int), (Y : Int))).take k).foldl insN (nearL p (t.take (j + 1)))
                      · rw [decide_eq_true hmem] at hhas
                        have hins := hid (show ∀ a : List (Int × Int), (qx, qy) ∈ a → insN a (qx, qy) = a from fun a h => by unfold insN; rw [if_pos h])
                        have Hmem := hid hmem
                        clear hmem
                        go_wp2_with (go_at_call 51; refine hhas.out.mono ?_; rintro e5 w5 ⟨rfl, k5⟩; have HW5 := hid (k5.1 _ HWk.out); have HE5 := hid (HEk.out.trans k5.2); clear k5)
                        go_roundw
                        case rel => exact ⟨k + 1, mk, Hk.out, by go_num, by rw [Hfm.out, hins.out _ Hmem.out]; (have h := HCk.out; rw [Hnn.out] at h ⊢; exact h), HW5.out, HE5.out⟩
                        case measure => have := Hk.out; simp [intOf]; omega
                      · rw [decide_eq_false hmem] at hhas
                        have hins := hid (show ∀ a : List (Int × Int), ¬ (qx, qy) ∈ a → insN a (qx, qy) = a ++ [(qx, qy)] from fun a h => by unfold insN; rw [if_neg h])
                        have Hmem := hid hmem
                        clear hmem
                        go_wp2_with (first
                          | (at_builtin; refine wpList_push rfl (.tmp 101) (.tmp 106) row29 rfl (.slice A6 nn c6) rfl _ rfl (by simp) ClR ClR.one ClR.len _ (qx, qy) mk 0 _ HCk.out ⟨rfl, rfl⟩ ((HW5.out).eq (by rw [MS.zero_add])) nn Hnn.out.symm (by omega) (by omega) ?_; intro A8 c8 w8 m8 j4 j5 j6; have J4 := hid j4; have J5 := hid j5; have J6 := hid (HE5.out.trans j6); clear j4 j5 j6 z0 z1)
                          | (go_at_call 51; refine hhas.out.mono ?_; rintro e5 w5 ⟨rfl, k5⟩; have HW5 := hid (k5.1 _ HWk.out); have HE5 := hid (HEk.out.trans k5.2); clear y0 y1; obtain ⟨bn', on', hBn', n0, n1⟩ := HC9.out.rd.getCl (i := k) (q := (qx, qy)) HqkX.out; injection hBn' with hBn'; injection hBn' with g1 g2; subst g1; subst g2; have z0 := n0.c0 HW5.out.right.left; have z1 := n1.c0 HW5.out.right.left; simp only at z0 z1; clear k5 n0 n1))
                        go_roundw
                        case rel => exact ⟨k + 1, m8, Hk.out, by go_num, by rw [Hfm.out, hins.out _ Hmem.out]; exact J4.out, J5.out, J6.out⟩
                        case measure => have := Hk.out; simp [intOf]; omega
                    · have hke : k = nk := by omega
                      subst hke
                      clear hlk hk
                      have htk : (nbrsL p ((X : Int), (Y : Int))).take k = nbrsL p ((X : Int), (Y : Int)) := List.take_of_length_le (by rw [Hnk.out]; exact Nat.le_refl _)
                      have Hck2 := hid (show Cls (nearL p (t.take ((j + 1) + 1))) (.slice A6 nn c6) mk from by
                        rw [hnm.out]
                        have h := HCk.out
                        rw [htk] at h
                        exact h)
                      clear htk
                      go_wp2
                      go_roundw
                      case rel => exact ⟨(j + 1) + 1, mk, Hlt.out, by go_num, Hck2.out, Hnext.out, hznext.out hz0, HWk.out.eq (b := (mk + MS.all w) + (m9 + blk b8 #[.int .i64 (X : Int), .int .i64 (Y : Int)] 66)) (by ac_rfl) |>.left, HEk.out⟩
                      case measure => have := Hlt.out; simp [intOf]; omega
          · have hbc : (blackB ((X : Int), (Y : Int)) == b0) = false := by rw [hbcr]; exact decide_eq_false hcol
            clear hbcr
            have hcc : (rc != r0) = true := by rw [bne_iff_ne]; exact hcol
            have hno := hid (show R = false by
              rw [HR.out, Hmore.out]
              unfold okR
              rw [hbc]; simp)
            have HD8 := hid (show Has w41.drew (blk b8 #[.int .i64 (X : Int), .int .i64 (Y : Int)] 66 + (m + MS.all w)) from H41.out.drew)
            have ED8 := hid (E41.out.trans (Ext.drew _))
            have hS : (fun W' : World => W'.cell? ⟨b8, 0, none⟩ = some (.int .i64 (X : Int)) ∧ W'.cell? ⟨b8, 1, none⟩ = some (.int .i64 (Y : Int)) ∧ W'.cell? ⟨bt, ot, none⟩ = some (.int .i64 (X0 : Int)) ∧ W'.cell? ⟨bt, ot + 1, none⟩ = some (.int .i64 (Y0 : Int))) w41.drew := ⟨(HD8.out.eq (b := (blk b8 #[.int .i64 (X : Int), .int .i64 (Y : Int)] 66 + (m + MS.all w))) (by ac_rfl)).at_ (i := 0) rfl, (HD8.out.eq (b := (blk b8 #[.int .i64 (X : Int), .int .i64 (Y : Int)] 66 + (m + MS.all w))) (by ac_rfl)).at_ (i := 1) rfl, (HaT.out w41.drew _ ((HD8.out.eq (b := (blk b8 #[.int .i64 (X : Int), .int .i64 (Y : Int)] 66 + m) + MS.all w) (by ac_rfl)))).2.1, (HaT.out w41.drew _ ((HD8.out.eq (b := (blk b8 #[.int .i64 (X : Int), .int .i64 (Y : Int)] 66 + m) + MS.all w) (by ac_rfl)))).2.2⟩
            have hq := Hin.out (X : Int) (Y : Int) w41.drew _ ((HD8.out.eq (b := (blk b8 #[.int .i64 (X : Int), .int .i64 (Y : Int)] 66 + m) + MS.all w) (by ac_rfl)))
            rw [hha] at hq
            have hw1 : IntKind.i64.wrap ((X : Int) + (Y : Int)) = sc := by rw [IntKind.wrap_i64, hsc]; omega
            have hw2 : IntKind.i64.wrap ((X0 : Int) + (Y0 : Int)) = sz := by rw [IntKind.wrap_i64, hsz]; omega
            clear hsc hsz
            refine wp_region_txt (fun W' => W'.cell? ⟨b8, 0, none⟩ = some (.int .i64 (X : Int)) ∧ W'.cell? ⟨b8, 1, none⟩ = some (.int .i64 (Y : Int)) ∧ W'.cell? ⟨bt, ot, none⟩ = some (.int .i64 (X0 : Int)) ∧ W'.cell? ⟨bt, ot + 1, none⟩ = some (.int .i64 (Y0 : Int))) none
              [(0, true), (1, true), (2, true), (3, true), (4, true), (5, false), (6, true), (7, true), (8, true), (9, true), (10, true), (11, true), (12, true), (13, true), (14, true), (15, true), (16, true), (17, true), (18, true), (19, true), (20, true), (21, true), (22, true), (23, true), (24, true), (25, true)] (by kernel_rfl) rfl (by kernel_rfl) (by kernel_rfl) (by repeat (first | with_reducible refine PanicOk.thn ?_ | with_reducible refine PanicOk.blk ?_ | exact PanicOk.body _ _ _)) ?_
            repeat (first
              | (refine txt_off hS rfl rfl ?_; simp only [Act.put, List.setIfInBounds_toArray, List.set_cons_zero, List.set_cons_succ])
              | (refine txt_quiet ?_ hS rfl rfl (fun W hW => ?_) ?_
                 rotate_left 1
                 · obtain ⟨hW1, hW2, hW3, hW4⟩ := hW
                   go_simp
                   exact rfl
                 simp only [Act.put, List.setIfInBounds_toArray, List.set_cons_zero, List.set_cons_succ]))
            refine txt_op rfl rfl ?_
            refine op_call 49 _ _ (by go_simp) _ hq ?_
            rintro e7 w7 ⟨rfl, rfl⟩
            refine ⟨_, rfl, fun _ => hS, ?_⟩
            simp only [Act.put, List.setIfInBounds_toArray, List.set_cons_zero, List.set_cons_succ]
            repeat (first
              | (refine txt_off hS rfl rfl ?_; simp only [Act.put, List.setIfInBounds_toArray, List.set_cons_zero, List.set_cons_succ])
              | (refine txt_quiet ?_ hS rfl rfl (fun W hW => ?_) ?_
                 rotate_left 1
                 · obtain ⟨hW1, hW2, hW3, hW4⟩ := hW
                   go_simp
                   exact rfl
                 simp only [Act.put, List.setIfInBounds_toArray, List.set_cons_zero, List.set_cons_succ]))
            refine txt_done ?_
            try simp only [Act.put]
            clear hS hq
            go_wp2
            go_ret2
            exact ⟨by first | rfl | (rw [hno.out]; rfl), fun M hM => hM.of_all ((HD8.out.eq (b := (blk b8 #[.int .i64 (X : Int), .int .i64 (Y : Int)] 66 + m) + MS.all w) (by ac_rfl))), ED8.out⟩
      · have hie : i = TN := by omega
        subst hie
        have hfin := hid (show decide (n < i) = R by
          rw [HR.out, ← HRi.out, List.drop_eq_nil_iff.2 (by rw [HTN.out]; exact Nat.le_refl _)]
          have h1 : t.take i = t := List.take_of_length_le (by rw [HTN.out]; exact Nat.le_refl _)
          have h2 := Hn.out
          rw [h1] at h2
          rw [h2]
          simp [okL])
        have hfinI := hid (show decide ((n : Int) < (i : Int)) = R by
          rw [← hfin.out]
          by_cases h : n < i
          · rw [decide_eq_true h, decide_eq_true (by omega)]
          · rw [decide_eq_false h, decide_eq_false (by omega)])
        clear hlt hi
        by_cases hni : n < i
        · have hniI : (n : Int) < (i : Int) := by omega
          have hRt := hid (show R = true by rw [← hfin.out]; exact decide_eq_true hni)
          go_wp2
          go_ret2
          exact ⟨by first | (rw [← hfinI.out]; rfl) | (rw [hRt.out]; rfl), fun M hM => hM.of_all HW.out, HE.out⟩
        · have hniI : ¬ (n : Int) < (i : Int) := by omega
          have hRt := hid (show R = false by rw [← hfin.out]; exact decide_eq_false hni)
          go_wp2
          go_ret2
          exact ⟨by first | (rw [← hfinI.out]; rfl) | (rw [hRt.out]; rfl), fun M hM => hM.of_all HW.out, HE.out⟩
end Go.Proofs.YtcdhimnmbpllgaaDoor

namespace Go.Proofs.YtcdhimnmbpllgaaDoor
open Go.RowKit Go.MapKept Go.ChangeMaps
set_option linter.unusedVariables false
set_option linter.unusedSimpArgs false
set_option maxHeartbeats 4000000
set_option maxRecDepth 100000

def mapL (l : List (Int × Int)) : Ents := l.map fun q => (q, Value.bool true)
theorem mapL_ins : ∀ (l : List (Int × Int)) (q : Int × Int), ptM (mapL l) q (.bool true) = mapL (insN l q)
  | [], q => by simp [mapL, insN, ptM]
  | a :: l, q => by
    have ih := mapL_ins l q
    show ptM ((a, Value.bool true) :: mapL l) q (.bool true) = _
    unfold ptM
    by_cases h : a = q
    · rw [if_pos h]
      subst h
      unfold insN
      rw [if_pos (List.mem_cons_self ..)]
      rfl
    · rw [if_neg h, ih]
      unfold insN
      by_cases h2 : q ∈ l
      · rw [if_pos h2, if_pos (List.mem_cons_of_mem _ h2)]; rfl
      · rw [if_neg h2, if_neg (fun h3 => by rcases List.mem_cons.1 h3 with h4 | h4; exact h h4.symm; exact h2 h4)]; rfl
theorem mapL_len (l : List (Int × Int)) : (mapL l).length = l.length := by unfold mapL; simp
theorem rf_no {F : MS} {p : List ByteArray} {A : Option Addr} {c : Nat} {B : Option Addr} {n ct : Nat} {w : World} (hr : RdS F RT.str p (.slice A p.length c)) (hl : p.length ≤ 1000) (hs : ∀ s ∈ p, s.size ≤ 1000000) (hH : Has w F) (hq : isReg p = false) :
    Calls Tryd.prog 17 #[.slice A p.length c, .slice B n ct] w fun e w' => e = .returned (.tuple #[.bool false, .int .i64 2]) ∧ Kp w w' := by
  have Hof := hid (of_any hr hl hs hH)
  clear hl hs hr hH
  have hv : regV p A c = noReg := by unfold regV; rw [hq]; rfl
  rw [hq, hv] at Hof
  clear hq hv
  go_enter Tryd.func17, Tryd.ntmps17
  go_wp2_with (first
    | (go_at_call 32; refine Hof.out.mono ?_; rintro e1 w1 ⟨rfl, k1⟩; have K1 := hid (k1.1 _ (Has.all w)); have E1 := hid k1.2; have KA := hid ((K1.out).alloc (.cells #[.int .i64 0, .int .i64 0, .slice none 0 0] 51)); have EA := hid (E1.out.trans (Ext.alloc _ (.cells #[.int .i64 0, .int .i64 0, .slice none 0 0] 51))); clear k1)
    | (refine wpList_store_whole rfl (.tmp 6) (.tmp 16) 51 rfl 3 size51 w1.heap.size noReg rfl rfl rfl (by simp [noReg, Value.cells, Value.oneCell']) #[.int .i64 0, .int .i64 0, .slice none 0 0] 51 _ KA.out rfl ?_; intro w6 j1 j2; have HW6 := hid (show Has w6 (blk w1.heap.size #[.int .i64 0, .int .i64 0, .slice none 0 0] 51 + MS.all w) from j1); have HE6 := hid (EA.out.trans j2); clear j1 j2))
  go_ret2
  exact ⟨rfl, fun M hM => hM.of_all HW6.out, HE6.out⟩
theorem rf_yes {F : MS} {p : List ByteArray} {A : Option Addr} {c : Nat} {t : List (Int × Int)} {B : Option Addr} {ct : Nat} {w : World} (hr : RdS F RT.str p (.slice A p.length c)) (hl : p.length ≤ 1000) (hs : ∀ s ∈ p, s.size ≤ 1000000) (ht : RdS F RT.cl t (.slice B t.length ct)) (htl : t.length ≤ 200) (hf : FourOk F) (hH : Has w F) (hq : isReg p = true) :
    Calls Tryd.prog 17 #[.slice A p.length c, .slice B t.length ct] w fun e w' => e = .returned (.tuple #[.bool (refB p t), .int .i64 0]) ∧ Kp w w' := by
  have Hof := hid (of_any hr hl hs hH)
  have hv : regV p A c = rgV p A c := by unfold regV; rw [hq]; rfl
  rw [hq, hv] at Hof
  have hp := (isReg.ok hq).1
  have hra := rd_all_str hr hH
  have hfa := hf.all hH
  have hw8 := hp.w8
  have hh8 := hp.h8
  have Hhas := hid (fun (W : World) (h : Has W (MS.all w)) (x y : Int) => show Calls Tryd.prog 47 #[.agg #[.int .i64 (wd p), .int .i64 p.length, .slice A p.length c], .int .i64 x, .int .i64 y] W fun e w' => e = .returned (.bool (hsI p x y)) ∧ Kp W w' from has_any hra hp h x y)
  have Hnb := hid (fun (X Y : Nat) (hX : X < wd p) (hY : Y < p.length) (W : World) (h : Has W (MS.all w)) => show Calls Tryd.prog 39 #[.agg #[.int .i64 (wd p), .int .i64 p.length, .slice A p.length c], .agg #[.int .i64 (X : Int), .int .i64 (Y : Int)]] W fun e w' => ∃ v m, e = .returned v ∧ Cls (nbrsL p ((X : Int), (Y : Int))) v m ∧ (∀ M, Has W M → Has w' (m + M)) ∧ Ext W w' from nbrs_any hra hp hfa h ((X : Int), (Y : Int)) (by simp only; omega) (by simp only; omega))
  have Hnbin := hid (fun (X Y : Nat) (q : Int × Int) (h : q ∈ nbrsL p ((X : Int), (Y : Int))) => show small q from by
    unfold nbrsL nbrsK at h
    obtain ⟨i, hi, rfl⟩ := List.mem_map.1 h
    have h2 := (List.mem_filter.1 hi).2
    obtain ⟨x, y, h3, h4, h5, h6⟩ := hsI_nat h2
    unfold small
    simp only
    rw [h3, h4]
    omega)
  have Hblk := hid (fun (X Y : Nat) (hX : X < wd p) (hY : Y < p.length) (W : World) => show Calls Tryd.prog 38 #[.agg #[.int .i64 (X : Int), .int .i64 (Y : Int)]] W fun e w' => e = .returned (.bool (blackB ((X : Int), (Y : Int)))) ∧ Kp W w' from black_any ((X : Int), (Y : Int)) (by simp only; omega) (by simp only; omega) W)
  have Hrd := hid (fun (a b x y : Int) (W : World) => show Calls Tryd.prog 48 #[.agg #[.int .i64 a, .int .i64 b], .agg #[.int .i64 x, .int .i64 y]] W fun e w' => e = .returned (.int .i64 (rdC (a, b) (x, y))) ∧ Kp W w' from reading_kp (a, b) (x, y) W)
  have HasI := hid (fun (x y : Int) (h : hsI p x y = true) => hsI_nat h)
  have htc := ht.cells.2.1
  have Htd := hid (fun (i : Nat) (d : Int × Int) (h : t[i]? = some d) => ht.getCl h)
  have Hnl := hid (fun i => show (nearL p (t.take i)).length ≤ 800 from by
    have h1 := nearL_len p (t.take i)
    have h2 : (t.take i).length ≤ t.length := List.length_take_le' i t
    omega)
  unfold rgV at Hof
  obtain ⟨WN, hWN⟩ : ∃ WN, WN = wd p := ⟨_, rfl⟩
  obtain ⟨HN, hHN⟩ : ∃ HN, HN = p.length := ⟨_, rfl⟩
  rw [← hWN] at Hof Hhas Hnb Hblk hw8 HasI
  rw [← hHN] at Hof Hhas Hnb Hblk hh8 HasI ⊢
  obtain ⟨TN, hTN⟩ : ∃ TN, TN = t.length := ⟨_, rfl⟩
  rw [← hTN] at htl htc ⊢
  have HTN := hid hTN
  obtain ⟨R, hR⟩ : ∃ R, R = refB p t := ⟨_, rfl⟩
  rw [← hR]
  have HR := hid (show R = (okL p (b0L t) none t && decide ((nearL p t).length < TN)) by rw [hR, hTN]; rfl)
  obtain ⟨R0, hR0⟩ : ∃ R0, R0 = okL p (b0L t) none t := ⟨_, rfl⟩
  rw [← hR0] at HR
  have HR0 := hid hR0
  obtain ⟨b0, hb0⟩ : ∃ b0, b0 = b0L t := ⟨_, rfl⟩
  have Hb0 := hid hb0
  rw [← hb0] at HR0
  have HaF := hid (fun (W : World) (X : MS) (h : Has W (X + MS.all w)) => hH.of_all h)
  have H0 := hid (Has.all w)
  have E0 := hid (Ext.refl w)
  have hTI : (TN : Int) ≤ 200 := by omega
  clear hr hl hs hH ht hp hWN hHN hTN hR hq hv hra hfa hf hR0 hb0
  go_enter Tryd.func17, Tryd.ntmps17
  go_wp2_with (first
    | (refine wpList_run rfl _ _ (ex_makeMap rfl) ?_; obtain ⟨g, hg⟩ : ∃ g, g = w2.heap.size := ⟨_, rfl⟩; have HM := hid (show Has (w2.alloc (.map #[] 0)) (pts g (.map #[] 0) + (blk b6 #[.int .i64 (WN : Int), .int .i64 (HN : Int), .slice A HN c] 51 + MS.all w)) by rw [hg]; exact H2.out.alloc _); have EM := hid (E2.out.trans (Ext.alloc _ (.map #[] 0))); rw [← hg]; generalize w2.alloc (.map #[] 0) = wm at *; clear hg)
    | (rw [← Hb6.out]; refine wpList_store_whole rfl (.tmp 6) (.tmp 16) 51 rfl 3 size51 b6 (.agg #[.int .i64 (WN : Int), .int .i64 (HN : Int), .slice A HN c]) rfl rfl rfl (by simp [Value.cells, Value.oneCell']) #[.int .i64 0, .int .i64 0, .slice none 0 0] 51 _ HAb6.out rfl ?_; intro w2 j1 j2; have H2 := hid (show Has w2 (blk b6 #[.int .i64 (WN : Int), .int .i64 (HN : Int), .slice A HN c] 51 + MS.all w) from j1.eq (by unfold blk; ac_rfl)); have E2 := hid ((E1.out.trans (Ext.alloc _ _)).trans j2); clear j1 j2)
    | (go_at_call 32; refine (Hof.out).mono ?_; rintro e1 w1 ⟨rfl, k1⟩; have H1 := hid (k1.1 _ H0.out); have E1 := hid (E0.out.trans k1.2); clear k1; obtain ⟨b6, hb6⟩ : ∃ b6, b6 = w1.heap.size := ⟨_, rfl⟩; have HAb6 := hid (show Has (w1.alloc (.cells #[.int .i64 0, .int .i64 0, .slice none 0 0] 51)) (blk b6 #[.int .i64 0, .int .i64 0, .slice none 0 0] 51 + MS.all w) by rw [hb6]; exact H1.out.alloc _); have Hb6 := hid hb6; clear hb6))
  clear H0 E0 H1 E1 HAb6
  go_loopw [23] (fun v23 wr => ∃ (i : Nat) (es : Array MapEntry) (clock : Nat), i ≤ TN ∧ v23 = .int .i64 i ∧ EntsAre (mapL (nearL p (t.take i))) es clock ∧ okL p b0 (prevC t i) (t.drop i) = R0 ∧ (0 < i → ∃ z, t[0]? = some z ∧ hsI p z.1 z.2 = true) ∧ Has wr (pts g (.map es clock) + (blk b6 #[.int .i64 (WN : Int), .int .i64 (HN : Int), .slice A HN c] 51 + MS.all w)) ∧ Ext w wr) (fun v _ => TN - (intOf v).toNat)
  case atStart => exact ⟨0, #[], 0, Nat.zero_le _, rfl, EntsAre.none, HR0.out.symm, fun h => by omega, HM.out, EM.out⟩
  case round =>
    clear HM EM H2 E2
    obtain ⟨i, es, clock, hi, rfl, hS, hR, hz, hW, hE⟩ := hrel
    have HW := hid hW
    have HE := hid hE
    have HRi := hid hR
    have HS := hid hS
    have Hz := hid hz
    clear hW hE hR hS hz
    by_cases hlt : i < TN
    · have hltI : (i : Int) < TN := by omega
      have Hlt := hid hlt
      have hT0 : (0 : Int) < TN := by omega
      have hT0N : 0 < TN := by omega
      obtain ⟨d, hd⟩ : ∃ d, t[i]? = some d := ⟨_, List.getElem?_eq_getElem (by rw [← HTN.out]; exact hlt)⟩
      obtain ⟨z, hzd⟩ : ∃ z, t[0]? = some z := ⟨_, List.getElem?_eq_getElem (by rw [← HTN.out]; exact hT0N)⟩
      obtain ⟨bt, ot, hB, t0, t1⟩ := Htd.out i d hd
      obtain ⟨bt', ot', hB', s0, s1⟩ := Htd.out 0 z hzd
      subst hB
      injection hB' with hB'; injection hB' with e1 e2
      subst e1; subst e2
      have hmore := okL_more (p := p) (b0 := b0) (prev := prevC t i) hd
      rw [HRi.out] at hmore
      have hprev : prevC t (i + 1) = some d := by unfold prevC; rw [if_neg (by omega), Nat.add_sub_cancel]; exact hd
      have hb0z : b0 = blackB z := by rw [Hb0.out]; unfold b0L; rw [getD_some hzd]
      have hzin : hsI p d.1 d.2 = true → hsI p z.1 z.2 = true := fun h => by
        by_cases h0 : i = 0
        · subst h0; rw [hd] at hzd; injection hzd with hzd; rw [← hzd]; exact h
        · obtain ⟨z', h1, h2⟩ := Hz.out (by omega)
          rw [hzd] at h1; injection h1 with h1; rw [h1]; exact h2
      have hznext := hid (fun (h : hsI p z.1 z.2 = true) => show 0 < i + 1 → ∃ z, t[0]? = some z ∧ hsI p z.1 z.2 = true from fun _ => ⟨z, hzd, h⟩)
      have hnm := hid (nearL_more (p := p) hd)
      have Hd := hid hd
      obtain ⟨dx, dy⟩ := d
      obtain ⟨zx, zy⟩ := z
      simp only at t0 t1 s0 s1
      rw [show ot + 0 * 2 = ot by omega] at s0 s1
      have HaT := hid (fun (W : World) (X : MS) (h : Has W (X + MS.all w)) => show (W.cell? ⟨bt, ot + i * 2, none⟩ = some (.int .i64 dx) ∧ W.cell? ⟨bt, ot + i * 2 + 1, none⟩ = some (.int .i64 dy)) ∧ W.cell? ⟨bt, ot, none⟩ = some (.int .i64 zx) ∧ W.cell? ⟨bt, ot + 1, none⟩ = some (.int .i64 zy) from ⟨⟨t0.c0 (HaF.out W X h), t1.c0 (HaF.out W X h)⟩, s0.c0 (HaF.out W X h), s1.c0 (HaF.out W X h)⟩)
      have Hprev := hid hprev
      have Hmore := hid hmore
      have Hzin := hid hzin
      have Hb0z := hid hb0z
      obtain ⟨⟨y0, y1⟩, _⟩ := HaT.out wr (pts g (.map es clock) + blk b6 #[.int .i64 (WN : Int), .int .i64 (HN : Int), .slice A HN c] 51) (HW.out.eq (by ac_rfl))
      clear hlt hi hd hzd t0 t1 s0 s1 hmore hprev hzin hb0z
      obtain ⟨b10, hb10⟩ : ∃ b10, b10 = wr.heap.size := ⟨_, rfl⟩; have HAb10 := hid (show Has (wr.alloc (.cells #[.int .i64 0, .int .i64 0] 66)) (blk b10 #[.int .i64 0, .int .i64 0] 66 + (pts g (.map es clock) + (blk b6 #[.int .i64 (WN : Int), .int .i64 (HN : Int), .slice A HN c] 51 + MS.all w))) by rw [hb10]; exact HW.out.alloc _); have Hb10 := hid hb10; clear hb10
      go_wp2_with (rw [← Hb10.out]; refine wpList_store_whole rfl (.tmp 10) (.tmp 27) 66 rfl 2 size66 b10 (.agg #[.int .i64 dx, .int .i64 dy]) rfl rfl rfl (by simp [Value.cells, Value.oneCell']) #[.int .i64 0, .int .i64 0] 66 _ HAb10.out rfl ?_; intro w41 j1 j2; have H41 := hid (show Has w41 (blk b10 #[.int .i64 dx, .int .i64 dy] 66 + (pts g (.map es clock) + (blk b6 #[.int .i64 (WN : Int), .int .i64 (HN : Int), .slice A HN c] 51 + MS.all w))) from j1.eq (by unfold blk; ac_rfl)); have E41 := hid ((HE.out.trans (Ext.alloc _ _)).trans j2); clear j1 j2)
      cases hha : hsI p dx dy with
      | false =>
        have hno := hid (show R = false by
          rw [HR.out, Hmore.out]
          unfold okR
          simp only [hha]; simp)
        have hS : (fun W' : World => W'.cell? ⟨b6, 0, none⟩ = some (.int .i64 (WN : Int)) ∧ W'.cell? ⟨b6, 1, none⟩ = some (.int .i64 (HN : Int)) ∧ W'.cell? ⟨b6, 2, none⟩ = some (.slice A HN c) ∧ W'.cell? ⟨b10, 0, none⟩ = some (.int .i64 dx) ∧ W'.cell? ⟨b10, 1, none⟩ = some (.int .i64 dy) ∧ W'.cell? ⟨bt, ot, none⟩ = some (.int .i64 zx) ∧ W'.cell? ⟨bt, ot + 1, none⟩ = some (.int .i64 zy)) w41.drew := ⟨(H41.out.eq (b := (blk b6 #[.int .i64 (WN : Int), .int .i64 (HN : Int), .slice A HN c] 51 + (blk b10 #[.int .i64 dx, .int .i64 dy] 66 + (pts g (.map es clock) + MS.all w)))) (by ac_rfl)).at_ (i := 0) rfl,
            (H41.out.eq (b := (blk b6 #[.int .i64 (WN : Int), .int .i64 (HN : Int), .slice A HN c] 51 + (blk b10 #[.int .i64 dx, .int .i64 dy] 66 + (pts g (.map es clock) + MS.all w)))) (by ac_rfl)).at_ (i := 1) rfl,
            (H41.out.eq (b := (blk b6 #[.int .i64 (WN : Int), .int .i64 (HN : Int), .slice A HN c] 51 + (blk b10 #[.int .i64 dx, .int .i64 dy] 66 + (pts g (.map es clock) + MS.all w)))) (by ac_rfl)).at_ (i := 2) rfl,
            (H41.out.eq (b := (blk b10 #[.int .i64 dx, .int .i64 dy] 66 + (pts g (.map es clock) + (blk b6 #[.int .i64 (WN : Int), .int .i64 (HN : Int), .slice A HN c] 51 + MS.all w)))) (by ac_rfl)).at_ (i := 0) rfl,
            (H41.out.eq (b := (blk b10 #[.int .i64 dx, .int .i64 dy] 66 + (pts g (.map es clock) + (blk b6 #[.int .i64 (WN : Int), .int .i64 (HN : Int), .slice A HN c] 51 + MS.all w)))) (by ac_rfl)).at_ (i := 1) rfl,
            (HaT.out w41 _ (H41.out.eq (b := ((blk b10 #[.int .i64 dx, .int .i64 dy] 66 + (pts g (.map es clock) + blk b6 #[.int .i64 (WN : Int), .int .i64 (HN : Int), .slice A HN c] 51)) + MS.all w)) (by ac_rfl))).2.1,
            (HaT.out w41 _ (H41.out.eq (b := ((blk b10 #[.int .i64 dx, .int .i64 dy] 66 + (pts g (.map es clock) + blk b6 #[.int .i64 (WN : Int), .int .i64 (HN : Int), .slice A HN c] 51)) + MS.all w)) (by ac_rfl))).2.2⟩
        refine wp_region_txt (fun W' => W'.cell? ⟨b6, 0, none⟩ = some (.int .i64 (WN : Int)) ∧ W'.cell? ⟨b6, 1, none⟩ = some (.int .i64 (HN : Int)) ∧ W'.cell? ⟨b6, 2, none⟩ = some (.slice A HN c) ∧ W'.cell? ⟨b10, 0, none⟩ = some (.int .i64 dx) ∧ W'.cell? ⟨b10, 1, none⟩ = some (.int .i64 dy) ∧ W'.cell? ⟨bt, ot, none⟩ = some (.int .i64 zx) ∧ W'.cell? ⟨bt, ot + 1, none⟩ = some (.int .i64 zy)) none
          [(0, true), (1, true), (2, true), (3, true), (4, true), (5, false), (6, true), (7, true), (8, true), (10, true), (11, true), (12, true), (9, true), (13, true), (14, true), (15, true), (16, true), (17, true), (18, true), (19, true), (20, true), (21, true), (22, true), (23, true), (24, true), (25, true), (26, true), (27, true), (28, true), (29, true)] (by kernel_rfl) rfl (by kernel_rfl) (by kernel_rfl) (by repeat (first | with_reducible refine PanicOk.thn ?_ | with_reducible refine PanicOk.blk ?_ | exact PanicOk.body _ _ _)) ?_
        repeat (first
          | (refine txt_off hS rfl rfl ?_; simp only [Act.put, List.setIfInBounds_toArray, List.set_cons_zero, List.set_cons_succ])
          | (refine txt_quiet ?_ hS rfl rfl (fun W hW => ?_) ?_
             rotate_left 1
             · obtain ⟨hW1, hW2, hW3, hW4, hW5, hW6, hW7⟩ := hW
               go_simp
               exact rfl
             simp only [Act.put, List.setIfInBounds_toArray, List.set_cons_zero, List.set_cons_succ]))
        refine txt_op rfl rfl ?_
        have hq := Hhas.out w41.drew ((H41.out.eq (b := ((blk b10 #[.int .i64 dx, .int .i64 dy] 66 + (pts g (.map es clock) + blk b6 #[.int .i64 (WN : Int), .int .i64 (HN : Int), .slice A HN c] 51)) + MS.all w)) (by ac_rfl)).right) dx dy
        rw [hha] at hq
        refine op_call 47 _ _ (by go_simp) _ (hq) ?_
        rintro e122 w122 ⟨rfl, k122⟩
        have H122 := hid (k122.1 _ H41.out.drew)
        have E122 := hid ((E41.out.trans (Ext.drew _)).trans k122.2)
        clear hS
        have hS : (fun W' : World => W'.cell? ⟨b6, 0, none⟩ = some (.int .i64 (WN : Int)) ∧ W'.cell? ⟨b6, 1, none⟩ = some (.int .i64 (HN : Int)) ∧ W'.cell? ⟨b6, 2, none⟩ = some (.slice A HN c) ∧ W'.cell? ⟨b10, 0, none⟩ = some (.int .i64 dx) ∧ W'.cell? ⟨b10, 1, none⟩ = some (.int .i64 dy) ∧ W'.cell? ⟨bt, ot, none⟩ = some (.int .i64 zx) ∧ W'.cell? ⟨bt, ot + 1, none⟩ = some (.int .i64 zy)) w122 := ⟨(H122.out.eq (b := (blk b6 #[.int .i64 (WN : Int), .int .i64 (HN : Int), .slice A HN c] 51 + (blk b10 #[.int .i64 dx, .int .i64 dy] 66 + (pts g (.map es clock) + MS.all w)))) (by ac_rfl)).at_ (i := 0) rfl,
            (H122.out.eq (b := (blk b6 #[.int .i64 (WN : Int), .int .i64 (HN : Int), .slice A HN c] 51 + (blk b10 #[.int .i64 dx, .int .i64 dy] 66 + (pts g (.map es clock) + MS.all w)))) (by ac_rfl)).at_ (i := 1) rfl,
            (H122.out.eq (b := (blk b6 #[.int .i64 (WN : Int), .int .i64 (HN : Int), .slice A HN c] 51 + (blk b10 #[.int .i64 dx, .int .i64 dy] 66 + (pts g (.map es clock) + MS.all w)))) (by ac_rfl)).at_ (i := 2) rfl,
            (H122.out.eq (b := (blk b10 #[.int .i64 dx, .int .i64 dy] 66 + (pts g (.map es clock) + (blk b6 #[.int .i64 (WN : Int), .int .i64 (HN : Int), .slice A HN c] 51 + MS.all w)))) (by ac_rfl)).at_ (i := 0) rfl,
            (H122.out.eq (b := (blk b10 #[.int .i64 dx, .int .i64 dy] 66 + (pts g (.map es clock) + (blk b6 #[.int .i64 (WN : Int), .int .i64 (HN : Int), .slice A HN c] 51 + MS.all w)))) (by ac_rfl)).at_ (i := 1) rfl,
            (HaT.out w122 _ (H122.out.eq (b := ((blk b10 #[.int .i64 dx, .int .i64 dy] 66 + (pts g (.map es clock) + blk b6 #[.int .i64 (WN : Int), .int .i64 (HN : Int), .slice A HN c] 51)) + MS.all w)) (by ac_rfl))).2.1,
            (HaT.out w122 _ (H122.out.eq (b := ((blk b10 #[.int .i64 dx, .int .i64 dy] 66 + (pts g (.map es clock) + blk b6 #[.int .i64 (WN : Int), .int .i64 (HN : Int), .slice A HN c] 51)) + MS.all w)) (by ac_rfl))).2.2⟩
        refine ⟨_, rfl, fun _ => hS, ?_⟩
        simp only [Act.put, List.setIfInBounds_toArray, List.set_cons_zero, List.set_cons_succ]
        clear k122
        repeat (first
          | (refine txt_off hS rfl rfl ?_; simp only [Act.put, List.setIfInBounds_toArray, List.set_cons_zero, List.set_cons_succ])
          | (refine txt_quiet ?_ hS rfl rfl (fun W hW => ?_) ?_
             rotate_left 1
             · obtain ⟨hW1, hW2, hW3, hW4, hW5, hW6, hW7⟩ := hW
               go_simp
               exact rfl
             simp only [Act.put, List.setIfInBounds_toArray, List.set_cons_zero, List.set_cons_succ]))
        clear hq
        refine txt_done ?_
        try simp only [Act.put]
        clear hS
        go_wp2
        go_ret2
        exact ⟨by first | rfl | (rw [hno.out]; rfl), fun M hM => hM.of_all (H122.out.eq (b := ((blk b10 #[.int .i64 dx, .int .i64 dy] 66 + (pts g (.map es clock) + blk b6 #[.int .i64 (WN : Int), .int .i64 (HN : Int), .slice A HN c] 51)) + MS.all w)) (by ac_rfl)), E122.out⟩
      | true =>
        obtain ⟨X, Y, hdx, hdy, hXW, hYH⟩ := HasI.out dx dy hha
        have hz0 := Hzin.out hha
        obtain ⟨X0, Y0, hzx, hzy, hX0, hY0⟩ := HasI.out zx zy hz0
        subst hdx; subst hdy; subst hzx; subst hzy
        have hb0e := Hb0z.out
        cases hbc : (blackB ((X : Int), (Y : Int)) == b0) with
        | true =>
          have hcc : (blackB ((X : Int), (Y : Int)) == blackB ((X0 : Int), (Y0 : Int))) = true := by rw [← hb0e]; exact hbc
          clear hb0e
          by_cases hi0 : i = 0
          · subst hi0
            have hord : ordC (prevC t 0) ((X : Int), (Y : Int)) = true := by rfl
            have Hnext := hid (show okL p b0 (prevC t (0 + 1)) (t.drop (0 + 1)) = R0 by
              rw [Hprev.out, Hmore.out]
              unfold okR
              simp only [hha, Bool.true_and]
              rw [hbc, hord]; simp)
            have hS : (fun W' : World => W'.cell? ⟨b6, 0, none⟩ = some (.int .i64 (WN : Int)) ∧ W'.cell? ⟨b6, 1, none⟩ = some (.int .i64 (HN : Int)) ∧ W'.cell? ⟨b6, 2, none⟩ = some (.slice A HN c) ∧ W'.cell? ⟨b10, 0, none⟩ = some (.int .i64 (X : Int)) ∧ W'.cell? ⟨b10, 1, none⟩ = some (.int .i64 (Y : Int)) ∧ W'.cell? ⟨bt, ot, none⟩ = some (.int .i64 (X0 : Int)) ∧ W'.cell? ⟨bt, ot + 1, none⟩ = some (.int .i64 (Y0 : Int))) w41.drew := ⟨(H41.out.eq (b := (blk b6 #[.int .i64 (WN : Int), .int .i64 (HN : Int), .slice A HN c] 51 + (blk b10 #[.int .i64 (X : Int), .int .i64 (Y : Int)] 66 + (pts g (.map es clock) + MS.all w)))) (by ac_rfl)).at_ (i := 0) rfl,
                (H41.out.eq (b := (blk b6 #[.int .i64 (WN : Int), .int .i64 (HN : Int), .slice A HN c] 51 + (blk b10 #[.int .i64 (X : Int), .int .i64 (Y : Int)] 66 + (pts g (.map es clock) + MS.all w)))) (by ac_rfl)).at_ (i := 1) rfl,
                (H41.out.eq (b := (blk b6 #[.int .i64 (WN : Int), .int .i64 (HN : Int), .slice A HN c] 51 + (blk b10 #[.int .i64 (X : Int), .int .i64 (Y : Int)] 66 + (pts g (.map es clock) + MS.all w)))) (by ac_rfl)).at_ (i := 2) rfl,
                (H41.out.eq (b := (blk b10 #[.int .i64 (X : Int), .int .i64 (Y : Int)] 66 + (pts g (.map es clock) + (blk b6 #[.int .i64 (WN : Int), .int .i64 (HN : Int), .slice A HN c] 51 + MS.all w)))) (by ac_rfl)).at_ (i := 0) rfl,
                (H41.out.eq (b := (blk b10 #[.int .i64 (X : Int), .int .i64 (Y : Int)] 66 + (pts g (.map es clock) + (blk b6 #[.int .i64 (WN : Int), .int .i64 (HN : Int), .slice A HN c] 51 + MS.all w)))) (by ac_rfl)).at_ (i := 1) rfl,
                (HaT.out w41 _ (H41.out.eq (b := ((blk b10 #[.int .i64 (X : Int), .int .i64 (Y : Int)] 66 + (pts g (.map es clock) + blk b6 #[.int .i64 (WN : Int), .int .i64 (HN : Int), .slice A HN c] 51)) + MS.all w)) (by ac_rfl))).2.1,
                (HaT.out w41 _ (H41.out.eq (b := ((blk b10 #[.int .i64 (X : Int), .int .i64 (Y : Int)] 66 + (pts g (.map es clock) + blk b6 #[.int .i64 (WN : Int), .int .i64 (HN : Int), .slice A HN c] 51)) + MS.all w)) (by ac_rfl))).2.2⟩
            refine wp_region_txt (fun W' => W'.cell? ⟨b6, 0, none⟩ = some (.int .i64 (WN : Int)) ∧ W'.cell? ⟨b6, 1, none⟩ = some (.int .i64 (HN : Int)) ∧ W'.cell? ⟨b6, 2, none⟩ = some (.slice A HN c) ∧ W'.cell? ⟨b10, 0, none⟩ = some (.int .i64 (X : Int)) ∧ W'.cell? ⟨b10, 1, none⟩ = some (.int .i64 (Y : Int)) ∧ W'.cell? ⟨bt, ot, none⟩ = some (.int .i64 (X0 : Int)) ∧ W'.cell? ⟨bt, ot + 1, none⟩ = some (.int .i64 (Y0 : Int))) none
              [(0, true), (1, true), (2, true), (3, true), (4, true), (5, false), (6, true), (7, true), (8, true), (10, true), (11, true), (12, true), (9, false), (13, false), (14, true), (15, true), (16, true), (17, true), (18, true), (19, true), (20, true), (21, true), (22, true), (23, true), (24, true), (25, true), (26, true), (27, true), (28, true), (29, true)] (by kernel_rfl) rfl (by kernel_rfl) (by kernel_rfl) (by repeat (first | with_reducible refine PanicOk.thn ?_ | with_reducible refine PanicOk.blk ?_ | exact PanicOk.body _ _ _)) ?_
            repeat (first
              | (refine txt_off hS rfl rfl ?_; simp only [Act.put, List.setIfInBounds_toArray, List.set_cons_zero, List.set_cons_succ])
              | (refine txt_quiet ?_ hS rfl rfl (fun W hW => ?_) ?_
                 rotate_left 1
                 · obtain ⟨hW1, hW2, hW3, hW4, hW5, hW6, hW7⟩ := hW
                   go_simp
                   exact rfl
                 simp only [Act.put, List.setIfInBounds_toArray, List.set_cons_zero, List.set_cons_succ]))
            refine txt_op rfl rfl ?_
            have hq := Hhas.out w41.drew ((H41.out.eq (b := ((blk b10 #[.int .i64 (X : Int), .int .i64 (Y : Int)] 66 + (pts g (.map es clock) + blk b6 #[.int .i64 (WN : Int), .int .i64 (HN : Int), .slice A HN c] 51)) + MS.all w)) (by ac_rfl)).right) (X : Int) (Y : Int)
            rw [hha] at hq
            refine op_call 47 _ _ (by go_simp) _ (hq) ?_
            rintro e42 w42 ⟨rfl, k42⟩
            have H42 := hid (k42.1 _ H41.out.drew)
            have E42 := hid ((E41.out.trans (Ext.drew _)).trans k42.2)
            clear hS
            have hS : (fun W' : World => W'.cell? ⟨b6, 0, none⟩ = some (.int .i64 (WN : Int)) ∧ W'.cell? ⟨b6, 1, none⟩ = some (.int .i64 (HN : Int)) ∧ W'.cell? ⟨b6, 2, none⟩ = some (.slice A HN c) ∧ W'.cell? ⟨b10, 0, none⟩ = some (.int .i64 (X : Int)) ∧ W'.cell? ⟨b10, 1, none⟩ = some (.int .i64 (Y : Int)) ∧ W'.cell? ⟨bt, ot, none⟩ = some (.int .i64 (X0 : Int)) ∧ W'.cell? ⟨bt, ot + 1, none⟩ = some (.int .i64 (Y0 : Int))) w42 := ⟨(H42.out.eq (b := (blk b6 #[.int .i64 (WN : Int), .int .i64 (HN : Int), .slice A HN c] 51 + (blk b10 #[.int .i64 (X : Int), .int .i64 (Y : Int)] 66 + (pts g (.map es clock) + MS.all w)))) (by ac_rfl)).at_ (i := 0) rfl,
                (H42.out.eq (b := (blk b6 #[.int .i64 (WN : Int), .int .i64 (HN : Int), .slice A HN c] 51 + (blk b10 #[.int .i64 (X : Int), .int .i64 (Y : Int)] 66 + (pts g (.map es clock) + MS.all w)))) (by ac_rfl)).at_ (i := 1) rfl,
                (H42.out.eq (b := (blk b6 #[.int .i64 (WN : Int), .int .i64 (HN : Int), .slice A HN c] 51 + (blk b10 #[.int .i64 (X : Int), .int .i64 (Y : Int)] 66 + (pts g (.map es clock) + MS.all w)))) (by ac_rfl)).at_ (i := 2) rfl,
                (H42.out.eq (b := (blk b10 #[.int .i64 (X : Int), .int .i64 (Y : Int)] 66 + (pts g (.map es clock) + (blk b6 #[.int .i64 (WN : Int), .int .i64 (HN : Int), .slice A HN c] 51 + MS.all w)))) (by ac_rfl)).at_ (i := 0) rfl,
                (H42.out.eq (b := (blk b10 #[.int .i64 (X : Int), .int .i64 (Y : Int)] 66 + (pts g (.map es clock) + (blk b6 #[.int .i64 (WN : Int), .int .i64 (HN : Int), .slice A HN c] 51 + MS.all w)))) (by ac_rfl)).at_ (i := 1) rfl,
                (HaT.out w42 _ (H42.out.eq (b := ((blk b10 #[.int .i64 (X : Int), .int .i64 (Y : Int)] 66 + (pts g (.map es clock) + blk b6 #[.int .i64 (WN : Int), .int .i64 (HN : Int), .slice A HN c] 51)) + MS.all w)) (by ac_rfl))).2.1,
                (HaT.out w42 _ (H42.out.eq (b := ((blk b10 #[.int .i64 (X : Int), .int .i64 (Y : Int)] 66 + (pts g (.map es clock) + blk b6 #[.int .i64 (WN : Int), .int .i64 (HN : Int), .slice A HN c] 51)) + MS.all w)) (by ac_rfl))).2.2⟩
            refine ⟨_, rfl, fun _ => hS, ?_⟩
            simp only [Act.put, List.setIfInBounds_toArray, List.set_cons_zero, List.set_cons_succ]
            clear k42
            repeat (first
              | (refine txt_off hS rfl rfl ?_; simp only [Act.put, List.setIfInBounds_toArray, List.set_cons_zero, List.set_cons_succ])
              | (refine txt_quiet ?_ hS rfl rfl (fun W hW => ?_) ?_
                 rotate_left 1
                 · obtain ⟨hW1, hW2, hW3, hW4, hW5, hW6, hW7⟩ := hW
                   go_simp
                   exact rfl
                 simp only [Act.put, List.setIfInBounds_toArray, List.set_cons_zero, List.set_cons_succ]))
            clear hq
            refine txt_op rfl rfl ?_
            refine op_call 38 _ _ (by go_simp) _ ((by have h := Hblk.out X Y hXW hYH w42; exact h : Calls Tryd.prog 38 #[.agg #[.int .i64 (X : Int), .int .i64 (Y : Int)]] w42 fun e w' => e = .returned (.bool (blackB ((X : Int), (Y : Int)))) ∧ Kp w42 w')) ?_
            rintro e43 w43 ⟨rfl, k43⟩
            have H43 := hid (k43.1 _ H42.out)
            have E43 := hid (E42.out.trans k43.2)
            clear hS
            have hS : (fun W' : World => W'.cell? ⟨b6, 0, none⟩ = some (.int .i64 (WN : Int)) ∧ W'.cell? ⟨b6, 1, none⟩ = some (.int .i64 (HN : Int)) ∧ W'.cell? ⟨b6, 2, none⟩ = some (.slice A HN c) ∧ W'.cell? ⟨b10, 0, none⟩ = some (.int .i64 (X : Int)) ∧ W'.cell? ⟨b10, 1, none⟩ = some (.int .i64 (Y : Int)) ∧ W'.cell? ⟨bt, ot, none⟩ = some (.int .i64 (X0 : Int)) ∧ W'.cell? ⟨bt, ot + 1, none⟩ = some (.int .i64 (Y0 : Int))) w43 := ⟨(H43.out.eq (b := (blk b6 #[.int .i64 (WN : Int), .int .i64 (HN : Int), .slice A HN c] 51 + (blk b10 #[.int .i64 (X : Int), .int .i64 (Y : Int)] 66 + (pts g (.map es clock) + MS.all w)))) (by ac_rfl)).at_ (i := 0) rfl,
                (H43.out.eq (b := (blk b6 #[.int .i64 (WN : Int), .int .i64 (HN : Int), .slice A HN c] 51 + (blk b10 #[.int .i64 (X : Int), .int .i64 (Y : Int)] 66 + (pts g (.map es clock) + MS.all w)))) (by ac_rfl)).at_ (i := 1) rfl,
                (H43.out.eq (b := (blk b6 #[.int .i64 (WN : Int), .int .i64 (HN : Int), .slice A HN c] 51 + (blk b10 #[.int .i64 (X : Int), .int .i64 (Y : Int)] 66 + (pts g (.map es clock) + MS.all w)))) (by ac_rfl)).at_ (i := 2) rfl,
                (H43.out.eq (b := (blk b10 #[.int .i64 (X : Int), .int .i64 (Y : Int)] 66 + (pts g (.map es clock) + (blk b6 #[.int .i64 (WN : Int), .int .i64 (HN : Int), .slice A HN c] 51 + MS.all w)))) (by ac_rfl)).at_ (i := 0) rfl,
                (H43.out.eq (b := (blk b10 #[.int .i64 (X : Int), .int .i64 (Y : Int)] 66 + (pts g (.map es clock) + (blk b6 #[.int .i64 (WN : Int), .int .i64 (HN : Int), .slice A HN c] 51 + MS.all w)))) (by ac_rfl)).at_ (i := 1) rfl,
                (HaT.out w43 _ (H43.out.eq (b := ((blk b10 #[.int .i64 (X : Int), .int .i64 (Y : Int)] 66 + (pts g (.map es clock) + blk b6 #[.int .i64 (WN : Int), .int .i64 (HN : Int), .slice A HN c] 51)) + MS.all w)) (by ac_rfl))).2.1,
                (HaT.out w43 _ (H43.out.eq (b := ((blk b10 #[.int .i64 (X : Int), .int .i64 (Y : Int)] 66 + (pts g (.map es clock) + blk b6 #[.int .i64 (WN : Int), .int .i64 (HN : Int), .slice A HN c] 51)) + MS.all w)) (by ac_rfl))).2.2⟩
            refine ⟨_, rfl, fun _ => hS, ?_⟩
            simp only [Act.put, List.setIfInBounds_toArray, List.set_cons_zero, List.set_cons_succ]
            clear k43
            repeat (first
              | (refine txt_off hS rfl rfl ?_; simp only [Act.put, List.setIfInBounds_toArray, List.set_cons_zero, List.set_cons_succ])
              | (refine txt_quiet ?_ hS rfl rfl (fun W hW => ?_) ?_
                 rotate_left 1
                 · obtain ⟨hW1, hW2, hW3, hW4, hW5, hW6, hW7⟩ := hW
                   go_simp
                   exact rfl
                 simp only [Act.put, List.setIfInBounds_toArray, List.set_cons_zero, List.set_cons_succ]))
            refine txt_op rfl rfl ?_
            refine op_call 38 _ _ (by go_simp) _ ((by have h := Hblk.out X0 Y0 hX0 hY0 w43; exact h : Calls Tryd.prog 38 #[.agg #[.int .i64 (X0 : Int), .int .i64 (Y0 : Int)]] w43 fun e w' => e = .returned (.bool (blackB ((X0 : Int), (Y0 : Int)))) ∧ Kp w43 w')) ?_
            rintro e44 w44 ⟨rfl, k44⟩
            have H44 := hid (k44.1 _ H43.out)
            have E44 := hid (E43.out.trans k44.2)
            clear hS
            have hS : (fun W' : World => W'.cell? ⟨b6, 0, none⟩ = some (.int .i64 (WN : Int)) ∧ W'.cell? ⟨b6, 1, none⟩ = some (.int .i64 (HN : Int)) ∧ W'.cell? ⟨b6, 2, none⟩ = some (.slice A HN c) ∧ W'.cell? ⟨b10, 0, none⟩ = some (.int .i64 (X : Int)) ∧ W'.cell? ⟨b10, 1, none⟩ = some (.int .i64 (Y : Int)) ∧ W'.cell? ⟨bt, ot, none⟩ = some (.int .i64 (X0 : Int)) ∧ W'.cell? ⟨bt, ot + 1, none⟩ = some (.int .i64 (Y0 : Int))) w44 := ⟨(H44.out.eq (b := (blk b6 #[.int .i64 (WN : Int), .int .i64 (HN : Int), .slice A HN c] 51 + (blk b10 #[.int .i64 (X : Int), .int .i64 (Y : Int)] 66 + (pts g (.map es clock) + MS.all w)))) (by ac_rfl)).at_ (i := 0) rfl,
                (H44.out.eq (b := (blk b6 #[.int .i64 (WN : Int), .int .i64 (HN : Int), .slice A HN c] 51 + (blk b10 #[.int .i64 (X : Int), .int .i64 (Y : Int)] 66 + (pts g (.map es clock) + MS.all w)))) (by ac_rfl)).at_ (i := 1) rfl,
                (H44.out.eq (b := (blk b6 #[.int .i64 (WN : Int), .int .i64 (HN : Int), .slice A HN c] 51 + (blk b10 #[.int .i64 (X : Int), .int .i64 (Y : Int)] 66 + (pts g (.map es clock) + MS.all w)))) (by ac_rfl)).at_ (i := 2) rfl,
                (H44.out.eq (b := (blk b10 #[.int .i64 (X : Int), .int .i64 (Y : Int)] 66 + (pts g (.map es clock) + (blk b6 #[.int .i64 (WN : Int), .int .i64 (HN : Int), .slice A HN c] 51 + MS.all w)))) (by ac_rfl)).at_ (i := 0) rfl,
                (H44.out.eq (b := (blk b10 #[.int .i64 (X : Int), .int .i64 (Y : Int)] 66 + (pts g (.map es clock) + (blk b6 #[.int .i64 (WN : Int), .int .i64 (HN : Int), .slice A HN c] 51 + MS.all w)))) (by ac_rfl)).at_ (i := 1) rfl,
                (HaT.out w44 _ (H44.out.eq (b := ((blk b10 #[.int .i64 (X : Int), .int .i64 (Y : Int)] 66 + (pts g (.map es clock) + blk b6 #[.int .i64 (WN : Int), .int .i64 (HN : Int), .slice A HN c] 51)) + MS.all w)) (by ac_rfl))).2.1,
                (HaT.out w44 _ (H44.out.eq (b := ((blk b10 #[.int .i64 (X : Int), .int .i64 (Y : Int)] 66 + (pts g (.map es clock) + blk b6 #[.int .i64 (WN : Int), .int .i64 (HN : Int), .slice A HN c] 51)) + MS.all w)) (by ac_rfl))).2.2⟩
            refine ⟨_, rfl, fun _ => hS, ?_⟩
            simp only [Act.put, List.setIfInBounds_toArray, List.set_cons_zero, List.set_cons_succ]
            clear k44
            repeat (first
              | (refine txt_off hS rfl rfl ?_; simp only [Act.put, List.setIfInBounds_toArray, List.set_cons_zero, List.set_cons_succ])
              | (refine txt_quiet ?_ hS rfl rfl (fun W hW => ?_) ?_
                 rotate_left 1
                 · obtain ⟨hW1, hW2, hW3, hW4, hW5, hW6, hW7⟩ := hW
                   go_simp
                   exact rfl
                 simp only [Act.put, List.setIfInBounds_toArray, List.set_cons_zero, List.set_cons_succ]))
            refine txt_done ?_
            try simp only [Act.put]
            clear hS
            clear hord hbc
            have x0 := (H44.out.eq (b := (blk b6 #[.int .i64 (WN : Int), .int .i64 (HN : Int), .slice A HN c] 51 + (blk b10 #[.int .i64 (X : Int), .int .i64 (Y : Int)] 66 + (pts g (.map es clock) + MS.all w)))) (by ac_rfl)).at_ (i := 0) rfl
            have x1 := (H44.out.eq (b := (blk b6 #[.int .i64 (WN : Int), .int .i64 (HN : Int), .slice A HN c] 51 + (blk b10 #[.int .i64 (X : Int), .int .i64 (Y : Int)] 66 + (pts g (.map es clock) + MS.all w)))) (by ac_rfl)).at_ (i := 1) rfl
            have x2 := (H44.out.eq (b := (blk b6 #[.int .i64 (WN : Int), .int .i64 (HN : Int), .slice A HN c] 51 + (blk b10 #[.int .i64 (X : Int), .int .i64 (Y : Int)] 66 + (pts g (.map es clock) + MS.all w)))) (by ac_rfl)).at_ (i := 2) rfl
            have x3 := (H44.out.eq (b := (blk b10 #[.int .i64 (X : Int), .int .i64 (Y : Int)] 66 + (pts g (.map es clock) + (blk b6 #[.int .i64 (WN : Int), .int .i64 (HN : Int), .slice A HN c] 51 + MS.all w)))) (by ac_rfl)).at_ (i := 0) rfl
            have x4 := (H44.out.eq (b := (blk b10 #[.int .i64 (X : Int), .int .i64 (Y : Int)] 66 + (pts g (.map es clock) + (blk b6 #[.int .i64 (WN : Int), .int .i64 (HN : Int), .slice A HN c] 51 + MS.all w)))) (by ac_rfl)).at_ (i := 1) rfl
            go_wp2_with (go_at_call 39; refine (Hnb.out X Y hXW hYH w44 ((H44.out.eq (b := ((blk b10 #[.int .i64 (X : Int), .int .i64 (Y : Int)] 66 + (pts g (.map es clock) + blk b6 #[.int .i64 (WN : Int), .int .i64 (HN : Int), .slice A HN c] 51)) + MS.all w)) (by ac_rfl)).right)).mono ?_; rintro e81 w81 ⟨v9, m9, rfl, hC9, k81, l81⟩; have H81 := hid (k81 _ H44.out); have E81 := hid (E44.out.trans l81); clear k81 l81; obtain ⟨A9, c9, rfl, _⟩ := SlR.form hC9; have HC9 := hid hC9; clear x0 x1 x2 x3 x4 hC9)
            obtain ⟨nk, hnk⟩ : ∃ nk, nk = (nbrsL p ((X : Int), (Y : Int))).length := ⟨_, rfl⟩
            have hnk4 : nk ≤ 4 := by rw [hnk]; exact nbrsK_len p _ 4
            rw [← hnk] at HC9 ⊢
            have Hnk := hid hnk
            clear hnk
            go_loopw [62] (fun v62 wq => ∃ (k : Nat) (esk : Array MapEntry) (clockk : Nat), k ≤ nk ∧ v62 = .int .i64 k ∧ EntsAre (mapL (((nbrsL p ((X : Int), (Y : Int))).take k).foldl insN (nearL p (t.take 0)))) esk clockk ∧ Has wq (pts g (.map esk clockk) + (blk b6 #[.int .i64 (WN : Int), .int .i64 (HN : Int), .slice A HN c] 51 + (m9 + (blk b10 #[.int .i64 (X : Int), .int .i64 (Y : Int)] 66 + MS.all w)))) ∧ Ext w wq) (fun v _ => nk - (intOf v).toNat)
            case atStart => exact ⟨0, es, clock, Nat.zero_le _, rfl, HS.out, H81.out.eq (b := pts g (.map es clock) + (blk b6 #[.int .i64 (WN : Int), .int .i64 (HN : Int), .slice A HN c] 51 + (m9 + (blk b10 #[.int .i64 (X : Int), .int .i64 (Y : Int)] 66 + MS.all w)))) (by ac_rfl), E81.out⟩
            case round =>
              obtain ⟨k, esk, clockk, hk, rfl, hSk, hWk, hEk⟩ := hrel
              have HSk := hid hSk
              have HWk := hid hWk
              have HEk := hid hEk
              clear hSk hWk hEk
              by_cases hlk : k < nk
              · have hlkI : (k : Int) < nk := by omega
                have Hk := hid hlk
                obtain ⟨q, hqk⟩ : ∃ q, (nbrsL p ((X : Int), (Y : Int)))[k]? = some q := ⟨_, List.getElem?_eq_getElem (by rw [← Hnk.out]; exact hlk)⟩
                have hfm := fold_more1 (acc := nearL p (t.take 0)) hqk
                obtain ⟨bn, on, hBn, n0, n1⟩ := HC9.out.rd.getCl hqk
                have Hsm := hid (Hnbin.out X Y q (List.mem_of_getElem? hqk))
                subst hBn
                have y0 := n0.c0 (HWk.out.eq (b := m9 + (pts g (.map esk clockk) + (blk b6 #[.int .i64 (WN : Int), .int .i64 (HN : Int), .slice A HN c] 51 + (blk b10 #[.int .i64 (X : Int), .int .i64 (Y : Int)] 66 + MS.all w)))) (by ac_rfl)).left
                have y1 := n1.c0 (HWk.out.eq (b := m9 + (pts g (.map esk clockk) + (blk b6 #[.int .i64 (WN : Int), .int .i64 (HN : Int), .slice A HN c] 51 + (blk b10 #[.int .i64 (X : Int), .int .i64 (Y : Int)] 66 + MS.all w)))) (by ac_rfl)).left
                obtain ⟨qx, qy⟩ := q
                simp only at y0 y1
                have Hfm := hid hfm
                clear hlk hk hqk n0 n1 hfm
                obtain ⟨b12, hb12⟩ : ∃ b12, b12 = wr.heap.size := ⟨_, rfl⟩; have HAb12 := hid (show Has (wr.alloc (.cells #[.int .i64 0, .int .i64 0] 66)) (blk b12 #[.int .i64 0, .int .i64 0] 66 + (pts g (.map esk clockk) + (blk b6 #[.int .i64 (WN : Int), .int .i64 (HN : Int), .slice A HN c] 51 + (m9 + (blk b10 #[.int .i64 (X : Int), .int .i64 (Y : Int)] 66 + MS.all w))))) by rw [hb12]; exact HWk.out.alloc _); have Hb12 := hid hb12; clear hb12
                go_wp2_with (first
                  | (refine wpList_putM pair66 und83 rfl (.tmp 66) (.tmp 67) (.const (.bool true)) (.inl rfl) g rfl (qx, qy) rfl (.bool true) rfl HSk.out Hsm.out _ (H121.out.eq (b := (pts g (.map esk clockk) + (blk b12 #[.int .i64 qx, .int .i64 qy] 66 + (blk b6 #[.int .i64 (WN : Int), .int .i64 (HN : Int), .slice A HN c] 51 + (m9 + (blk b10 #[.int .i64 (X : Int), .int .i64 (Y : Int)] 66 + MS.all w)))))) (by ac_rfl)) ?_; intro es5 clock5 w5 z1' z2' z3'; have S5 := hid z1'; have H5 := hid z2'; have E5 := hid (E121.out.trans z3'); clear z1' z2' z3' z0 z1)
                  | (rw [← Hb12.out]; refine wpList_store_whole rfl (.tmp 12) (.tmp 65) 66 rfl 2 size66 b12 (.agg #[.int .i64 qx, .int .i64 qy]) rfl rfl rfl (by simp [Value.cells, Value.oneCell']) #[.int .i64 0, .int .i64 0] 66 _ HAb12.out rfl ?_; intro w121 j1 j2; have H121 := hid (show Has w121 (blk b12 #[.int .i64 qx, .int .i64 qy] 66 + (pts g (.map esk clockk) + (blk b6 #[.int .i64 (WN : Int), .int .i64 (HN : Int), .slice A HN c] 51 + (m9 + (blk b10 #[.int .i64 (X : Int), .int .i64 (Y : Int)] 66 + MS.all w))))) from j1.eq (by unfold blk; ac_rfl)); have E121 := hid ((HEk.out.trans (Ext.alloc _ _)).trans j2); clear j1 j2; clear y0 y1; have z0 := (H121.out.eq (b := (blk b12 #[.int .i64 qx, .int .i64 qy] 66 + (pts g (.map esk clockk) + (blk b6 #[.int .i64 (WN : Int), .int .i64 (HN : Int), .slice A HN c] 51 + (m9 + (blk b10 #[.int .i64 (X : Int), .int .i64 (Y : Int)] 66 + MS.all w)))))) (by ac_rfl)).at_ (i := 0) rfl; have z1 := (H121.out.eq (b := (blk b12 #[.int .i64 qx, .int .i64 qy] 66 + (pts g (.map esk clockk) + (blk b6 #[.int .i64 (WN : Int), .int .i64 (HN : Int), .slice A HN c] 51 + (m9 + (blk b10 #[.int .i64 (X : Int), .int .i64 (Y : Int)] 66 + MS.all w)))))) (by ac_rfl)).at_ (i := 1) rfl))
                go_roundw
                case rel => exact ⟨k + 1, es5, clock5, Hk.out, by go_num, by rw [Hfm.out, ← mapL_ins]; exact S5.out, H5.out.eq (b := (pts g (.map es5 clock5) + (blk b6 #[.int .i64 (WN : Int), .int .i64 (HN : Int), .slice A HN c] 51 + (m9 + (blk b10 #[.int .i64 (X : Int), .int .i64 (Y : Int)] 66 + MS.all w)))) + blk b12 #[.int .i64 qx, .int .i64 qy] 66) (by ac_rfl) |>.left, E5.out⟩
                case measure => have := Hk.out; simp [intOf]; omega
              · have hke : k = nk := by omega
                subst hke
                clear hlk hk
                have htk : (nbrsL p ((X : Int), (Y : Int))).take k = nbrsL p ((X : Int), (Y : Int)) := List.take_of_length_le (by rw [Hnk.out]; exact Nat.le_refl _)
                have HS2 := hid (show EntsAre (mapL (nearL p (t.take (0 + 1)))) esk clockk from by
                  rw [hnm.out]
                  have h := HSk.out
                  rw [htk] at h
                  exact h)
                clear htk
                go_wp2
                go_roundw
                case rel => exact ⟨0 + 1, esk, clockk, Hlt.out, by go_num, HS2.out, Hnext.out, hznext.out hz0, HWk.out.eq (b := (pts g (.map esk clockk) + (blk b6 #[.int .i64 (WN : Int), .int .i64 (HN : Int), .slice A HN c] 51 + MS.all w)) + (m9 + blk b10 #[.int .i64 (X : Int), .int .i64 (Y : Int)] 66)) (by ac_rfl) |>.left, HEk.out⟩
                case measure => have := Hlt.out; simp [intOf]; omega
          · obtain ⟨j, rfl⟩ : ∃ j, i = j + 1 := ⟨i - 1, by omega⟩
            obtain ⟨e, he⟩ : ∃ e, t[j]? = some e := ⟨_, List.getElem?_eq_getElem (by have h1 := Hlt.out; have h2 := HTN.out; omega)⟩
            obtain ⟨bt', ot', hB, e0, e1⟩ := Htd.out j e he
            injection hB with hB; injection hB with e2 e3
            subst e2; subst e3
            have hpv : prevC t (j + 1) = some e := by unfold prevC; rw [if_neg (by omega), Nat.add_sub_cancel]; exact he
            obtain ⟨ex, ey⟩ := e
            simp only at e0 e1
            have Hpv := hid (fun (W : World) (X : MS) (h : Has W (X + MS.all w)) => show W.cell? ⟨bt, ot + j * 2, none⟩ = some (.int .i64 ex) ∧ W.cell? ⟨bt, ot + j * 2 + 1, none⟩ = some (.int .i64 ey) from ⟨e0.c0 (HaF.out W X h), e1.c0 (HaF.out W X h)⟩)
            have hjI : (j : Int) < TN := by have := Hlt.out; omega
            have hj1 : (j : Int) ≤ 1000 := by omega
            obtain ⟨rd, hrd⟩ : ∃ rd, rd = rdC (ex, ey) ((X : Int), (Y : Int)) := ⟨_, rfl⟩
            have hrdE := hrd
            clear hi0
            by_cases h9 : 0 ≤ rd
            · have hord : ordC (prevC t (j + 1)) ((X : Int), (Y : Int)) = false := by rw [hpv]; unfold ordC; simp only; rw [← hrd]; exact decide_eq_false (by omega)
              have hno := hid (show R = false by
                rw [HR.out, Hmore.out]
                unfold okR
                rw [hord]; simp)
              have hge : rd ≥ 0 := h9
              have hjw : IntKind.i64.wrap (j : Int) = (j : Int) := by rw [IntKind.wrap_i64]; omega
              clear hord he e0 e1 hpv hrd
              have hS : (fun W' : World => W'.cell? ⟨b6, 0, none⟩ = some (.int .i64 (WN : Int)) ∧ W'.cell? ⟨b6, 1, none⟩ = some (.int .i64 (HN : Int)) ∧ W'.cell? ⟨b6, 2, none⟩ = some (.slice A HN c) ∧ W'.cell? ⟨b10, 0, none⟩ = some (.int .i64 (X : Int)) ∧ W'.cell? ⟨b10, 1, none⟩ = some (.int .i64 (Y : Int)) ∧ W'.cell? ⟨bt, ot, none⟩ = some (.int .i64 (X0 : Int)) ∧ W'.cell? ⟨bt, ot + 1, none⟩ = some (.int .i64 (Y0 : Int)) ∧ W'.cell? ⟨bt, ot + j * 2, none⟩ = some (.int .i64 ex) ∧ W'.cell? ⟨bt, ot + j * 2 + 1, none⟩ = some (.int .i64 ey)) w41.drew := ⟨(H41.out.eq (b := (blk b6 #[.int .i64 (WN : Int), .int .i64 (HN : Int), .slice A HN c] 51 + (blk b10 #[.int .i64 (X : Int), .int .i64 (Y : Int)] 66 + (pts g (.map es clock) + MS.all w)))) (by ac_rfl)).at_ (i := 0) rfl,
                  (H41.out.eq (b := (blk b6 #[.int .i64 (WN : Int), .int .i64 (HN : Int), .slice A HN c] 51 + (blk b10 #[.int .i64 (X : Int), .int .i64 (Y : Int)] 66 + (pts g (.map es clock) + MS.all w)))) (by ac_rfl)).at_ (i := 1) rfl,
                  (H41.out.eq (b := (blk b6 #[.int .i64 (WN : Int), .int .i64 (HN : Int), .slice A HN c] 51 + (blk b10 #[.int .i64 (X : Int), .int .i64 (Y : Int)] 66 + (pts g (.map es clock) + MS.all w)))) (by ac_rfl)).at_ (i := 2) rfl,
                  (H41.out.eq (b := (blk b10 #[.int .i64 (X : Int), .int .i64 (Y : Int)] 66 + (pts g (.map es clock) + (blk b6 #[.int .i64 (WN : Int), .int .i64 (HN : Int), .slice A HN c] 51 + MS.all w)))) (by ac_rfl)).at_ (i := 0) rfl,
                  (H41.out.eq (b := (blk b10 #[.int .i64 (X : Int), .int .i64 (Y : Int)] 66 + (pts g (.map es clock) + (blk b6 #[.int .i64 (WN : Int), .int .i64 (HN : Int), .slice A HN c] 51 + MS.all w)))) (by ac_rfl)).at_ (i := 1) rfl,
                  (HaT.out w41 _ (H41.out.eq (b := ((blk b10 #[.int .i64 (X : Int), .int .i64 (Y : Int)] 66 + (pts g (.map es clock) + blk b6 #[.int .i64 (WN : Int), .int .i64 (HN : Int), .slice A HN c] 51)) + MS.all w)) (by ac_rfl))).2.1,
                  (HaT.out w41 _ (H41.out.eq (b := ((blk b10 #[.int .i64 (X : Int), .int .i64 (Y : Int)] 66 + (pts g (.map es clock) + blk b6 #[.int .i64 (WN : Int), .int .i64 (HN : Int), .slice A HN c] 51)) + MS.all w)) (by ac_rfl))).2.2,
                  (Hpv.out w41 _ (H41.out.eq (b := ((blk b10 #[.int .i64 (X : Int), .int .i64 (Y : Int)] 66 + (pts g (.map es clock) + blk b6 #[.int .i64 (WN : Int), .int .i64 (HN : Int), .slice A HN c] 51)) + MS.all w)) (by ac_rfl))).1,
                  (Hpv.out w41 _ (H41.out.eq (b := ((blk b10 #[.int .i64 (X : Int), .int .i64 (Y : Int)] 66 + (pts g (.map es clock) + blk b6 #[.int .i64 (WN : Int), .int .i64 (HN : Int), .slice A HN c] 51)) + MS.all w)) (by ac_rfl))).2⟩
              refine wp_region_txt (fun W' => W'.cell? ⟨b6, 0, none⟩ = some (.int .i64 (WN : Int)) ∧ W'.cell? ⟨b6, 1, none⟩ = some (.int .i64 (HN : Int)) ∧ W'.cell? ⟨b6, 2, none⟩ = some (.slice A HN c) ∧ W'.cell? ⟨b10, 0, none⟩ = some (.int .i64 (X : Int)) ∧ W'.cell? ⟨b10, 1, none⟩ = some (.int .i64 (Y : Int)) ∧ W'.cell? ⟨bt, ot, none⟩ = some (.int .i64 (X0 : Int)) ∧ W'.cell? ⟨bt, ot + 1, none⟩ = some (.int .i64 (Y0 : Int)) ∧ W'.cell? ⟨bt, ot + j * 2, none⟩ = some (.int .i64 ex) ∧ W'.cell? ⟨bt, ot + j * 2 + 1, none⟩ = some (.int .i64 ey)) none
                [(0, true), (1, true), (2, true), (3, true), (4, true), (5, false), (6, true), (7, true), (8, true), (10, true), (11, true), (12, true), (9, false), (13, false), (14, true), (15, true), (16, true), (17, true), (18, true), (19, true), (20, true), (21, true), (22, true), (23, true), (24, true), (25, true), (26, false), (27, true), (28, true), (29, true)] (by kernel_rfl) rfl (by kernel_rfl) (by kernel_rfl) (by repeat (first | with_reducible refine PanicOk.thn ?_ | with_reducible refine PanicOk.blk ?_ | exact PanicOk.body _ _ _)) ?_
              repeat (first
                | (refine txt_off hS rfl rfl ?_; simp only [Act.put, List.setIfInBounds_toArray, List.set_cons_zero, List.set_cons_succ])
                | (refine txt_quiet ?_ hS rfl rfl (fun W hW => ?_) ?_
                   rotate_left 1
                   · obtain ⟨hW1, hW2, hW3, hW4, hW5, hW6, hW7, hW8, hW9⟩ := hW
                     go_simp
                     exact rfl
                   simp only [Act.put, List.setIfInBounds_toArray, List.set_cons_zero, List.set_cons_succ]))
              refine txt_op rfl rfl ?_
              have hq := Hhas.out w41.drew ((H41.out.eq (b := ((blk b10 #[.int .i64 (X : Int), .int .i64 (Y : Int)] 66 + (pts g (.map es clock) + blk b6 #[.int .i64 (WN : Int), .int .i64 (HN : Int), .slice A HN c] 51)) + MS.all w)) (by ac_rfl)).right) (X : Int) (Y : Int)
              rw [hha] at hq
              refine op_call 47 _ _ (by go_simp) _ (hq) ?_
              rintro e122 w122 ⟨rfl, k122⟩
              have H122 := hid (k122.1 _ H41.out.drew)
              have E122 := hid ((E41.out.trans (Ext.drew _)).trans k122.2)
              clear hS
              have hS : (fun W' : World => W'.cell? ⟨b6, 0, none⟩ = some (.int .i64 (WN : Int)) ∧ W'.cell? ⟨b6, 1, none⟩ = some (.int .i64 (HN : Int)) ∧ W'.cell? ⟨b6, 2, none⟩ = some (.slice A HN c) ∧ W'.cell? ⟨b10, 0, none⟩ = some (.int .i64 (X : Int)) ∧ W'.cell? ⟨b10, 1, none⟩ = some (.int .i64 (Y : Int)) ∧ W'.cell? ⟨bt, ot, none⟩ = some (.int .i64 (X0 : Int)) ∧ W'.cell? ⟨bt, ot + 1, none⟩ = some (.int .i64 (Y0 : Int)) ∧ W'.cell? ⟨bt, ot + j * 2, none⟩ = some (.int .i64 ex) ∧ W'.cell? ⟨bt, ot + j * 2 + 1, none⟩ = some (.int .i64 ey)) w122 := ⟨(H122.out.eq (b := (blk b6 #[.int .i64 (WN : Int), .int .i64 (HN : Int), .slice A HN c] 51 + (blk b10 #[.int .i64 (X : Int), .int .i64 (Y : Int)] 66 + (pts g (.map es clock) + MS.all w)))) (by ac_rfl)).at_ (i := 0) rfl,
                  (H122.out.eq (b := (blk b6 #[.int .i64 (WN : Int), .int .i64 (HN : Int), .slice A HN c] 51 + (blk b10 #[.int .i64 (X : Int), .int .i64 (Y : Int)] 66 + (pts g (.map es clock) + MS.all w)))) (by ac_rfl)).at_ (i := 1) rfl,
                  (H122.out.eq (b := (blk b6 #[.int .i64 (WN : Int), .int .i64 (HN : Int), .slice A HN c] 51 + (blk b10 #[.int .i64 (X : Int), .int .i64 (Y : Int)] 66 + (pts g (.map es clock) + MS.all w)))) (by ac_rfl)).at_ (i := 2) rfl,
                  (H122.out.eq (b := (blk b10 #[.int .i64 (X : Int), .int .i64 (Y : Int)] 66 + (pts g (.map es clock) + (blk b6 #[.int .i64 (WN : Int), .int .i64 (HN : Int), .slice A HN c] 51 + MS.all w)))) (by ac_rfl)).at_ (i := 0) rfl,
                  (H122.out.eq (b := (blk b10 #[.int .i64 (X : Int), .int .i64 (Y : Int)] 66 + (pts g (.map es clock) + (blk b6 #[.int .i64 (WN : Int), .int .i64 (HN : Int), .slice A HN c] 51 + MS.all w)))) (by ac_rfl)).at_ (i := 1) rfl,
                  (HaT.out w122 _ (H122.out.eq (b := ((blk b10 #[.int .i64 (X : Int), .int .i64 (Y : Int)] 66 + (pts g (.map es clock) + blk b6 #[.int .i64 (WN : Int), .int .i64 (HN : Int), .slice A HN c] 51)) + MS.all w)) (by ac_rfl))).2.1,
                  (HaT.out w122 _ (H122.out.eq (b := ((blk b10 #[.int .i64 (X : Int), .int .i64 (Y : Int)] 66 + (pts g (.map es clock) + blk b6 #[.int .i64 (WN : Int), .int .i64 (HN : Int), .slice A HN c] 51)) + MS.all w)) (by ac_rfl))).2.2,
                  (Hpv.out w122 _ (H122.out.eq (b := ((blk b10 #[.int .i64 (X : Int), .int .i64 (Y : Int)] 66 + (pts g (.map es clock) + blk b6 #[.int .i64 (WN : Int), .int .i64 (HN : Int), .slice A HN c] 51)) + MS.all w)) (by ac_rfl))).1,
                  (Hpv.out w122 _ (H122.out.eq (b := ((blk b10 #[.int .i64 (X : Int), .int .i64 (Y : Int)] 66 + (pts g (.map es clock) + blk b6 #[.int .i64 (WN : Int), .int .i64 (HN : Int), .slice A HN c] 51)) + MS.all w)) (by ac_rfl))).2⟩
              refine ⟨_, rfl, fun _ => hS, ?_⟩
              simp only [Act.put, List.setIfInBounds_toArray, List.set_cons_zero, List.set_cons_succ]
              clear k122
              repeat (first
                | (refine txt_off hS rfl rfl ?_; simp only [Act.put, List.setIfInBounds_toArray, List.set_cons_zero, List.set_cons_succ])
                | (refine txt_quiet ?_ hS rfl rfl (fun W hW => ?_) ?_
                   rotate_left 1
                   · obtain ⟨hW1, hW2, hW3, hW4, hW5, hW6, hW7, hW8, hW9⟩ := hW
                     go_simp
                     exact rfl
                   simp only [Act.put, List.setIfInBounds_toArray, List.set_cons_zero, List.set_cons_succ]))
              clear hq
              refine txt_op rfl rfl ?_
              refine op_call 38 _ _ (by go_simp) _ ((by have h := Hblk.out X Y hXW hYH w122; exact h : Calls Tryd.prog 38 #[.agg #[.int .i64 (X : Int), .int .i64 (Y : Int)]] w122 fun e w' => e = .returned (.bool (blackB ((X : Int), (Y : Int)))) ∧ Kp w122 w')) ?_
              rintro e123 w123 ⟨rfl, k123⟩
              have H123 := hid (k123.1 _ H122.out)
              have E123 := hid (E122.out.trans k123.2)
              clear hS
              have hS : (fun W' : World => W'.cell? ⟨b6, 0, none⟩ = some (.int .i64 (WN : Int)) ∧ W'.cell? ⟨b6, 1, none⟩ = some (.int .i64 (HN : Int)) ∧ W'.cell? ⟨b6, 2, none⟩ = some (.slice A HN c) ∧ W'.cell? ⟨b10, 0, none⟩ = some (.int .i64 (X : Int)) ∧ W'.cell? ⟨b10, 1, none⟩ = some (.int .i64 (Y : Int)) ∧ W'.cell? ⟨bt, ot, none⟩ = some (.int .i64 (X0 : Int)) ∧ W'.cell? ⟨bt, ot + 1, none⟩ = some (.int .i64 (Y0 : Int)) ∧ W'.cell? ⟨bt, ot + j * 2, none⟩ = some (.int .i64 ex) ∧ W'.cell? ⟨bt, ot + j * 2 + 1, none⟩ = some (.int .i64 ey)) w123 := ⟨(H123.out.eq (b := (blk b6 #[.int .i64 (WN : Int), .int .i64 (HN : Int), .slice A HN c] 51 + (blk b10 #[.int .i64 (X : Int), .int .i64 (Y : Int)] 66 + (pts g (.map es clock) + MS.all w)))) (by ac_rfl)).at_ (i := 0) rfl,
                  (H123.out.eq (b := (blk b6 #[.int .i64 (WN : Int), .int .i64 (HN : Int), .slice A HN c] 51 + (blk b10 #[.int .i64 (X : Int), .int .i64 (Y : Int)] 66 + (pts g (.map es clock) + MS.all w)))) (by ac_rfl)).at_ (i := 1) rfl,
                  (H123.out.eq (b := (blk b6 #[.int .i64 (WN : Int), .int .i64 (HN : Int), .slice A HN c] 51 + (blk b10 #[.int .i64 (X : Int), .int .i64 (Y : Int)] 66 + (pts g (.map es clock) + MS.all w)))) (by ac_rfl)).at_ (i := 2) rfl,
                  (H123.out.eq (b := (blk b10 #[.int .i64 (X : Int), .int .i64 (Y : Int)] 66 + (pts g (.map es clock) + (blk b6 #[.int .i64 (WN : Int), .int .i64 (HN : Int), .slice A HN c] 51 + MS.all w)))) (by ac_rfl)).at_ (i := 0) rfl,
                  (H123.out.eq (b := (blk b10 #[.int .i64 (X : Int), .int .i64 (Y : Int)] 66 + (pts g (.map es clock) + (blk b6 #[.int .i64 (WN : Int), .int .i64 (HN : Int), .slice A HN c] 51 + MS.all w)))) (by ac_rfl)).at_ (i := 1) rfl,
                  (HaT.out w123 _ (H123.out.eq (b := ((blk b10 #[.int .i64 (X : Int), .int .i64 (Y : Int)] 66 + (pts g (.map es clock) + blk b6 #[.int .i64 (WN : Int), .int .i64 (HN : Int), .slice A HN c] 51)) + MS.all w)) (by ac_rfl))).2.1,
                  (HaT.out w123 _ (H123.out.eq (b := ((blk b10 #[.int .i64 (X : Int), .int .i64 (Y : Int)] 66 + (pts g (.map es clock) + blk b6 #[.int .i64 (WN : Int), .int .i64 (HN : Int), .slice A HN c] 51)) + MS.all w)) (by ac_rfl))).2.2,
                  (Hpv.out w123 _ (H123.out.eq (b := ((blk b10 #[.int .i64 (X : Int), .int .i64 (Y : Int)] 66 + (pts g (.map es clock) + blk b6 #[.int .i64 (WN : Int), .int .i64 (HN : Int), .slice A HN c] 51)) + MS.all w)) (by ac_rfl))).1,
                  (Hpv.out w123 _ (H123.out.eq (b := ((blk b10 #[.int .i64 (X : Int), .int .i64 (Y : Int)] 66 + (pts g (.map es clock) + blk b6 #[.int .i64 (WN : Int), .int .i64 (HN : Int), .slice A HN c] 51)) + MS.all w)) (by ac_rfl))).2⟩
              refine ⟨_, rfl, fun _ => hS, ?_⟩
              simp only [Act.put, List.setIfInBounds_toArray, List.set_cons_zero, List.set_cons_succ]
              clear k123
              repeat (first
                | (refine txt_off hS rfl rfl ?_; simp only [Act.put, List.setIfInBounds_toArray, List.set_cons_zero, List.set_cons_succ])
                | (refine txt_quiet ?_ hS rfl rfl (fun W hW => ?_) ?_
                   rotate_left 1
                   · obtain ⟨hW1, hW2, hW3, hW4, hW5, hW6, hW7, hW8, hW9⟩ := hW
                     go_simp
                     exact rfl
                   simp only [Act.put, List.setIfInBounds_toArray, List.set_cons_zero, List.set_cons_succ]))
              refine txt_op rfl rfl ?_
              refine op_call 38 _ _ (by go_simp) _ ((by have h := Hblk.out X0 Y0 hX0 hY0 w123; exact h : Calls Tryd.prog 38 #[.agg #[.int .i64 (X0 : Int), .int .i64 (Y0 : Int)]] w123 fun e w' => e = .returned (.bool (blackB ((X0 : Int), (Y0 : Int)))) ∧ Kp w123 w')) ?_
              rintro e124 w124 ⟨rfl, k124⟩
              have H124 := hid (k124.1 _ H123.out)
              have E124 := hid (E123.out.trans k124.2)
              clear hS
              have hS : (fun W' : World => W'.cell? ⟨b6, 0, none⟩ = some (.int .i64 (WN : Int)) ∧ W'.cell? ⟨b6, 1, none⟩ = some (.int .i64 (HN : Int)) ∧ W'.cell? ⟨b6, 2, none⟩ = some (.slice A HN c) ∧ W'.cell? ⟨b10, 0, none⟩ = some (.int .i64 (X : Int)) ∧ W'.cell? ⟨b10, 1, none⟩ = some (.int .i64 (Y : Int)) ∧ W'.cell? ⟨bt, ot, none⟩ = some (.int .i64 (X0 : Int)) ∧ W'.cell? ⟨bt, ot + 1, none⟩ = some (.int .i64 (Y0 : Int)) ∧ W'.cell? ⟨bt, ot + j * 2, none⟩ = some (.int .i64 ex) ∧ W'.cell? ⟨bt, ot + j * 2 + 1, none⟩ = some (.int .i64 ey)) w124 := ⟨(H124.out.eq (b := (blk b6 #[.int .i64 (WN : Int), .int .i64 (HN : Int), .slice A HN c] 51 + (blk b10 #[.int .i64 (X : Int), .int .i64 (Y : Int)] 66 + (pts g (.map es clock) + MS.all w)))) (by ac_rfl)).at_ (i := 0) rfl,
                  (H124.out.eq (b := (blk b6 #[.int .i64 (WN : Int), .int .i64 (HN : Int), .slice A HN c] 51 + (blk b10 #[.int .i64 (X : Int), .int .i64 (Y : Int)] 66 + (pts g (.map es clock) + MS.all w)))) (by ac_rfl)).at_ (i := 1) rfl,
                  (H124.out.eq (b := (blk b6 #[.int .i64 (WN : Int), .int .i64 (HN : Int), .slice A HN c] 51 + (blk b10 #[.int .i64 (X : Int), .int .i64 (Y : Int)] 66 + (pts g (.map es clock) + MS.all w)))) (by ac_rfl)).at_ (i := 2) rfl,
                  (H124.out.eq (b := (blk b10 #[.int .i64 (X : Int), .int .i64 (Y : Int)] 66 + (pts g (.map es clock) + (blk b6 #[.int .i64 (WN : Int), .int .i64 (HN : Int), .slice A HN c] 51 + MS.all w)))) (by ac_rfl)).at_ (i := 0) rfl,
                  (H124.out.eq (b := (blk b10 #[.int .i64 (X : Int), .int .i64 (Y : Int)] 66 + (pts g (.map es clock) + (blk b6 #[.int .i64 (WN : Int), .int .i64 (HN : Int), .slice A HN c] 51 + MS.all w)))) (by ac_rfl)).at_ (i := 1) rfl,
                  (HaT.out w124 _ (H124.out.eq (b := ((blk b10 #[.int .i64 (X : Int), .int .i64 (Y : Int)] 66 + (pts g (.map es clock) + blk b6 #[.int .i64 (WN : Int), .int .i64 (HN : Int), .slice A HN c] 51)) + MS.all w)) (by ac_rfl))).2.1,
                  (HaT.out w124 _ (H124.out.eq (b := ((blk b10 #[.int .i64 (X : Int), .int .i64 (Y : Int)] 66 + (pts g (.map es clock) + blk b6 #[.int .i64 (WN : Int), .int .i64 (HN : Int), .slice A HN c] 51)) + MS.all w)) (by ac_rfl))).2.2,
                  (Hpv.out w124 _ (H124.out.eq (b := ((blk b10 #[.int .i64 (X : Int), .int .i64 (Y : Int)] 66 + (pts g (.map es clock) + blk b6 #[.int .i64 (WN : Int), .int .i64 (HN : Int), .slice A HN c] 51)) + MS.all w)) (by ac_rfl))).1,
                  (Hpv.out w124 _ (H124.out.eq (b := ((blk b10 #[.int .i64 (X : Int), .int .i64 (Y : Int)] 66 + (pts g (.map es clock) + blk b6 #[.int .i64 (WN : Int), .int .i64 (HN : Int), .slice A HN c] 51)) + MS.all w)) (by ac_rfl))).2⟩
              refine ⟨_, rfl, fun _ => hS, ?_⟩
              simp only [Act.put, List.setIfInBounds_toArray, List.set_cons_zero, List.set_cons_succ]
              clear k124
              repeat (first
                | (refine txt_off hS rfl rfl ?_; simp only [Act.put, List.setIfInBounds_toArray, List.set_cons_zero, List.set_cons_succ])
                | (refine txt_quiet ?_ hS rfl rfl (fun W hW => ?_) ?_
                   rotate_left 1
                   · obtain ⟨hW1, hW2, hW3, hW4, hW5, hW6, hW7, hW8, hW9⟩ := hW
                     go_simp
                     exact rfl
                   simp only [Act.put, List.setIfInBounds_toArray, List.set_cons_zero, List.set_cons_succ]))
              refine txt_op rfl rfl ?_
              have hq := Hrd.out ex ey (X : Int) (Y : Int) w124
              rw [← hrdE] at hq
              refine op_call 48 _ _ (by go_simp) _ (hq) ?_
              rintro e125 w125 ⟨rfl, k125⟩
              have H125 := hid (k125.1 _ H124.out)
              have E125 := hid (E124.out.trans k125.2)
              clear hS
              have hS : (fun W' : World => W'.cell? ⟨b6, 0, none⟩ = some (.int .i64 (WN : Int)) ∧ W'.cell? ⟨b6, 1, none⟩ = some (.int .i64 (HN : Int)) ∧ W'.cell? ⟨b6, 2, none⟩ = some (.slice A HN c) ∧ W'.cell? ⟨b10, 0, none⟩ = some (.int .i64 (X : Int)) ∧ W'.cell? ⟨b10, 1, none⟩ = some (.int .i64 (Y : Int)) ∧ W'.cell? ⟨bt, ot, none⟩ = some (.int .i64 (X0 : Int)) ∧ W'.cell? ⟨bt, ot + 1, none⟩ = some (.int .i64 (Y0 : Int)) ∧ W'.cell? ⟨bt, ot + j * 2, none⟩ = some (.int .i64 ex) ∧ W'.cell? ⟨bt, ot + j * 2 + 1, none⟩ = some (.int .i64 ey)) w125 := ⟨(H125.out.eq (b := (blk b6 #[.int .i64 (WN : Int), .int .i64 (HN : Int), .slice A HN c] 51 + (blk b10 #[.int .i64 (X : Int), .int .i64 (Y : Int)] 66 + (pts g (.map es clock) + MS.all w)))) (by ac_rfl)).at_ (i := 0) rfl,
                  (H125.out.eq (b := (blk b6 #[.int .i64 (WN : Int), .int .i64 (HN : Int), .slice A HN c] 51 + (blk b10 #[.int .i64 (X : Int), .int .i64 (Y : Int)] 66 + (pts g (.map es clock) + MS.all w)))) (by ac_rfl)).at_ (i := 1) rfl,
                  (H125.out.eq (b := (blk b6 #[.int .i64 (WN : Int), .int .i64 (HN : Int), .slice A HN c] 51 + (blk b10 #[.int .i64 (X : Int), .int .i64 (Y : Int)] 66 + (pts g (.map es clock) + MS.all w)))) (by ac_rfl)).at_ (i := 2) rfl,
                  (H125.out.eq (b := (blk b10 #[.int .i64 (X : Int), .int .i64 (Y : Int)] 66 + (pts g (.map es clock) + (blk b6 #[.int .i64 (WN : Int), .int .i64 (HN : Int), .slice A HN c] 51 + MS.all w)))) (by ac_rfl)).at_ (i := 0) rfl,
                  (H125.out.eq (b := (blk b10 #[.int .i64 (X : Int), .int .i64 (Y : Int)] 66 + (pts g (.map es clock) + (blk b6 #[.int .i64 (WN : Int), .int .i64 (HN : Int), .slice A HN c] 51 + MS.all w)))) (by ac_rfl)).at_ (i := 1) rfl,
                  (HaT.out w125 _ (H125.out.eq (b := ((blk b10 #[.int .i64 (X : Int), .int .i64 (Y : Int)] 66 + (pts g (.map es clock) + blk b6 #[.int .i64 (WN : Int), .int .i64 (HN : Int), .slice A HN c] 51)) + MS.all w)) (by ac_rfl))).2.1,
                  (HaT.out w125 _ (H125.out.eq (b := ((blk b10 #[.int .i64 (X : Int), .int .i64 (Y : Int)] 66 + (pts g (.map es clock) + blk b6 #[.int .i64 (WN : Int), .int .i64 (HN : Int), .slice A HN c] 51)) + MS.all w)) (by ac_rfl))).2.2,
                  (Hpv.out w125 _ (H125.out.eq (b := ((blk b10 #[.int .i64 (X : Int), .int .i64 (Y : Int)] 66 + (pts g (.map es clock) + blk b6 #[.int .i64 (WN : Int), .int .i64 (HN : Int), .slice A HN c] 51)) + MS.all w)) (by ac_rfl))).1,
                  (Hpv.out w125 _ (H125.out.eq (b := ((blk b10 #[.int .i64 (X : Int), .int .i64 (Y : Int)] 66 + (pts g (.map es clock) + blk b6 #[.int .i64 (WN : Int), .int .i64 (HN : Int), .slice A HN c] 51)) + MS.all w)) (by ac_rfl))).2⟩
              refine ⟨_, rfl, fun _ => hS, ?_⟩
              simp only [Act.put, List.setIfInBounds_toArray, List.set_cons_zero, List.set_cons_succ]
              clear k125
              repeat (first
                | (refine txt_off hS rfl rfl ?_; simp only [Act.put, List.setIfInBounds_toArray, List.set_cons_zero, List.set_cons_succ])
                | (refine txt_quiet ?_ hS rfl rfl (fun W hW => ?_) ?_
                   rotate_left 1
                   · obtain ⟨hW1, hW2, hW3, hW4, hW5, hW6, hW7, hW8, hW9⟩ := hW
                     go_simp
                     exact rfl
                   simp only [Act.put, List.setIfInBounds_toArray, List.set_cons_zero, List.set_cons_succ]))
              clear hq
              refine txt_done ?_
              try simp only [Act.put]
              clear hS
              clear hjw
              go_wp2
              go_ret2
              exact ⟨by first | rfl | (rw [hno.out]; rfl), fun M hM => hM.of_all (H125.out.eq (b := ((blk b10 #[.int .i64 (X : Int), .int .i64 (Y : Int)] 66 + (pts g (.map es clock) + blk b6 #[.int .i64 (WN : Int), .int .i64 (HN : Int), .slice A HN c] 51)) + MS.all w)) (by ac_rfl)), E125.out⟩
            · have hge : ¬ (rd ≥ 0) := h9
              have hord : ordC (prevC t (j + 1)) ((X : Int), (Y : Int)) = true := by rw [hpv]; unfold ordC; simp only; rw [← hrd]; exact decide_eq_true (by omega)
              have Hnext := hid (show okL p b0 (prevC t ((j + 1) + 1)) (t.drop ((j + 1) + 1)) = R0 by
                rw [Hprev.out, Hmore.out]
                unfold okR
                simp only [hha, Bool.true_and]
                rw [hbc, hord]; simp)
              have hjw : IntKind.i64.wrap (j : Int) = (j : Int) := by rw [IntKind.wrap_i64]; omega
              have hS : (fun W' : World => W'.cell? ⟨b6, 0, none⟩ = some (.int .i64 (WN : Int)) ∧ W'.cell? ⟨b6, 1, none⟩ = some (.int .i64 (HN : Int)) ∧ W'.cell? ⟨b6, 2, none⟩ = some (.slice A HN c) ∧ W'.cell? ⟨b10, 0, none⟩ = some (.int .i64 (X : Int)) ∧ W'.cell? ⟨b10, 1, none⟩ = some (.int .i64 (Y : Int)) ∧ W'.cell? ⟨bt, ot, none⟩ = some (.int .i64 (X0 : Int)) ∧ W'.cell? ⟨bt, ot + 1, none⟩ = some (.int .i64 (Y0 : Int)) ∧ W'.cell? ⟨bt, ot + j * 2, none⟩ = some (.int .i64 ex) ∧ W'.cell? ⟨bt, ot + j * 2 + 1, none⟩ = some (.int .i64 ey)) w41.drew := ⟨(H41.out.eq (b := (blk b6 #[.int .i64 (WN : Int), .int .i64 (HN : Int), .slice A HN c] 51 + (blk b10 #[.int .i64 (X : Int), .int .i64 (Y : Int)] 66 + (pts g (.map es clock) + MS.all w)))) (by ac_rfl)).at_ (i := 0) rfl,
                  (H41.out.eq (b := (blk b6 #[.int .i64 (WN : Int), .int .i64 (HN : Int), .slice A HN c] 51 + (blk b10 #[.int .i64 (X : Int), .int .i64 (Y : Int)] 66 + (pts g (.map es clock) + MS.all w)))) (by ac_rfl)).at_ (i := 1) rfl,
                  (H41.out.eq (b := (blk b6 #[.int .i64 (WN : Int), .int .i64 (HN : Int), .slice A HN c] 51 + (blk b10 #[.int .i64 (X : Int), .int .i64 (Y : Int)] 66 + (pts g (.map es clock) + MS.all w)))) (by ac_rfl)).at_ (i := 2) rfl,
                  (H41.out.eq (b := (blk b10 #[.int .i64 (X : Int), .int .i64 (Y : Int)] 66 + (pts g (.map es clock) + (blk b6 #[.int .i64 (WN : Int), .int .i64 (HN : Int), .slice A HN c] 51 + MS.all w)))) (by ac_rfl)).at_ (i := 0) rfl,
                  (H41.out.eq (b := (blk b10 #[.int .i64 (X : Int), .int .i64 (Y : Int)] 66 + (pts g (.map es clock) + (blk b6 #[.int .i64 (WN : Int), .int .i64 (HN : Int), .slice A HN c] 51 + MS.all w)))) (by ac_rfl)).at_ (i := 1) rfl,
                  (HaT.out w41 _ (H41.out.eq (b := ((blk b10 #[.int .i64 (X : Int), .int .i64 (Y : Int)] 66 + (pts g (.map es clock) + blk b6 #[.int .i64 (WN : Int), .int .i64 (HN : Int), .slice A HN c] 51)) + MS.all w)) (by ac_rfl))).2.1,
                  (HaT.out w41 _ (H41.out.eq (b := ((blk b10 #[.int .i64 (X : Int), .int .i64 (Y : Int)] 66 + (pts g (.map es clock) + blk b6 #[.int .i64 (WN : Int), .int .i64 (HN : Int), .slice A HN c] 51)) + MS.all w)) (by ac_rfl))).2.2,
                  (Hpv.out w41 _ (H41.out.eq (b := ((blk b10 #[.int .i64 (X : Int), .int .i64 (Y : Int)] 66 + (pts g (.map es clock) + blk b6 #[.int .i64 (WN : Int), .int .i64 (HN : Int), .slice A HN c] 51)) + MS.all w)) (by ac_rfl))).1,
                  (Hpv.out w41 _ (H41.out.eq (b := ((blk b10 #[.int .i64 (X : Int), .int .i64 (Y : Int)] 66 + (pts g (.map es clock) + blk b6 #[.int .i64 (WN : Int), .int .i64 (HN : Int), .slice A HN c] 51)) + MS.all w)) (by ac_rfl))).2⟩
              refine wp_region_txt (fun W' => W'.cell? ⟨b6, 0, none⟩ = some (.int .i64 (WN : Int)) ∧ W'.cell? ⟨b6, 1, none⟩ = some (.int .i64 (HN : Int)) ∧ W'.cell? ⟨b6, 2, none⟩ = some (.slice A HN c) ∧ W'.cell? ⟨b10, 0, none⟩ = some (.int .i64 (X : Int)) ∧ W'.cell? ⟨b10, 1, none⟩ = some (.int .i64 (Y : Int)) ∧ W'.cell? ⟨bt, ot, none⟩ = some (.int .i64 (X0 : Int)) ∧ W'.cell? ⟨bt, ot + 1, none⟩ = some (.int .i64 (Y0 : Int)) ∧ W'.cell? ⟨bt, ot + j * 2, none⟩ = some (.int .i64 ex) ∧ W'.cell? ⟨bt, ot + j * 2 + 1, none⟩ = some (.int .i64 ey)) none
                [(0, true), (1, true), (2, true), (3, true), (4, true), (5, false), (6, true), (7, true), (8, true), (10, true), (11, true), (12, true), (9, false), (13, false), (14, true), (15, true), (16, true), (17, true), (18, true), (19, true), (20, true), (21, true), (22, true), (23, true), (24, true), (25, true), (26, false), (27, true), (28, true), (29, true)] (by kernel_rfl) rfl (by kernel_rfl) (by kernel_rfl) (by repeat (first | with_reducible refine PanicOk.thn ?_ | with_reducible refine PanicOk.blk ?_ | exact PanicOk.body _ _ _)) ?_
              repeat (first
                | (refine txt_off hS rfl rfl ?_; simp only [Act.put, List.setIfInBounds_toArray, List.set_cons_zero, List.set_cons_succ])
                | (refine txt_quiet ?_ hS rfl rfl (fun W hW => ?_) ?_
                   rotate_left 1
                   · obtain ⟨hW1, hW2, hW3, hW4, hW5, hW6, hW7, hW8, hW9⟩ := hW
                     go_simp
                     exact rfl
                   simp only [Act.put, List.setIfInBounds_toArray, List.set_cons_zero, List.set_cons_succ]))
              refine txt_op rfl rfl ?_
              have hq := Hhas.out w41.drew ((H41.out.eq (b := ((blk b10 #[.int .i64 (X : Int), .int .i64 (Y : Int)] 66 + (pts g (.map es clock) + blk b6 #[.int .i64 (WN : Int), .int .i64 (HN : Int), .slice A HN c] 51)) + MS.all w)) (by ac_rfl)).right) (X : Int) (Y : Int)
              rw [hha] at hq
              refine op_call 47 _ _ (by go_simp) _ (hq) ?_
              rintro e126 w126 ⟨rfl, k126⟩
              have H126 := hid (k126.1 _ H41.out.drew)
              have E126 := hid ((E41.out.trans (Ext.drew _)).trans k126.2)
              clear hS
              have hS : (fun W' : World => W'.cell? ⟨b6, 0, none⟩ = some (.int .i64 (WN : Int)) ∧ W'.cell? ⟨b6, 1, none⟩ = some (.int .i64 (HN : Int)) ∧ W'.cell? ⟨b6, 2, none⟩ = some (.slice A HN c) ∧ W'.cell? ⟨b10, 0, none⟩ = some (.int .i64 (X : Int)) ∧ W'.cell? ⟨b10, 1, none⟩ = some (.int .i64 (Y : Int)) ∧ W'.cell? ⟨bt, ot, none⟩ = some (.int .i64 (X0 : Int)) ∧ W'.cell? ⟨bt, ot + 1, none⟩ = some (.int .i64 (Y0 : Int)) ∧ W'.cell? ⟨bt, ot + j * 2, none⟩ = some (.int .i64 ex) ∧ W'.cell? ⟨bt, ot + j * 2 + 1, none⟩ = some (.int .i64 ey)) w126 := ⟨(H126.out.eq (b := (blk b6 #[.int .i64 (WN : Int), .int .i64 (HN : Int), .slice A HN c] 51 + (blk b10 #[.int .i64 (X : Int), .int .i64 (Y : Int)] 66 + (pts g (.map es clock) + MS.all w)))) (by ac_rfl)).at_ (i := 0) rfl,
                  (H126.out.eq (b := (blk b6 #[.int .i64 (WN : Int), .int .i64 (HN : Int), .slice A HN c] 51 + (blk b10 #[.int .i64 (X : Int), .int .i64 (Y : Int)] 66 + (pts g (.map es clock) + MS.all w)))) (by ac_rfl)).at_ (i := 1) rfl,
                  (H126.out.eq (b := (blk b6 #[.int .i64 (WN : Int), .int .i64 (HN : Int), .slice A HN c] 51 + (blk b10 #[.int .i64 (X : Int), .int .i64 (Y : Int)] 66 + (pts g (.map es clock) + MS.all w)))) (by ac_rfl)).at_ (i := 2) rfl,
                  (H126.out.eq (b := (blk b10 #[.int .i64 (X : Int), .int .i64 (Y : Int)] 66 + (pts g (.map es clock) + (blk b6 #[.int .i64 (WN : Int), .int .i64 (HN : Int), .slice A HN c] 51 + MS.all w)))) (by ac_rfl)).at_ (i := 0) rfl,
                  (H126.out.eq (b := (blk b10 #[.int .i64 (X : Int), .int .i64 (Y : Int)] 66 + (pts g (.map es clock) + (blk b6 #[.int .i64 (WN : Int), .int .i64 (HN : Int), .slice A HN c] 51 + MS.all w)))) (by ac_rfl)).at_ (i := 1) rfl,
                  (HaT.out w126 _ (H126.out.eq (b := ((blk b10 #[.int .i64 (X : Int), .int .i64 (Y : Int)] 66 + (pts g (.map es clock) + blk b6 #[.int .i64 (WN : Int), .int .i64 (HN : Int), .slice A HN c] 51)) + MS.all w)) (by ac_rfl))).2.1,
                  (HaT.out w126 _ (H126.out.eq (b := ((blk b10 #[.int .i64 (X : Int), .int .i64 (Y : Int)] 66 + (pts g (.map es clock) + blk b6 #[.int .i64 (WN : Int), .int .i64 (HN : Int), .slice A HN c] 51)) + MS.all w)) (by ac_rfl))).2.2,
                  (Hpv.out w126 _ (H126.out.eq (b := ((blk b10 #[.int .i64 (X : Int), .int .i64 (Y : Int)] 66 + (pts g (.map es clock) + blk b6 #[.int .i64 (WN : Int), .int .i64 (HN : Int), .slice A HN c] 51)) + MS.all w)) (by ac_rfl))).1,
                  (Hpv.out w126 _ (H126.out.eq (b := ((blk b10 #[.int .i64 (X : Int), .int .i64 (Y : Int)] 66 + (pts g (.map es clock) + blk b6 #[.int .i64 (WN : Int), .int .i64 (HN : Int), .slice A HN c] 51)) + MS.all w)) (by ac_rfl))).2⟩
              refine ⟨_, rfl, fun _ => hS, ?_⟩
              simp only [Act.put, List.setIfInBounds_toArray, List.set_cons_zero, List.set_cons_succ]
              clear k126
              repeat (first
                | (refine txt_off hS rfl rfl ?_; simp only [Act.put, List.setIfInBounds_toArray, List.set_cons_zero, List.set_cons_succ])
                | (refine txt_quiet ?_ hS rfl rfl (fun W hW => ?_) ?_
                   rotate_left 1
                   · obtain ⟨hW1, hW2, hW3, hW4, hW5, hW6, hW7, hW8, hW9⟩ := hW
                     go_simp
                     exact rfl
                   simp only [Act.put, List.setIfInBounds_toArray, List.set_cons_zero, List.set_cons_succ]))
              clear hq
              refine txt_op rfl rfl ?_
              refine op_call 38 _ _ (by go_simp) _ ((by have h := Hblk.out X Y hXW hYH w126; exact h : Calls Tryd.prog 38 #[.agg #[.int .i64 (X : Int), .int .i64 (Y : Int)]] w126 fun e w' => e = .returned (.bool (blackB ((X : Int), (Y : Int)))) ∧ Kp w126 w')) ?_
              rintro e127 w127 ⟨rfl, k127⟩
              have H127 := hid (k127.1 _ H126.out)
              have E127 := hid (E126.out.trans k127.2)
              clear hS
              have hS : (fun W' : World => W'.cell? ⟨b6, 0, none⟩ = some (.int .i64 (WN : Int)) ∧ W'.cell? ⟨b6, 1, none⟩ = some (.int .i64 (HN : Int)) ∧ W'.cell? ⟨b6, 2, none⟩ = some (.slice A HN c) ∧ W'.cell? ⟨b10, 0, none⟩ = some (.int .i64 (X : Int)) ∧ W'.cell? ⟨b10, 1, none⟩ = some (.int .i64 (Y : Int)) ∧ W'.cell? ⟨bt, ot, none⟩ = some (.int .i64 (X0 : Int)) ∧ W'.cell? ⟨bt, ot + 1, none⟩ = some (.int .i64 (Y0 : Int)) ∧ W'.cell? ⟨bt, ot + j * 2, none⟩ = some (.int .i64 ex) ∧ W'.cell? ⟨bt, ot + j * 2 + 1, none⟩ = some (.int .i64 ey)) w127 := ⟨(H127.out.eq (b := (blk b6 #[.int .i64 (WN : Int), .int .i64 (HN : Int), .slice A HN c] 51 + (blk b10 #[.int .i64 (X : Int), .int .i64 (Y : Int)] 66 + (pts g (.map es clock) + MS.all w)))) (by ac_rfl)).at_ (i := 0) rfl,
                  (H127.out.eq (b := (blk b6 #[.int .i64 (WN : Int), .int .i64 (HN : Int), .slice A HN c] 51 + (blk b10 #[.int .i64 (X : Int), .int .i64 (Y : Int)] 66 + (pts g (.map es clock) + MS.all w)))) (by ac_rfl)).at_ (i := 1) rfl,
                  (H127.out.eq (b := (blk b6 #[.int .i64 (WN : Int), .int .i64 (HN : Int), .slice A HN c] 51 + (blk b10 #[.int .i64 (X : Int), .int .i64 (Y : Int)] 66 + (pts g (.map es clock) + MS.all w)))) (by ac_rfl)).at_ (i := 2) rfl,
                  (H127.out.eq (b := (blk b10 #[.int .i64 (X : Int), .int .i64 (Y : Int)] 66 + (pts g (.map es clock) + (blk b6 #[.int .i64 (WN : Int), .int .i64 (HN : Int), .slice A HN c] 51 + MS.all w)))) (by ac_rfl)).at_ (i := 0) rfl,
                  (H127.out.eq (b := (blk b10 #[.int .i64 (X : Int), .int .i64 (Y : Int)] 66 + (pts g (.map es clock) + (blk b6 #[.int .i64 (WN : Int), .int .i64 (HN : Int), .slice A HN c] 51 + MS.all w)))) (by ac_rfl)).at_ (i := 1) rfl,
                  (HaT.out w127 _ (H127.out.eq (b := ((blk b10 #[.int .i64 (X : Int), .int .i64 (Y : Int)] 66 + (pts g (.map es clock) + blk b6 #[.int .i64 (WN : Int), .int .i64 (HN : Int), .slice A HN c] 51)) + MS.all w)) (by ac_rfl))).2.1,
                  (HaT.out w127 _ (H127.out.eq (b := ((blk b10 #[.int .i64 (X : Int), .int .i64 (Y : Int)] 66 + (pts g (.map es clock) + blk b6 #[.int .i64 (WN : Int), .int .i64 (HN : Int), .slice A HN c] 51)) + MS.all w)) (by ac_rfl))).2.2,
                  (Hpv.out w127 _ (H127.out.eq (b := ((blk b10 #[.int .i64 (X : Int), .int .i64 (Y : Int)] 66 + (pts g (.map es clock) + blk b6 #[.int .i64 (WN : Int), .int .i64 (HN : Int), .slice A HN c] 51)) + MS.all w)) (by ac_rfl))).1,
                  (Hpv.out w127 _ (H127.out.eq (b := ((blk b10 #[.int .i64 (X : Int), .int .i64 (Y : Int)] 66 + (pts g (.map es clock) + blk b6 #[.int .i64 (WN : Int), .int .i64 (HN : Int), .slice A HN c] 51)) + MS.all w)) (by ac_rfl))).2⟩
              refine ⟨_, rfl, fun _ => hS, ?_⟩
              simp only [Act.put, List.setIfInBounds_toArray, List.set_cons_zero, List.set_cons_succ]
              clear k127
              repeat (first
                | (refine txt_off hS rfl rfl ?_; simp only [Act.put, List.setIfInBounds_toArray, List.set_cons_zero, List.set_cons_succ])
                | (refine txt_quiet ?_ hS rfl rfl (fun W hW => ?_) ?_
                   rotate_left 1
                   · obtain ⟨hW1, hW2, hW3, hW4, hW5, hW6, hW7, hW8, hW9⟩ := hW
                     go_simp
                     exact rfl
                   simp only [Act.put, List.setIfInBounds_toArray, List.set_cons_zero, List.set_cons_succ]))
              refine txt_op rfl rfl ?_
              refine op_call 38 _ _ (by go_simp) _ ((by have h := Hblk.out X0 Y0 hX0 hY0 w127; exact h : Calls Tryd.prog 38 #[.agg #[.int .i64 (X0 : Int), .int .i64 (Y0 : Int)]] w127 fun e w' => e = .returned (.bool (blackB ((X0 : Int), (Y0 : Int)))) ∧ Kp w127 w')) ?_
              rintro e128 w128 ⟨rfl, k128⟩
              have H128 := hid (k128.1 _ H127.out)
              have E128 := hid (E127.out.trans k128.2)
              clear hS
              have hS : (fun W' : World => W'.cell? ⟨b6, 0, none⟩ = some (.int .i64 (WN : Int)) ∧ W'.cell? ⟨b6, 1, none⟩ = some (.int .i64 (HN : Int)) ∧ W'.cell? ⟨b6, 2, none⟩ = some (.slice A HN c) ∧ W'.cell? ⟨b10, 0, none⟩ = some (.int .i64 (X : Int)) ∧ W'.cell? ⟨b10, 1, none⟩ = some (.int .i64 (Y : Int)) ∧ W'.cell? ⟨bt, ot, none⟩ = some (.int .i64 (X0 : Int)) ∧ W'.cell? ⟨bt, ot + 1, none⟩ = some (.int .i64 (Y0 : Int)) ∧ W'.cell? ⟨bt, ot + j * 2, none⟩ = some (.int .i64 ex) ∧ W'.cell? ⟨bt, ot + j * 2 + 1, none⟩ = some (.int .i64 ey)) w128 := ⟨(H128.out.eq (b := (blk b6 #[.int .i64 (WN : Int), .int .i64 (HN : Int), .slice A HN c] 51 + (blk b10 #[.int .i64 (X : Int), .int .i64 (Y : Int)] 66 + (pts g (.map es clock) + MS.all w)))) (by ac_rfl)).at_ (i := 0) rfl,
                  (H128.out.eq (b := (blk b6 #[.int .i64 (WN : Int), .int .i64 (HN : Int), .slice A HN c] 51 + (blk b10 #[.int .i64 (X : Int), .int .i64 (Y : Int)] 66 + (pts g (.map es clock) + MS.all w)))) (by ac_rfl)).at_ (i := 1) rfl,
                  (H128.out.eq (b := (blk b6 #[.int .i64 (WN : Int), .int .i64 (HN : Int), .slice A HN c] 51 + (blk b10 #[.int .i64 (X : Int), .int .i64 (Y : Int)] 66 + (pts g (.map es clock) + MS.all w)))) (by ac_rfl)).at_ (i := 2) rfl,
                  (H128.out.eq (b := (blk b10 #[.int .i64 (X : Int), .int .i64 (Y : Int)] 66 + (pts g (.map es clock) + (blk b6 #[.int .i64 (WN : Int), .int .i64 (HN : Int), .slice A HN c] 51 + MS.all w)))) (by ac_rfl)).at_ (i := 0) rfl,
                  (H128.out.eq (b := (blk b10 #[.int .i64 (X : Int), .int .i64 (Y : Int)] 66 + (pts g (.map es clock) + (blk b6 #[.int .i64 (WN : Int), .int .i64 (HN : Int), .slice A HN c] 51 + MS.all w)))) (by ac_rfl)).at_ (i := 1) rfl,
                  (HaT.out w128 _ (H128.out.eq (b := ((blk b10 #[.int .i64 (X : Int), .int .i64 (Y : Int)] 66 + (pts g (.map es clock) + blk b6 #[.int .i64 (WN : Int), .int .i64 (HN : Int), .slice A HN c] 51)) + MS.all w)) (by ac_rfl))).2.1,
                  (HaT.out w128 _ (H128.out.eq (b := ((blk b10 #[.int .i64 (X : Int), .int .i64 (Y : Int)] 66 + (pts g (.map es clock) + blk b6 #[.int .i64 (WN : Int), .int .i64 (HN : Int), .slice A HN c] 51)) + MS.all w)) (by ac_rfl))).2.2,
                  (Hpv.out w128 _ (H128.out.eq (b := ((blk b10 #[.int .i64 (X : Int), .int .i64 (Y : Int)] 66 + (pts g (.map es clock) + blk b6 #[.int .i64 (WN : Int), .int .i64 (HN : Int), .slice A HN c] 51)) + MS.all w)) (by ac_rfl))).1,
                  (Hpv.out w128 _ (H128.out.eq (b := ((blk b10 #[.int .i64 (X : Int), .int .i64 (Y : Int)] 66 + (pts g (.map es clock) + blk b6 #[.int .i64 (WN : Int), .int .i64 (HN : Int), .slice A HN c] 51)) + MS.all w)) (by ac_rfl))).2⟩
              refine ⟨_, rfl, fun _ => hS, ?_⟩
              simp only [Act.put, List.setIfInBounds_toArray, List.set_cons_zero, List.set_cons_succ]
              clear k128
              repeat (first
                | (refine txt_off hS rfl rfl ?_; simp only [Act.put, List.setIfInBounds_toArray, List.set_cons_zero, List.set_cons_succ])
                | (refine txt_quiet ?_ hS rfl rfl (fun W hW => ?_) ?_
                   rotate_left 1
                   · obtain ⟨hW1, hW2, hW3, hW4, hW5, hW6, hW7, hW8, hW9⟩ := hW
                     go_simp
                     exact rfl
                   simp only [Act.put, List.setIfInBounds_toArray, List.set_cons_zero, List.set_cons_succ]))
              refine txt_op rfl rfl ?_
              have hq := Hrd.out ex ey (X : Int) (Y : Int) w128
              rw [← hrdE] at hq
              refine op_call 48 _ _ (by go_simp) _ (hq) ?_
              rintro e129 w129 ⟨rfl, k129⟩
              have H129 := hid (k129.1 _ H128.out)
              have E129 := hid (E128.out.trans k129.2)
              clear hS
              have hS : (fun W' : World => W'.cell? ⟨b6, 0, none⟩ = some (.int .i64 (WN : Int)) ∧ W'.cell? ⟨b6, 1, none⟩ = some (.int .i64 (HN : Int)) ∧ W'.cell? ⟨b6, 2, none⟩ = some (.slice A HN c) ∧ W'.cell? ⟨b10, 0, none⟩ = some (.int .i64 (X : Int)) ∧ W'.cell? ⟨b10, 1, none⟩ = some (.int .i64 (Y : Int)) ∧ W'.cell? ⟨bt, ot, none⟩ = some (.int .i64 (X0 : Int)) ∧ W'.cell? ⟨bt, ot + 1, none⟩ = some (.int .i64 (Y0 : Int)) ∧ W'.cell? ⟨bt, ot + j * 2, none⟩ = some (.int .i64 ex) ∧ W'.cell? ⟨bt, ot + j * 2 + 1, none⟩ = some (.int .i64 ey)) w129 := ⟨(H129.out.eq (b := (blk b6 #[.int .i64 (WN : Int), .int .i64 (HN : Int), .slice A HN c] 51 + (blk b10 #[.int .i64 (X : Int), .int .i64 (Y : Int)] 66 + (pts g (.map es clock) + MS.all w)))) (by ac_rfl)).at_ (i := 0) rfl,
                  (H129.out.eq (b := (blk b6 #[.int .i64 (WN : Int), .int .i64 (HN : Int), .slice A HN c] 51 + (blk b10 #[.int .i64 (X : Int), .int .i64 (Y : Int)] 66 + (pts g (.map es clock) + MS.all w)))) (by ac_rfl)).at_ (i := 1) rfl,
                  (H129.out.eq (b := (blk b6 #[.int .i64 (WN : Int), .int .i64 (HN : Int), .slice A HN c] 51 + (blk b10 #[.int .i64 (X : Int), .int .i64 (Y : Int)] 66 + (pts g (.map es clock) + MS.all w)))) (by ac_rfl)).at_ (i := 2) rfl,
                  (H129.out.eq (b := (blk b10 #[.int .i64 (X : Int), .int .i64 (Y : Int)] 66 + (pts g (.map es clock) + (blk b6 #[.int .i64 (WN : Int), .int .i64 (HN : Int), .slice A HN c] 51 + MS.all w)))) (by ac_rfl)).at_ (i := 0) rfl,
                  (H129.out.eq (b := (blk b10 #[.int .i64 (X : Int), .int .i64 (Y : Int)] 66 + (pts g (.map es clock) + (blk b6 #[.int .i64 (WN : Int), .int .i64 (HN : Int), .slice A HN c] 51 + MS.all w)))) (by ac_rfl)).at_ (i := 1) rfl,
                  (HaT.out w129 _ (H129.out.eq (b := ((blk b10 #[.int .i64 (X : Int), .int .i64 (Y : Int)] 66 + (pts g (.map es clock) + blk b6 #[.int .i64 (WN : Int), .int .i64 (HN : Int), .slice A HN c] 51)) + MS.all w)) (by ac_rfl))).2.1,
                  (HaT.out w129 _ (H129.out.eq (b := ((blk b10 #[.int .i64 (X : Int), .int .i64 (Y : Int)] 66 + (pts g (.map es clock) + blk b6 #[.int .i64 (WN : Int), .int .i64 (HN : Int), .slice A HN c] 51)) + MS.all w)) (by ac_rfl))).2.2,
                  (Hpv.out w129 _ (H129.out.eq (b := ((blk b10 #[.int .i64 (X : Int), .int .i64 (Y : Int)] 66 + (pts g (.map es clock) + blk b6 #[.int .i64 (WN : Int), .int .i64 (HN : Int), .slice A HN c] 51)) + MS.all w)) (by ac_rfl))).1,
                  (Hpv.out w129 _ (H129.out.eq (b := ((blk b10 #[.int .i64 (X : Int), .int .i64 (Y : Int)] 66 + (pts g (.map es clock) + blk b6 #[.int .i64 (WN : Int), .int .i64 (HN : Int), .slice A HN c] 51)) + MS.all w)) (by ac_rfl))).2⟩
              refine ⟨_, rfl, fun _ => hS, ?_⟩
              simp only [Act.put, List.setIfInBounds_toArray, List.set_cons_zero, List.set_cons_succ]
              clear k129
              repeat (first
                | (refine txt_off hS rfl rfl ?_; simp only [Act.put, List.setIfInBounds_toArray, List.set_cons_zero, List.set_cons_succ])
                | (refine txt_quiet ?_ hS rfl rfl (fun W hW => ?_) ?_
                   rotate_left 1
                   · obtain ⟨hW1, hW2, hW3, hW4, hW5, hW6, hW7, hW8, hW9⟩ := hW
                     go_simp
                     exact rfl
                   simp only [Act.put, List.setIfInBounds_toArray, List.set_cons_zero, List.set_cons_succ]))
              clear hq
              refine txt_done ?_
              try simp only [Act.put]
              clear hS
              clear hjw hrdE
              clear hord he e0 e1 hpv hbc
              have x0 := (H129.out.eq (b := (blk b6 #[.int .i64 (WN : Int), .int .i64 (HN : Int), .slice A HN c] 51 + (blk b10 #[.int .i64 (X : Int), .int .i64 (Y : Int)] 66 + (pts g (.map es clock) + MS.all w)))) (by ac_rfl)).at_ (i := 0) rfl
              have x1 := (H129.out.eq (b := (blk b6 #[.int .i64 (WN : Int), .int .i64 (HN : Int), .slice A HN c] 51 + (blk b10 #[.int .i64 (X : Int), .int .i64 (Y : Int)] 66 + (pts g (.map es clock) + MS.all w)))) (by ac_rfl)).at_ (i := 1) rfl
              have x2 := (H129.out.eq (b := (blk b6 #[.int .i64 (WN : Int), .int .i64 (HN : Int), .slice A HN c] 51 + (blk b10 #[.int .i64 (X : Int), .int .i64 (Y : Int)] 66 + (pts g (.map es clock) + MS.all w)))) (by ac_rfl)).at_ (i := 2) rfl
              have x3 := (H129.out.eq (b := (blk b10 #[.int .i64 (X : Int), .int .i64 (Y : Int)] 66 + (pts g (.map es clock) + (blk b6 #[.int .i64 (WN : Int), .int .i64 (HN : Int), .slice A HN c] 51 + MS.all w)))) (by ac_rfl)).at_ (i := 0) rfl
              have x4 := (H129.out.eq (b := (blk b10 #[.int .i64 (X : Int), .int .i64 (Y : Int)] 66 + (pts g (.map es clock) + (blk b6 #[.int .i64 (WN : Int), .int .i64 (HN : Int), .slice A HN c] 51 + MS.all w)))) (by ac_rfl)).at_ (i := 1) rfl
              go_wp2_with (go_at_call 39; refine (Hnb.out X Y hXW hYH w129 ((H129.out.eq (b := ((blk b10 #[.int .i64 (X : Int), .int .i64 (Y : Int)] 66 + (pts g (.map es clock) + blk b6 #[.int .i64 (WN : Int), .int .i64 (HN : Int), .slice A HN c] 51)) + MS.all w)) (by ac_rfl)).right)).mono ?_; rintro e81 w81 ⟨v9, m9, rfl, hC9, k81, l81⟩; have H81 := hid (k81 _ H129.out); have E81 := hid (E129.out.trans l81); clear k81 l81; obtain ⟨A9, c9, rfl, _⟩ := SlR.form hC9; have HC9 := hid hC9; clear x0 x1 x2 x3 x4 hC9)
              obtain ⟨nk, hnk⟩ : ∃ nk, nk = (nbrsL p ((X : Int), (Y : Int))).length := ⟨_, rfl⟩
              have hnk4 : nk ≤ 4 := by rw [hnk]; exact nbrsK_len p _ 4
              rw [← hnk] at HC9 ⊢
              have Hnk := hid hnk
              clear hnk
              go_loopw [62] (fun v62 wq => ∃ (k : Nat) (esk : Array MapEntry) (clockk : Nat), k ≤ nk ∧ v62 = .int .i64 k ∧ EntsAre (mapL (((nbrsL p ((X : Int), (Y : Int))).take k).foldl insN (nearL p (t.take (j + 1))))) esk clockk ∧ Has wq (pts g (.map esk clockk) + (blk b6 #[.int .i64 (WN : Int), .int .i64 (HN : Int), .slice A HN c] 51 + (m9 + (blk b10 #[.int .i64 (X : Int), .int .i64 (Y : Int)] 66 + MS.all w)))) ∧ Ext w wq) (fun v _ => nk - (intOf v).toNat)
              case atStart => exact ⟨0, es, clock, Nat.zero_le _, rfl, HS.out, H81.out.eq (b := pts g (.map es clock) + (blk b6 #[.int .i64 (WN : Int), .int .i64 (HN : Int), .slice A HN c] 51 + (m9 + (blk b10 #[.int .i64 (X : Int), .int .i64 (Y : Int)] 66 + MS.all w)))) (by ac_rfl), E81.out⟩
              case round =>
                obtain ⟨k, esk, clockk, hk, rfl, hSk, hWk, hEk⟩ := hrel
                have HSk := hid hSk
                have HWk := hid hWk
                have HEk := hid hEk
                clear hSk hWk hEk
                by_cases hlk : k < nk
                · have hlkI : (k : Int) < nk := by omega
                  have Hk := hid hlk
                  obtain ⟨q, hqk⟩ : ∃ q, (nbrsL p ((X : Int), (Y : Int)))[k]? = some q := ⟨_, List.getElem?_eq_getElem (by rw [← Hnk.out]; exact hlk)⟩
                  have hfm := fold_more1 (acc := nearL p (t.take (j + 1))) hqk
                  obtain ⟨bn, on, hBn, n0, n1⟩ := HC9.out.rd.getCl hqk
                  have Hsm := hid (Hnbin.out X Y q (List.mem_of_getElem? hqk))
                  subst hBn
                  have y0 := n0.c0 (HWk.out.eq (b := m9 + (pts g (.map esk clockk) + (blk b6 #[.int .i64 (WN : Int), .int .i64 (HN : Int), .slice A HN c] 51 + (blk b10 #[.int .i64 (X : Int), .int .i64 (Y : Int)] 66 + MS.all w)))) (by ac_rfl)).left
                  have y1 := n1.c0 (HWk.out.eq (b := m9 + (pts g (.map esk clockk) + (blk b6 #[.int .i64 (WN : Int), .int .i64 (HN : Int), .slice A HN c] 51 + (blk b10 #[.int .i64 (X : Int), .int .i64 (Y : Int)] 66 + MS.all w)))) (by ac_rfl)).left
                  obtain ⟨qx, qy⟩ := q
                  simp only at y0 y1
                  have Hfm := hid hfm
                  clear hlk hk hqk n0 n1 hfm
                  obtain ⟨b12, hb12⟩ : ∃ b12, b12 = wr.heap.size := ⟨_, rfl⟩; have HAb12 := hid (show Has (wr.alloc (.cells #[.int .i64 0, .int .i64 0] 66)) (blk b12 #[.int .i64 0, .int .i64 0] 66 + (pts g (.map esk clockk) + (blk b6 #[.int .i64 (WN : Int), .int .i64 (HN : Int), .slice A HN c] 51 + (m9 + (blk b10 #[.int .i64 (X : Int), .int .i64 (Y : Int)] 66 + MS.all w))))) by rw [hb12]; exact HWk.out.alloc _); have Hb12 := hid hb12; clear hb12
                  go_wp2_with (first
                    | (refine wpList_putM pair66 und83 rfl (.tmp 66) (.tmp 67) (.const (.bool true)) (.inl rfl) g rfl (qx, qy) rfl (.bool true) rfl HSk.out Hsm.out _ (H121.out.eq (b := (pts g (.map esk clockk) + (blk b12 #[.int .i64 qx, .int .i64 qy] 66 + (blk b6 #[.int .i64 (WN : Int), .int .i64 (HN : Int), .slice A HN c] 51 + (m9 + (blk b10 #[.int .i64 (X : Int), .int .i64 (Y : Int)] 66 + MS.all w)))))) (by ac_rfl)) ?_; intro es5 clock5 w5 z1' z2' z3'; have S5 := hid z1'; have H5 := hid z2'; have E5 := hid (E121.out.trans z3'); clear z1' z2' z3' z0 z1)
                    | (rw [← Hb12.out]; refine wpList_store_whole rfl (.tmp 12) (.tmp 65) 66 rfl 2 size66 b12 (.agg #[.int .i64 qx, .int .i64 qy]) rfl rfl rfl (by simp [Value.cells, Value.oneCell']) #[.int .i64 0, .int .i64 0] 66 _ HAb12.out rfl ?_; intro w121 j1 j2; have H121 := hid (show Has w121 (blk b12 #[.int .i64 qx, .int .i64 qy] 66 + (pts g (.map esk clockk) + (blk b6 #[.int .i64 (WN : Int), .int .i64 (HN : Int), .slice A HN c] 51 + (m9 + (blk b10 #[.int .i64 (X : Int), .int .i64 (Y : Int)] 66 + MS.all w))))) from j1.eq (by unfold blk; ac_rfl)); have E121 := hid ((HEk.out.trans (Ext.alloc _ _)).trans j2); clear j1 j2; clear y0 y1; have z0 := (H121.out.eq (b := (blk b12 #[.int .i64 qx, .int .i64 qy] 66 + (pts g (.map esk clockk) + (blk b6 #[.int .i64 (WN : Int), .int .i64 (HN : Int), .slice A HN c] 51 + (m9 + (blk b10 #[.int .i64 (X : Int), .int .i64 (Y : Int)] 66 + MS.all w)))))) (by ac_rfl)).at_ (i := 0) rfl; have z1 := (H121.out.eq (b := (blk b12 #[.int .i64 qx, .int .i64 qy] 66 + (pts g (.map esk clockk) + (blk b6 #[.int .i64 (WN : Int), .int .i64 (HN : Int), .slice A HN c] 51 + (m9 + (blk b10 #[.int .i64 (X : Int), .int .i64 (Y : Int)] 66 + MS.all w)))))) (by ac_rfl)).at_ (i := 1) rfl))
                  go_roundw
                  case rel => exact ⟨k + 1, es5, clock5, Hk.out, by go_num, by rw [Hfm.out, ← mapL_ins]; exact S5.out, H5.out.eq (b := (pts g (.map es5 clock5) + (blk b6 #[.int .i64 (WN : Int), .int .i64 (HN : Int), .slice A HN c] 51 + (m9 + (blk b10 #[.int .i64 (X : Int), .int .i64 (Y : Int)] 66 + MS.all w)))) + blk b12 #[.int .i64 qx, .int .i64 qy] 66) (by ac_rfl) |>.left, E5.out⟩
                  case measure => have := Hk.out; simp [intOf]; omega
                · have hke : k = nk := by omega
                  subst hke
                  clear hlk hk
                  have htk : (nbrsL p ((X : Int), (Y : Int))).take k = nbrsL p ((X : Int), (Y : Int)) := List.take_of_length_le (by rw [Hnk.out]; exact Nat.le_refl _)
                  have HS2 := hid (show EntsAre (mapL (nearL p (t.take ((j + 1) + 1)))) esk clockk from by
                    rw [hnm.out]
                    have h := HSk.out
                    rw [htk] at h
                    exact h)
                  clear htk
                  go_wp2
                  go_roundw
                  case rel => exact ⟨(j + 1) + 1, esk, clockk, Hlt.out, by go_num, HS2.out, Hnext.out, hznext.out hz0, HWk.out.eq (b := (pts g (.map esk clockk) + (blk b6 #[.int .i64 (WN : Int), .int .i64 (HN : Int), .slice A HN c] 51 + MS.all w)) + (m9 + blk b10 #[.int .i64 (X : Int), .int .i64 (Y : Int)] 66)) (by ac_rfl) |>.left, HEk.out⟩
                  case measure => have := Hlt.out; simp [intOf]; omega
        | false =>
          have hcc : (blackB ((X : Int), (Y : Int)) == blackB ((X0 : Int), (Y0 : Int))) = false := by rw [← hb0e]; exact hbc
          clear hb0e
          have hno := hid (show R = false by
            rw [HR.out, Hmore.out]
            unfold okR
            rw [hbc]; simp)
          have hS : (fun W' : World => W'.cell? ⟨b6, 0, none⟩ = some (.int .i64 (WN : Int)) ∧ W'.cell? ⟨b6, 1, none⟩ = some (.int .i64 (HN : Int)) ∧ W'.cell? ⟨b6, 2, none⟩ = some (.slice A HN c) ∧ W'.cell? ⟨b10, 0, none⟩ = some (.int .i64 (X : Int)) ∧ W'.cell? ⟨b10, 1, none⟩ = some (.int .i64 (Y : Int)) ∧ W'.cell? ⟨bt, ot, none⟩ = some (.int .i64 (X0 : Int)) ∧ W'.cell? ⟨bt, ot + 1, none⟩ = some (.int .i64 (Y0 : Int))) w41.drew := ⟨(H41.out.eq (b := (blk b6 #[.int .i64 (WN : Int), .int .i64 (HN : Int), .slice A HN c] 51 + (blk b10 #[.int .i64 (X : Int), .int .i64 (Y : Int)] 66 + (pts g (.map es clock) + MS.all w)))) (by ac_rfl)).at_ (i := 0) rfl,
              (H41.out.eq (b := (blk b6 #[.int .i64 (WN : Int), .int .i64 (HN : Int), .slice A HN c] 51 + (blk b10 #[.int .i64 (X : Int), .int .i64 (Y : Int)] 66 + (pts g (.map es clock) + MS.all w)))) (by ac_rfl)).at_ (i := 1) rfl,
              (H41.out.eq (b := (blk b6 #[.int .i64 (WN : Int), .int .i64 (HN : Int), .slice A HN c] 51 + (blk b10 #[.int .i64 (X : Int), .int .i64 (Y : Int)] 66 + (pts g (.map es clock) + MS.all w)))) (by ac_rfl)).at_ (i := 2) rfl,
              (H41.out.eq (b := (blk b10 #[.int .i64 (X : Int), .int .i64 (Y : Int)] 66 + (pts g (.map es clock) + (blk b6 #[.int .i64 (WN : Int), .int .i64 (HN : Int), .slice A HN c] 51 + MS.all w)))) (by ac_rfl)).at_ (i := 0) rfl,
              (H41.out.eq (b := (blk b10 #[.int .i64 (X : Int), .int .i64 (Y : Int)] 66 + (pts g (.map es clock) + (blk b6 #[.int .i64 (WN : Int), .int .i64 (HN : Int), .slice A HN c] 51 + MS.all w)))) (by ac_rfl)).at_ (i := 1) rfl,
              (HaT.out w41 _ (H41.out.eq (b := ((blk b10 #[.int .i64 (X : Int), .int .i64 (Y : Int)] 66 + (pts g (.map es clock) + blk b6 #[.int .i64 (WN : Int), .int .i64 (HN : Int), .slice A HN c] 51)) + MS.all w)) (by ac_rfl))).2.1,
              (HaT.out w41 _ (H41.out.eq (b := ((blk b10 #[.int .i64 (X : Int), .int .i64 (Y : Int)] 66 + (pts g (.map es clock) + blk b6 #[.int .i64 (WN : Int), .int .i64 (HN : Int), .slice A HN c] 51)) + MS.all w)) (by ac_rfl))).2.2⟩
          refine wp_region_txt (fun W' => W'.cell? ⟨b6, 0, none⟩ = some (.int .i64 (WN : Int)) ∧ W'.cell? ⟨b6, 1, none⟩ = some (.int .i64 (HN : Int)) ∧ W'.cell? ⟨b6, 2, none⟩ = some (.slice A HN c) ∧ W'.cell? ⟨b10, 0, none⟩ = some (.int .i64 (X : Int)) ∧ W'.cell? ⟨b10, 1, none⟩ = some (.int .i64 (Y : Int)) ∧ W'.cell? ⟨bt, ot, none⟩ = some (.int .i64 (X0 : Int)) ∧ W'.cell? ⟨bt, ot + 1, none⟩ = some (.int .i64 (Y0 : Int))) none
            [(0, true), (1, true), (2, true), (3, true), (4, true), (5, false), (6, true), (7, true), (8, true), (10, true), (11, true), (12, true), (9, false), (13, false), (14, true), (15, true), (16, true), (17, true), (18, true), (19, true), (20, true), (21, true), (22, true), (23, true), (24, true), (25, true), (26, true), (27, true), (28, true), (29, true)] (by kernel_rfl) rfl (by kernel_rfl) (by kernel_rfl) (by repeat (first | with_reducible refine PanicOk.thn ?_ | with_reducible refine PanicOk.blk ?_ | exact PanicOk.body _ _ _)) ?_
          repeat (first
            | (refine txt_off hS rfl rfl ?_; simp only [Act.put, List.setIfInBounds_toArray, List.set_cons_zero, List.set_cons_succ])
            | (refine txt_quiet ?_ hS rfl rfl (fun W hW => ?_) ?_
               rotate_left 1
               · obtain ⟨hW1, hW2, hW3, hW4, hW5, hW6, hW7⟩ := hW
                 go_simp
                 exact rfl
               simp only [Act.put, List.setIfInBounds_toArray, List.set_cons_zero, List.set_cons_succ]))
          refine txt_op rfl rfl ?_
          have hq := Hhas.out w41.drew ((H41.out.eq (b := ((blk b10 #[.int .i64 (X : Int), .int .i64 (Y : Int)] 66 + (pts g (.map es clock) + blk b6 #[.int .i64 (WN : Int), .int .i64 (HN : Int), .slice A HN c] 51)) + MS.all w)) (by ac_rfl)).right) (X : Int) (Y : Int)
          rw [hha] at hq
          refine op_call 47 _ _ (by go_simp) _ (hq) ?_
          rintro e123 w123 ⟨rfl, k123⟩
          have H123 := hid (k123.1 _ H41.out.drew)
          have E123 := hid ((E41.out.trans (Ext.drew _)).trans k123.2)
          clear hS
          have hS : (fun W' : World => W'.cell? ⟨b6, 0, none⟩ = some (.int .i64 (WN : Int)) ∧ W'.cell? ⟨b6, 1, none⟩ = some (.int .i64 (HN : Int)) ∧ W'.cell? ⟨b6, 2, none⟩ = some (.slice A HN c) ∧ W'.cell? ⟨b10, 0, none⟩ = some (.int .i64 (X : Int)) ∧ W'.cell? ⟨b10, 1, none⟩ = some (.int .i64 (Y : Int)) ∧ W'.cell? ⟨bt, ot, none⟩ = some (.int .i64 (X0 : Int)) ∧ W'.cell? ⟨bt, ot + 1, none⟩ = some (.int .i64 (Y0 : Int))) w123 := ⟨(H123.out.eq (b := (blk b6 #[.int .i64 (WN : Int), .int .i64 (HN : Int), .slice A HN c] 51 + (blk b10 #[.int .i64 (X : Int), .int .i64 (Y : Int)] 66 + (pts g (.map es clock) + MS.all w)))) (by ac_rfl)).at_ (i := 0) rfl,
              (H123.out.eq (b := (blk b6 #[.int .i64 (WN : Int), .int .i64 (HN : Int), .slice A HN c] 51 + (blk b10 #[.int .i64 (X : Int), .int .i64 (Y : Int)] 66 + (pts g (.map es clock) + MS.all w)))) (by ac_rfl)).at_ (i := 1) rfl,
              (H123.out.eq (b := (blk b6 #[.int .i64 (WN : Int), .int .i64 (HN : Int), .slice A HN c] 51 + (blk b10 #[.int .i64 (X : Int), .int .i64 (Y : Int)] 66 + (pts g (.map es clock) + MS.all w)))) (by ac_rfl)).at_ (i := 2) rfl,
              (H123.out.eq (b := (blk b10 #[.int .i64 (X : Int), .int .i64 (Y : Int)] 66 + (pts g (.map es clock) + (blk b6 #[.int .i64 (WN : Int), .int .i64 (HN : Int), .slice A HN c] 51 + MS.all w)))) (by ac_rfl)).at_ (i := 0) rfl,
              (H123.out.eq (b := (blk b10 #[.int .i64 (X : Int), .int .i64 (Y : Int)] 66 + (pts g (.map es clock) + (blk b6 #[.int .i64 (WN : Int), .int .i64 (HN : Int), .slice A HN c] 51 + MS.all w)))) (by ac_rfl)).at_ (i := 1) rfl,
              (HaT.out w123 _ (H123.out.eq (b := ((blk b10 #[.int .i64 (X : Int), .int .i64 (Y : Int)] 66 + (pts g (.map es clock) + blk b6 #[.int .i64 (WN : Int), .int .i64 (HN : Int), .slice A HN c] 51)) + MS.all w)) (by ac_rfl))).2.1,
              (HaT.out w123 _ (H123.out.eq (b := ((blk b10 #[.int .i64 (X : Int), .int .i64 (Y : Int)] 66 + (pts g (.map es clock) + blk b6 #[.int .i64 (WN : Int), .int .i64 (HN : Int), .slice A HN c] 51)) + MS.all w)) (by ac_rfl))).2.2⟩
          refine ⟨_, rfl, fun _ => hS, ?_⟩
          simp only [Act.put, List.setIfInBounds_toArray, List.set_cons_zero, List.set_cons_succ]
          clear k123
          repeat (first
            | (refine txt_off hS rfl rfl ?_; simp only [Act.put, List.setIfInBounds_toArray, List.set_cons_zero, List.set_cons_succ])
            | (refine txt_quiet ?_ hS rfl rfl (fun W hW => ?_) ?_
               rotate_left 1
               · obtain ⟨hW1, hW2, hW3, hW4, hW5, hW6, hW7⟩ := hW
                 go_simp
                 exact rfl
               simp only [Act.put, List.setIfInBounds_toArray, List.set_cons_zero, List.set_cons_succ]))
          clear hq
          refine txt_op rfl rfl ?_
          refine op_call 38 _ _ (by go_simp) _ ((by have h := Hblk.out X Y hXW hYH w123; exact h : Calls Tryd.prog 38 #[.agg #[.int .i64 (X : Int), .int .i64 (Y : Int)]] w123 fun e w' => e = .returned (.bool (blackB ((X : Int), (Y : Int)))) ∧ Kp w123 w')) ?_
          rintro e124 w124 ⟨rfl, k124⟩
          have H124 := hid (k124.1 _ H123.out)
          have E124 := hid (E123.out.trans k124.2)
          clear hS
          have hS : (fun W' : World => W'.cell? ⟨b6, 0, none⟩ = some (.int .i64 (WN : Int)) ∧ W'.cell? ⟨b6, 1, none⟩ = some (.int .i64 (HN : Int)) ∧ W'.cell? ⟨b6, 2, none⟩ = some (.slice A HN c) ∧ W'.cell? ⟨b10, 0, none⟩ = some (.int .i64 (X : Int)) ∧ W'.cell? ⟨b10, 1, none⟩ = some (.int .i64 (Y : Int)) ∧ W'.cell? ⟨bt, ot, none⟩ = some (.int .i64 (X0 : Int)) ∧ W'.cell? ⟨bt, ot + 1, none⟩ = some (.int .i64 (Y0 : Int))) w124 := ⟨(H124.out.eq (b := (blk b6 #[.int .i64 (WN : Int), .int .i64 (HN : Int), .slice A HN c] 51 + (blk b10 #[.int .i64 (X : Int), .int .i64 (Y : Int)] 66 + (pts g (.map es clock) + MS.all w)))) (by ac_rfl)).at_ (i := 0) rfl,
              (H124.out.eq (b := (blk b6 #[.int .i64 (WN : Int), .int .i64 (HN : Int), .slice A HN c] 51 + (blk b10 #[.int .i64 (X : Int), .int .i64 (Y : Int)] 66 + (pts g (.map es clock) + MS.all w)))) (by ac_rfl)).at_ (i := 1) rfl,
              (H124.out.eq (b := (blk b6 #[.int .i64 (WN : Int), .int .i64 (HN : Int), .slice A HN c] 51 + (blk b10 #[.int .i64 (X : Int), .int .i64 (Y : Int)] 66 + (pts g (.map es clock) + MS.all w)))) (by ac_rfl)).at_ (i := 2) rfl,
              (H124.out.eq (b := (blk b10 #[.int .i64 (X : Int), .int .i64 (Y : Int)] 66 + (pts g (.map es clock) + (blk b6 #[.int .i64 (WN : Int), .int .i64 (HN : Int), .slice A HN c] 51 + MS.all w)))) (by ac_rfl)).at_ (i := 0) rfl,
              (H124.out.eq (b := (blk b10 #[.int .i64 (X : Int), .int .i64 (Y : Int)] 66 + (pts g (.map es clock) + (blk b6 #[.int .i64 (WN : Int), .int .i64 (HN : Int), .slice A HN c] 51 + MS.all w)))) (by ac_rfl)).at_ (i := 1) rfl,
              (HaT.out w124 _ (H124.out.eq (b := ((blk b10 #[.int .i64 (X : Int), .int .i64 (Y : Int)] 66 + (pts g (.map es clock) + blk b6 #[.int .i64 (WN : Int), .int .i64 (HN : Int), .slice A HN c] 51)) + MS.all w)) (by ac_rfl))).2.1,
              (HaT.out w124 _ (H124.out.eq (b := ((blk b10 #[.int .i64 (X : Int), .int .i64 (Y : Int)] 66 + (pts g (.map es clock) + blk b6 #[.int .i64 (WN : Int), .int .i64 (HN : Int), .slice A HN c] 51)) + MS.all w)) (by ac_rfl))).2.2⟩
          refine ⟨_, rfl, fun _ => hS, ?_⟩
          simp only [Act.put, List.setIfInBounds_toArray, List.set_cons_zero, List.set_cons_succ]
          clear k124
          repeat (first
            | (refine txt_off hS rfl rfl ?_; simp only [Act.put, List.setIfInBounds_toArray, List.set_cons_zero, List.set_cons_succ])
            | (refine txt_quiet ?_ hS rfl rfl (fun W hW => ?_) ?_
               rotate_left 1
               · obtain ⟨hW1, hW2, hW3, hW4, hW5, hW6, hW7⟩ := hW
                 go_simp
                 exact rfl
               simp only [Act.put, List.setIfInBounds_toArray, List.set_cons_zero, List.set_cons_succ]))
          refine txt_op rfl rfl ?_
          refine op_call 38 _ _ (by go_simp) _ ((by have h := Hblk.out X0 Y0 hX0 hY0 w124; exact h : Calls Tryd.prog 38 #[.agg #[.int .i64 (X0 : Int), .int .i64 (Y0 : Int)]] w124 fun e w' => e = .returned (.bool (blackB ((X0 : Int), (Y0 : Int)))) ∧ Kp w124 w')) ?_
          rintro e125 w125 ⟨rfl, k125⟩
          have H125 := hid (k125.1 _ H124.out)
          have E125 := hid (E124.out.trans k125.2)
          clear hS
          have hS : (fun W' : World => W'.cell? ⟨b6, 0, none⟩ = some (.int .i64 (WN : Int)) ∧ W'.cell? ⟨b6, 1, none⟩ = some (.int .i64 (HN : Int)) ∧ W'.cell? ⟨b6, 2, none⟩ = some (.slice A HN c) ∧ W'.cell? ⟨b10, 0, none⟩ = some (.int .i64 (X : Int)) ∧ W'.cell? ⟨b10, 1, none⟩ = some (.int .i64 (Y : Int)) ∧ W'.cell? ⟨bt, ot, none⟩ = some (.int .i64 (X0 : Int)) ∧ W'.cell? ⟨bt, ot + 1, none⟩ = some (.int .i64 (Y0 : Int))) w125 := ⟨(H125.out.eq (b := (blk b6 #[.int .i64 (WN : Int), .int .i64 (HN : Int), .slice A HN c] 51 + (blk b10 #[.int .i64 (X : Int), .int .i64 (Y : Int)] 66 + (pts g (.map es clock) + MS.all w)))) (by ac_rfl)).at_ (i := 0) rfl,
              (H125.out.eq (b := (blk b6 #[.int .i64 (WN : Int), .int .i64 (HN : Int), .slice A HN c] 51 + (blk b10 #[.int .i64 (X : Int), .int .i64 (Y : Int)] 66 + (pts g (.map es clock) + MS.all w)))) (by ac_rfl)).at_ (i := 1) rfl,
              (H125.out.eq (b := (blk b6 #[.int .i64 (WN : Int), .int .i64 (HN : Int), .slice A HN c] 51 + (blk b10 #[.int .i64 (X : Int), .int .i64 (Y : Int)] 66 + (pts g (.map es clock) + MS.all w)))) (by ac_rfl)).at_ (i := 2) rfl,
              (H125.out.eq (b := (blk b10 #[.int .i64 (X : Int), .int .i64 (Y : Int)] 66 + (pts g (.map es clock) + (blk b6 #[.int .i64 (WN : Int), .int .i64 (HN : Int), .slice A HN c] 51 + MS.all w)))) (by ac_rfl)).at_ (i := 0) rfl,
              (H125.out.eq (b := (blk b10 #[.int .i64 (X : Int), .int .i64 (Y : Int)] 66 + (pts g (.map es clock) + (blk b6 #[.int .i64 (WN : Int), .int .i64 (HN : Int), .slice A HN c] 51 + MS.all w)))) (by ac_rfl)).at_ (i := 1) rfl,
              (HaT.out w125 _ (H125.out.eq (b := ((blk b10 #[.int .i64 (X : Int), .int .i64 (Y : Int)] 66 + (pts g (.map es clock) + blk b6 #[.int .i64 (WN : Int), .int .i64 (HN : Int), .slice A HN c] 51)) + MS.all w)) (by ac_rfl))).2.1,
              (HaT.out w125 _ (H125.out.eq (b := ((blk b10 #[.int .i64 (X : Int), .int .i64 (Y : Int)] 66 + (pts g (.map es clock) + blk b6 #[.int .i64 (WN : Int), .int .i64 (HN : Int), .slice A HN c] 51)) + MS.all w)) (by ac_rfl))).2.2⟩
          refine ⟨_, rfl, fun _ => hS, ?_⟩
          simp only [Act.put, List.setIfInBounds_toArray, List.set_cons_zero, List.set_cons_succ]
          clear k125
          repeat (first
            | (refine txt_off hS rfl rfl ?_; simp only [Act.put, List.setIfInBounds_toArray, List.set_cons_zero, List.set_cons_succ])
            | (refine txt_quiet ?_ hS rfl rfl (fun W hW => ?_) ?_
               rotate_left 1
               · obtain ⟨hW1, hW2, hW3, hW4, hW5, hW6, hW7⟩ := hW
                 go_simp
                 exact rfl
               simp only [Act.put, List.setIfInBounds_toArray, List.set_cons_zero, List.set_cons_succ]))
          refine txt_done ?_
          try simp only [Act.put]
          clear hS
          go_wp2
          go_ret2
          exact ⟨by first | rfl | (rw [hno.out]; rfl), fun M hM => hM.of_all (H125.out.eq (b := ((blk b10 #[.int .i64 (X : Int), .int .i64 (Y : Int)] 66 + (pts g (.map es clock) + blk b6 #[.int .i64 (WN : Int), .int .i64 (HN : Int), .slice A HN c] 51)) + MS.all w)) (by ac_rfl)), E125.out⟩
    · have hie : i = TN := by omega
      subst hie
      obtain ⟨n, hn⟩ : ∃ n, n = (nearL p (t.take i)).length := ⟨_, rfl⟩
      have hfin := hid (show decide (n < i) = R by
        rw [HR.out, ← HRi.out, List.drop_eq_nil_iff.2 (by rw [HTN.out]; exact Nat.le_refl _)]
        have h1 : t.take i = t := List.take_of_length_le (by rw [HTN.out]; exact Nat.le_refl _)
        rw [h1] at hn
        rw [hn]
        simp [okL])
      have hlm := len_ents und83 HS.out HW.out.get (by rw [mapL_len]; have := Hnl.out i; omega)
      rw [mapL_len, ← hn] at hlm
      clear hlt hi hn
      by_cases hni : n < i
      · have hniI : (n : Int) < (i : Int) := by omega
        have hRt := hid (show R = true by rw [← hfin.out]; exact decide_eq_true hni)
        go_wp2
        go_ret2
        exact ⟨by rw [hRt.out]; first | rfl | (simp [hni]; done), fun M hM => hM.of_all (HW.out.eq (b := (pts g (.map es clock) + blk b6 #[.int .i64 (WN : Int), .int .i64 (HN : Int), .slice A HN c] 51) + MS.all w) (by ac_rfl)), HE.out⟩
      · have hniI : ¬ (n : Int) < (i : Int) := by omega
        have hRt := hid (show R = false by rw [← hfin.out]; exact decide_eq_false hni)
        go_wp2
        go_ret2
        exact ⟨by rw [hRt.out]; first | rfl | (simp [hni]; done), fun M hM => hM.of_all (HW.out.eq (b := (pts g (.map es clock) + blk b6 #[.int .i64 (WN : Int), .int .i64 (HN : Int), .slice A HN c] 51) + MS.all w) (by ac_rfl)), HE.out⟩
end Go.Proofs.YtcdhimnmbpllgaaDoor

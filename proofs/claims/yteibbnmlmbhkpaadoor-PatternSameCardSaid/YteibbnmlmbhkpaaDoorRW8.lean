/-
  The walk of the reference's look.
-/
import Derived.Test.YteibbnmlmbhkpaaDoorRW7
namespace Go.Proofs.YteibbnmlmbhkpaaDoor
open Go.RowKit
set_option linter.unusedVariables false
set_option linter.unusedSimpArgs false
set_option maxHeartbeats 2000000
set_option maxRecDepth 100000

/-- Moves as spread has them. -/
def In14 (m : Mv) : Prop := ∃ (k : Nat) (e f : Int), k < 8 ∧ (-14 ≤ e ∧ e ≤ 14) ∧ (-14 ≤ f ∧ f ≤ 14) ∧ m = knd k e f
theorem In14.ok {m : Mv} (h : In14 m) : OkM m := by
  obtain ⟨k, e, f, hk, he, hf, rfl⟩ := h
  exact okM_knd hk (by omega) (by omega)
theorem In14.kind {m : Mv} (h : In14 m) : ∃ k : Nat, k < 8 ∧ kindOf m = k := by
  obtain ⟨k, e, f, hk, he, hf, rfl⟩ := h
  exact ⟨k, hk, kindOf_knd k hk e f⟩
theorem In14.off {m : Mv} (h : In14 m) : (-14 ≤ m.e ∧ m.e ≤ 14) ∧ (-14 ≤ m.f ∧ m.f ≤ 14) := by
  obtain ⟨k, e, f, hk, he, hf, rfl⟩ := h
  exact ⟨he, hf⟩
theorem In14.cen {m : Mv} (h : In14 m) : (-28 ≤ cenX m ∧ cenX m ≤ 28) ∧ (-28 ≤ cenY m ∧ cenY m ≤ 28) := by
  have := h.off
  unfold cenX cenY
  constructor
  · split
    · omega
    · split <;> omega
  · split
    · omega
    · split <;> omega
/-- What look has gathered of a list. -/
structure GaOk (L l : List Mv) (o : Int) (fl mi a4 a5 a6 a7 al tu : Bool) : Prop where
  ho : o = ordOf l
  hfl : fl = l.any fun m => decide (4 ≤ kindOf m)
  hmi : mi = l.any isMir
  h4 : a4 = l.any fun m => kindOf m == 4 && isMir m
  h5 : a5 = l.any fun m => kindOf m == 5 && isMir m
  h6 : a6 = l.any fun m => kindOf m == 6 && isMir m
  h7 : a7 = l.any fun m => kindOf m == 7 && isMir m
  hal : al = !l.any fun m => kindOf m == 2 && (nearB (cenX m) (cenY m) && !onB L (cenX m) (cenY m))
  htu : tu = l.any fun m => (kindOf m == 1 || kindOf m == 3) && (nearB (cenX m) (cenY m) && onB L (cenX m) (cenY m))
theorem GaOk.start (L : List Mv) : GaOk L [] 1 false false false false false false true false := ⟨rfl, rfl, rfl, rfl, rfl, rfl, rfl, rfl, rfl⟩
def ordNext (o k : Int) : Int := if k = 1 ∨ k = 3 then 4 else if k = 2 then max o 2 else o
theorem ordOf_next (l : List Mv) (m : Mv) : ordOf (l ++ [m]) = ordNext (ordOf l) (kindOf m) := by
  unfold ordOf ordNext
  rw [List.any_append, List.any_append]
  simp only [List.any_cons, List.any_nil, Bool.or_false]
  by_cases h1 : kindOf m = 1
  · simp [h1]
  by_cases h3 : kindOf m = 3
  · simp [h3]
  have e1 : (kindOf m == 1) = false := by simp [h1]
  have e3 : (kindOf m == 3) = false := by simp [h3]
  rw [e1, e3]
  by_cases h2 : kindOf m = 2
  · rw [h2]
    cases (l.any fun m => kindOf m == 1 || kindOf m == 3) <;> cases (l.any fun m => kindOf m == 2) <;> simp <;> omega
  · have e2 : (kindOf m == 2) = false := by simp [h2]
    rw [e2]
    simp [h1, h2, h3]
theorem GaOk.step {L l : List Mv} {i : Nat} {m : Mv} {o : Int} {fl mi a4 a5 a6 a7 al tu : Bool} (h : GaOk L (l.take i) o fl mi a4 a5 a6 a7 al tu) (hm : l[i]? = some m) :
    GaOk L (l.take (i + 1)) (ordNext o (kindOf m)) (fl || decide (4 ≤ kindOf m)) (mi || isMir m) (a4 || (kindOf m == 4 && isMir m)) (a5 || (kindOf m == 5 && isMir m)) (a6 || (kindOf m == 6 && isMir m)) (a7 || (kindOf m == 7 && isMir m))
      (al && !(kindOf m == 2 && (nearB (cenX m) (cenY m) && !onB L (cenX m) (cenY m)))) (tu || ((kindOf m == 1 || kindOf m == 3) && (nearB (cenX m) (cenY m) && onB L (cenX m) (cenY m)))) := by
  obtain ⟨h1, h2, h3, h4, h5, h6, h7, h8, h9⟩ := h
  rw [take_more hm]
  refine ⟨?_, ?_, ?_, ?_, ?_, ?_, ?_, ?_, ?_⟩
  · rw [ordOf_next, ← h1]
  · rw [List.any_append, ← h2]; simp
  · rw [List.any_append, ← h3]; simp
  · rw [List.any_append, ← h4]; simp
  · rw [List.any_append, ← h5]; simp
  · rw [List.any_append, ← h6]; simp
  · rw [List.any_append, ← h7]; simp
  · rw [List.any_append, Bool.not_or, ← h8]; simp
  · rw [List.any_append, ← h9]; simp
theorem isMir_lt {m : Mv} (h : kindOf m < 4) : isMir m = false := by
  have h4 : (kindOf m == 4) = false := by rw [beq_eq_false_iff_ne]; omega
  have h5 : (kindOf m == 5) = false := by rw [beq_eq_false_iff_ne]; omega
  have h6 : (kindOf m == 6) = false := by rw [beq_eq_false_iff_ne]; omega
  have h7 : (kindOf m == 7) = false := by rw [beq_eq_false_iff_ne]; omega
  unfold isMir
  rw [h4, h5, h6, h7]; rfl
theorem size116 : (Tryd.prog.info? 116).map (·.size) = some 13 := by kernel_rfl
theorem ordOf_le (l : List Mv) : 1 ≤ ordOf l ∧ ordOf l ≤ 4 := by rcases ordOf_cases l with h | h | h <;> omega
theorem look_any {F : MS} {l : List Mv} {A : Option Addr} {c : Nat} {w : World} (hr : RdS F RT.mv l (.slice A l.length c)) (hl : l.length ≤ 1000000) (hm : ∀ m ∈ l, In14 m) (hH : Has w F) :
    Calls Tryd.prog 71 #[.slice A l.length c] w fun e w' => ∃ o fl mi a4 a5 a6 a7 al tu, GaOk l l o fl mi a4 a5 a6 a7 al tu ∧ e = .returned (.agg #[.int .i64 o, .bool fl, .bool mi, .bool false, .bool false, .bool false, .bool false, .bool a4, .bool a5, .bool a6, .bool a7, .bool al, .bool tu]) ∧ Kp w w' := by
  have Hr := hid hr
  have HH := hid hH
  have Hm := hid hm
  have hnc := hr.cells.2.1
  obtain ⟨N, hN⟩ : ∃ N, N = l.length := ⟨_, rfl⟩
  rw [← hN] at Hr hnc hl ⊢
  have HN := hid hN
  have hNI : (N : Int) ≤ 1000000 := by omega
  have Hon := hid (fun (x y : Int) (hx : -1000 ≤ x ∧ x ≤ 1000) (hy : -1000 ≤ y ∧ y ≤ 1000) (W : World) (hW : Has W F) => show Calls Tryd.prog 93 #[.slice A N c, .int .i64 x, .int .i64 y] W fun e w' => e = .returned (.bool (onB l x y)) ∧ Kp W w' from by
    have := onMirror_any hr (by omega) (fun m h => (hm m h).ok) x y hx hy hW
    rw [← hN] at this
    exact this)
  obtain ⟨Z, hZ⟩ : ∃ Z : Array Value, Z = #[.int .i64 0, .bool false, .bool false, .bool false, .bool false, .bool false, .bool false, .bool false, .bool false, .bool false, .bool false, .bool false, .bool false] := ⟨_, rfl⟩
  obtain ⟨gr, hgr⟩ : ∃ gr, gr = w.heap.size := ⟨_, rfl⟩
  obtain ⟨gb, hgb⟩ : ∃ gb, gb = gr + 1 := ⟨_, rfl⟩
  obtain ⟨W0, hW0⟩ : ∃ W0, W0 = (w.alloc (.cells Z 116)).alloc (.cells #[.int .i64 1, .bool false, .bool false, .bool false, .bool false, .bool false, .bool false, .bool false, .bool false, .bool false, .bool false, .bool true, .bool false] 116) := ⟨_, rfl⟩
  have HW0 := hid (show Has W0 (blk gb #[.int .i64 1, .bool false, .bool false, .bool false, .bool false, .bool false, .bool false, .bool false, .bool false, .bool false, .bool false, .bool true, .bool false] 116 + (blk gr Z 116 + MS.all w)) by
    have h1 : Has (w.alloc (.cells Z 116)) (blk gr Z 116 + MS.all w) := by rw [hgr]; exact (Has.all w).alloc _
    have h2 := h1.alloc (.cells #[.int .i64 1, .bool false, .bool false, .bool false, .bool false, .bool false, .bool false, .bool false, .bool false, .bool false, .bool false, .bool true, .bool false] 116)
    rw [show (w.alloc (.cells Z 116)).heap.size = gb by rw [hgb, hgr]; simp] at h2
    rw [hW0]; exact h2)
  have HE0 := hid (show Ext w W0 by rw [hW0]; exact (Ext.alloc w _).trans (Ext.alloc _ _))
  clear hr hH hm hN hl
  go_enter Tryd.func71, Tryd.ntmps71
  go_wp2
  rw [← hZ, ← hW0, ← hgr, ← hgb]
  clear hW0 hgb hgr
  obtain ⟨G, hG⟩ : ∃ G, G = blk gr Z 116 + MS.all w := ⟨_, rfl⟩
  have HF := hid (show ∀ W X, Has W (X + G) → Has W F from fun W X h => HH.out.of_all (X := X + blk gr Z 116) (by rw [hG] at h; exact h.eq (by ac_rfl)))
  have HKp := hid (show ∀ W X, Has W (X + G) → Ext w W → Kp w W from fun W X h hE => ⟨fun M hM => hM.of_all (X := X + blk gr Z 116) (by rw [hG] at h; exact h.eq (by ac_rfl)), hE⟩)
  have HB := hid (show ∀ W X, Has W (X + G) → Has W (blk gr #[.int .i64 0, .bool false, .bool false, .bool false, .bool false, .bool false, .bool false, .bool false, .bool false, .bool false, .bool false, .bool false, .bool false] 116 + (X + MS.all w)) from fun W X h => by rw [hG, hZ] at h; exact h.eq (by ac_rfl))
  have HK2 := hid (show ∀ W X, Has W (X + MS.all w) → Ext w W → Kp w W from fun W X h hE => ⟨fun M hM => hM.of_all h, hE⟩)
  rw [← hG] at HW0
  clear hG hZ
  go_loopw [4] (fun v wr => ∃ i : Nat, ∃ o fl mi a4 a5 a6 a7 al tu, i ≤ N ∧ v = .int .i64 i ∧ GaOk l (l.take i) o fl mi a4 a5 a6 a7 al tu ∧ Has wr (blk gb #[.int .i64 o, .bool fl, .bool mi, .bool false, .bool false, .bool false, .bool false, .bool a4, .bool a5, .bool a6, .bool a7, .bool al, .bool tu] 116 + G) ∧ Ext w wr) (fun v _ => N - (intOf v).toNat)
  case atStart => exact ⟨0, 1, false, false, false, false, false, false, true, false, Nat.zero_le _, rfl, GaOk.start l, HW0.out, HE0.out⟩
  case round =>
    obtain ⟨i, o, fl, mi, a4, a5, a6, a7, al, tu, hi, rfl, hGa, hW, hE⟩ := hrel
    have HGa := hid hGa
    have HW := hid hW
    have HE := hid hE
    clear hGa hW hE HW0 HE0
    by_cases hlt : i < N
    · have hltI : (i : Int) < N := by omega
      have Hlt := hid hlt
      obtain ⟨m, hm⟩ : ∃ m, l[i]? = some m := ⟨_, List.getElem?_eq_getElem (by have := HN.out; omega)⟩
      obtain ⟨b, o', hA, hcs⟩ := Hr.out.mvAt hm
      subst hA
      have Hcs := hid (fun W X (h : Has W (X + G)) => hcs W (HF.out W X h))
      have Hst := hid (HGa.out.step hm)
      have h14 := Hm.out m (List.mem_of_getElem? hm)
      obtain ⟨hcx, hcy⟩ := h14.cen
      obtain ⟨kn, hk8, hkk⟩ := h14.kind
      have Hkd := hid (fun W => refKindOf_any m W)
      have Hcen := hid (fun W => centre_any m W (by have := h14.off; omega) (by have := h14.off; omega))
      have Hmir := hid (fun W => mirror_any m W (by have := h14.off; omega) (by have := h14.off; omega))
      obtain ⟨x, hx⟩ : ∃ x, x = cenX m := ⟨_, rfl⟩
      obtain ⟨y, hy⟩ : ∃ y, y = cenY m := ⟨_, rfl⟩
      rw [← hx] at hcx
      rw [← hy] at hcy
      rw [← hx, ← hy] at Hcen Hst
      have Hnear := hid (fun W => near_any x y W)
      have Honx := hid (fun W hW => Hon.out x y (by omega) (by omega) W hW)
      obtain ⟨nb, hnb⟩ : ∃ nb, nb = nearB x y := ⟨_, rfl⟩
      obtain ⟨ob, hob⟩ : ∃ ob, ob = onB l x y := ⟨_, rfl⟩
      obtain ⟨mb, hmb⟩ : ∃ mb, mb = isMir m := ⟨_, rfl⟩
      rw [← hnb] at Hnear Hst
      rw [← hob] at Honx Hst
      rw [← hmb] at Hmir Hst
      rw [hkk] at Hkd Hst
      have Hmlt := hid (show kindOf m < 4 → mb = false from fun h => by rw [hmb, isMir_lt h])
      rw [hkk] at Hmlt
      have Ho := hid (show 1 ≤ o ∧ o ≤ 4 by rw [HGa.out.ho]; exact ordOf_le _)
      have HNc : N ≤ c := hnc
      obtain ⟨n0, n1, n2, n3, n4, n5⟩ := Hcs.out wr _ HW.out
      clear hcs hm h14 hkk hx hy hnb hob hmb hcx hcy hlt hi
      obtain ⟨ma, mb', mc, md, me, mf⟩ := m
      try simp only at n0 n1 n2 n3 n4 n5
      rcases k8_cases hk8 with rfl | rfl | rfl | rfl | rfl | rfl | rfl | rfl
      · obtain rfl : mb = false := Hmlt.out (by omega)
        go_wp2_with (first
          | (go_at_call 23; refine (Hkd.out _).mono ?_; rintro e1 w1 ⟨rfl, k1⟩; have K1 := hid (k1.1 _ HW.out); have E1 := hid (HE.out.trans k1.2); clear k1; obtain ⟨p0, p1, p2, p3, p4, p5⟩ := Hcs.out w1 _ K1.out; try simp only at p0 p1 p2 p3 p4 p5)
          | (go_at_call 91; refine (Hcen.out _).mono ?_; rintro e2 w2 ⟨rfl, k2⟩; have K2 := hid (k2.1 _ K1.out); have E2 := hid (E1.out.trans k2.2); clear k2; have z0 : w2.cell? ⟨gb, 0, none⟩ = some (.int .i64 o) := K2.out.at_ rfl; obtain ⟨r0, r1, r2, r3, r4, r5⟩ := Hcs.out w2 _ K2.out; try simp only at r0 r1 r2 r3 r4 r5))
        go_roundw
        case rel => exact ⟨i + 1, o, fl, mi, a4, a5, a6, a7, al, tu, Hlt.out, by go_num, by have := Hst.out; simpa [ordNext] using this, K2.out, E2.out⟩
        case measure => have := Hlt.out; simp [intOf]; omega
      · obtain rfl : mb = false := Hmlt.out (by omega)
        cases tu with
        | true =>
          go_wp2_with (first
            | (go_at_call 23; refine (Hkd.out _).mono ?_; rintro e1 w1 ⟨rfl, k1⟩; have K1 := hid (k1.1 _ HW.out); have E1 := hid (HE.out.trans k1.2); clear k1; obtain ⟨p0, p1, p2, p3, p4, p5⟩ := Hcs.out w1 _ K1.out; try simp only at p0 p1 p2 p3 p4 p5)
            | (go_at_call 91; refine (Hcen.out _).mono ?_; rintro e2 w2 ⟨rfl, k2⟩; have K2 := hid (k2.1 _ K1.out); have E2 := hid (E1.out.trans k2.2); clear k2; have z0 : w2.cell? ⟨gb, 0, none⟩ = some (.int .i64 o) := K2.out.at_ rfl; obtain ⟨r0, r1, r2, r3, r4, r5⟩ := Hcs.out w2 _ K2.out; try simp only at r0 r1 r2 r3 r4 r5)
            | (refine wpList_store_blk rfl (.tmp 35) (.const (.int .i64 4)) 3 rfl size3 gb 0 (.int .i64 4) rfl rfl rfl #[.int .i64 o, .bool fl, .bool mi, .bool false, .bool false, .bool false, .bool false, .bool a4, .bool a5, .bool a6, .bool a7, .bool al, .bool true] 116 _ K2.out (by simp) ?_; intro w3 j1 j2; have K3 := hid (show Has w3 (blk gb #[.int .i64 4, .bool fl, .bool mi, .bool false, .bool false, .bool false, .bool false, .bool a4, .bool a5, .bool a6, .bool a7, .bool al, .bool true] 116 + G) from j1); have E3 := hid (E2.out.trans j2); clear j1 j2; have y12 : w3.cell? ⟨gb, 12, none⟩ = some (.bool true) := K3.out.at_ rfl)
            | (refine wpList_store_blk rfl (.tmp 49) (.tmp 48) 4 rfl size4 gb 12 (.bool true) rfl rfl rfl #[.int .i64 4, .bool fl, .bool mi, .bool false, .bool false, .bool false, .bool false, .bool a4, .bool a5, .bool a6, .bool a7, .bool al, .bool true] 116 _ K3.out (by simp) ?_; intro w4 j1 j2; have K4 := hid (show Has w4 (blk gb #[.int .i64 4, .bool fl, .bool mi, .bool false, .bool false, .bool false, .bool false, .bool a4, .bool a5, .bool a6, .bool a7, .bool al, .bool true] 116 + G) from j1); have E4 := hid (E3.out.trans j2); clear j1 j2))
          go_roundw
          case rel => exact ⟨i + 1, 4, fl, mi, a4, a5, a6, a7, al, true, Hlt.out, by go_num, by have := Hst.out; simpa [ordNext] using this, K4.out, E4.out⟩
          case measure => have := Hlt.out; simp [intOf]; omega
        | false =>
          cases nb with
          | false =>
            go_wp2_with (first
              | (go_at_call 23; refine (Hkd.out _).mono ?_; rintro e1 w1 ⟨rfl, k1⟩; have K1 := hid (k1.1 _ HW.out); have E1 := hid (HE.out.trans k1.2); clear k1; obtain ⟨p0, p1, p2, p3, p4, p5⟩ := Hcs.out w1 _ K1.out; try simp only at p0 p1 p2 p3 p4 p5)
              | (go_at_call 91; refine (Hcen.out _).mono ?_; rintro e2 w2 ⟨rfl, k2⟩; have K2 := hid (k2.1 _ K1.out); have E2 := hid (E1.out.trans k2.2); clear k2; have z0 : w2.cell? ⟨gb, 0, none⟩ = some (.int .i64 o) := K2.out.at_ rfl; obtain ⟨r0, r1, r2, r3, r4, r5⟩ := Hcs.out w2 _ K2.out; try simp only at r0 r1 r2 r3 r4 r5)
              | (go_at_call 92; refine (Hnear.out _).mono ?_; rintro e5 w5 ⟨rfl, rfl⟩)
              | (refine wpList_store_blk rfl (.tmp 35) (.const (.int .i64 4)) 3 rfl size3 gb 0 (.int .i64 4) rfl rfl rfl #[.int .i64 o, .bool fl, .bool mi, .bool false, .bool false, .bool false, .bool false, .bool a4, .bool a5, .bool a6, .bool a7, .bool al, .bool false] 116 _ K2.out (by simp) ?_; intro w3 j1 j2; have K3 := hid (show Has w3 (blk gb #[.int .i64 4, .bool fl, .bool mi, .bool false, .bool false, .bool false, .bool false, .bool a4, .bool a5, .bool a6, .bool a7, .bool al, .bool false] 116 + G) from j1); have E3 := hid (E2.out.trans j2); clear j1 j2; have y12 : w3.cell? ⟨gb, 12, none⟩ = some (.bool false) := K3.out.at_ rfl)
              | (refine wpList_store_blk rfl (.tmp 49) (.tmp 48) 4 rfl size4 gb 12 (.bool false) rfl rfl rfl #[.int .i64 4, .bool fl, .bool mi, .bool false, .bool false, .bool false, .bool false, .bool a4, .bool a5, .bool a6, .bool a7, .bool al, .bool false] 116 _ K3.out (by simp) ?_; intro w4 j1 j2; have K4 := hid (show Has w4 (blk gb #[.int .i64 4, .bool fl, .bool mi, .bool false, .bool false, .bool false, .bool false, .bool a4, .bool a5, .bool a6, .bool a7, .bool al, .bool false] 116 + G) from j1); have E4 := hid (E3.out.trans j2); clear j1 j2))
            go_roundw
            case rel => exact ⟨i + 1, 4, fl, mi, a4, a5, a6, a7, al, false, Hlt.out, by go_num, by have := Hst.out; simpa [ordNext] using this, K4.out, E4.out⟩
            case measure => have := Hlt.out; simp [intOf]; omega
          | true =>
            go_wp2_with (first
              | (go_at_call 23; refine (Hkd.out _).mono ?_; rintro e1 w1 ⟨rfl, k1⟩; have K1 := hid (k1.1 _ HW.out); have E1 := hid (HE.out.trans k1.2); clear k1; obtain ⟨p0, p1, p2, p3, p4, p5⟩ := Hcs.out w1 _ K1.out; try simp only at p0 p1 p2 p3 p4 p5)
              | (go_at_call 91; refine (Hcen.out _).mono ?_; rintro e2 w2 ⟨rfl, k2⟩; have K2 := hid (k2.1 _ K1.out); have E2 := hid (E1.out.trans k2.2); clear k2; have z0 : w2.cell? ⟨gb, 0, none⟩ = some (.int .i64 o) := K2.out.at_ rfl; obtain ⟨r0, r1, r2, r3, r4, r5⟩ := Hcs.out w2 _ K2.out; try simp only at r0 r1 r2 r3 r4 r5)
              | (go_at_call 92; refine (Hnear.out _).mono ?_; rintro e5 w5 ⟨rfl, rfl⟩)
              | (go_at_call 93; refine (Honx.out _ (HF.out _ _ K3.out)).mono ?_; rintro e6 w6 ⟨rfl, k6⟩; have K6 := hid (k6.1 _ K3.out); have E6 := hid (E3.out.trans k6.2); clear k6)
              | (refine wpList_store_blk rfl (.tmp 35) (.const (.int .i64 4)) 3 rfl size3 gb 0 (.int .i64 4) rfl rfl rfl #[.int .i64 o, .bool fl, .bool mi, .bool false, .bool false, .bool false, .bool false, .bool a4, .bool a5, .bool a6, .bool a7, .bool al, .bool false] 116 _ K2.out (by simp) ?_; intro w3 j1 j2; have K3 := hid (show Has w3 (blk gb #[.int .i64 4, .bool fl, .bool mi, .bool false, .bool false, .bool false, .bool false, .bool a4, .bool a5, .bool a6, .bool a7, .bool al, .bool false] 116 + G) from j1); have E3 := hid (E2.out.trans j2); clear j1 j2; have y12 : w3.cell? ⟨gb, 12, none⟩ = some (.bool false) := K3.out.at_ rfl)
              | (refine wpList_store_blk rfl (.tmp 49) (.tmp 48) 4 rfl size4 gb 12 (.bool ob) rfl rfl rfl #[.int .i64 4, .bool fl, .bool mi, .bool false, .bool false, .bool false, .bool false, .bool a4, .bool a5, .bool a6, .bool a7, .bool al, .bool false] 116 _ K6.out (by simp) ?_; intro w4 j1 j2; have K4 := hid (show Has w4 (blk gb #[.int .i64 4, .bool fl, .bool mi, .bool false, .bool false, .bool false, .bool false, .bool a4, .bool a5, .bool a6, .bool a7, .bool al, .bool ob] 116 + G) from j1); have E4 := hid (E6.out.trans j2); clear j1 j2))
            go_roundw
            case rel => exact ⟨i + 1, 4, fl, mi, a4, a5, a6, a7, al, ob, Hlt.out, by go_num, by have := Hst.out; simpa [ordNext] using this, K4.out, E4.out⟩
            case measure => have := Hlt.out; simp [intOf]; omega
      · obtain rfl : mb = false := Hmlt.out (by omega)
        obtain ⟨o2, ho2⟩ : ∃ o2, o2 = max o 2 := ⟨_, rfl⟩
        have Ho2 := hid ho2
        have hmx : (if o < 2 then (2 : Int) else o) = o2 := by rw [ho2]; omega
        have hmx2 : (if 2 ≤ o then o else (2 : Int)) = o2 := by rw [ho2]; omega
        have hmx3 : (if o ≤ 2 then (2 : Int) else o) = o2 := by rw [ho2]; omega
        have hmx4 : max o 2 = o2 := ho2.symm
        clear ho2
        cases nb with
        | false =>
          go_wp2_with (first
            | (go_at_call 23; refine (Hkd.out _).mono ?_; rintro e1 w1 ⟨rfl, k1⟩; have K1 := hid (k1.1 _ HW.out); have E1 := hid (HE.out.trans k1.2); clear k1; obtain ⟨p0, p1, p2, p3, p4, p5⟩ := Hcs.out w1 _ K1.out; try simp only at p0 p1 p2 p3 p4 p5)
            | (go_at_call 91; refine (Hcen.out _).mono ?_; rintro e2 w2 ⟨rfl, k2⟩; have K2 := hid (k2.1 _ K1.out); have E2 := hid (E1.out.trans k2.2); clear k2; have z0 : w2.cell? ⟨gb, 0, none⟩ = some (.int .i64 o) := K2.out.at_ rfl; obtain ⟨r0, r1, r2, r3, r4, r5⟩ := Hcs.out w2 _ K2.out; try simp only at r0 r1 r2 r3 r4 r5)
            | (go_at_call 92; refine (Hnear.out _).mono ?_; rintro e5 w5 ⟨rfl, rfl⟩)
            | (refine wpList_store_blk rfl (.tmp 56) (.tmp 55) 3 rfl size3 gb 0 (.int .i64 o2) rfl rfl rfl #[.int .i64 o, .bool fl, .bool mi, .bool false, .bool false, .bool false, .bool false, .bool a4, .bool a5, .bool a6, .bool a7, .bool al, .bool tu] 116 _ K2.out (by simp) ?_; intro w3 j1 j2; have K3 := hid (show Has w3 (blk gb #[.int .i64 o2, .bool fl, .bool mi, .bool false, .bool false, .bool false, .bool false, .bool a4, .bool a5, .bool a6, .bool a7, .bool al, .bool tu] 116 + G) from j1); have E3 := hid (E2.out.trans j2); clear j1 j2))
          go_roundw
          case rel => exact ⟨i + 1, o2, fl, mi, a4, a5, a6, a7, al, tu, Hlt.out, by go_num, by have := Hst.out; simpa [ordNext, Ho2.out] using this, K3.out, E3.out⟩
          case measure => have := Hlt.out; simp [intOf]; omega
        | true =>
          cases ob with
          | true =>
            go_wp2_with (first
              | (go_at_call 23; refine (Hkd.out _).mono ?_; rintro e1 w1 ⟨rfl, k1⟩; have K1 := hid (k1.1 _ HW.out); have E1 := hid (HE.out.trans k1.2); clear k1; obtain ⟨p0, p1, p2, p3, p4, p5⟩ := Hcs.out w1 _ K1.out; try simp only at p0 p1 p2 p3 p4 p5)
              | (go_at_call 91; refine (Hcen.out _).mono ?_; rintro e2 w2 ⟨rfl, k2⟩; have K2 := hid (k2.1 _ K1.out); have E2 := hid (E1.out.trans k2.2); clear k2; have z0 : w2.cell? ⟨gb, 0, none⟩ = some (.int .i64 o) := K2.out.at_ rfl; obtain ⟨r0, r1, r2, r3, r4, r5⟩ := Hcs.out w2 _ K2.out; try simp only at r0 r1 r2 r3 r4 r5)
              | (go_at_call 92; refine (Hnear.out _).mono ?_; rintro e5 w5 ⟨rfl, rfl⟩)
              | (go_at_call 93; refine (Honx.out _ (HF.out _ _ K3.out)).mono ?_; rintro e6 w6 ⟨rfl, k6⟩; have K6 := hid (k6.1 _ K3.out); have E6 := hid (E3.out.trans k6.2); clear k6)
              | (refine wpList_store_blk rfl (.tmp 56) (.tmp 55) 3 rfl size3 gb 0 (.int .i64 o2) rfl rfl rfl #[.int .i64 o, .bool fl, .bool mi, .bool false, .bool false, .bool false, .bool false, .bool a4, .bool a5, .bool a6, .bool a7, .bool al, .bool tu] 116 _ K2.out (by simp) ?_; intro w3 j1 j2; have K3 := hid (show Has w3 (blk gb #[.int .i64 o2, .bool fl, .bool mi, .bool false, .bool false, .bool false, .bool false, .bool a4, .bool a5, .bool a6, .bool a7, .bool al, .bool tu] 116 + G) from j1); have E3 := hid (E2.out.trans j2); clear j1 j2))
            go_roundw
            case rel => exact ⟨i + 1, o2, fl, mi, a4, a5, a6, a7, al, tu, Hlt.out, by go_num, by have := Hst.out; simpa [ordNext, Ho2.out] using this, K6.out, E6.out⟩
            case measure => have := Hlt.out; simp [intOf]; omega
          | false =>
            go_wp2_with (first
              | (go_at_call 23; refine (Hkd.out _).mono ?_; rintro e1 w1 ⟨rfl, k1⟩; have K1 := hid (k1.1 _ HW.out); have E1 := hid (HE.out.trans k1.2); clear k1; obtain ⟨p0, p1, p2, p3, p4, p5⟩ := Hcs.out w1 _ K1.out; try simp only at p0 p1 p2 p3 p4 p5)
              | (go_at_call 91; refine (Hcen.out _).mono ?_; rintro e2 w2 ⟨rfl, k2⟩; have K2 := hid (k2.1 _ K1.out); have E2 := hid (E1.out.trans k2.2); clear k2; have z0 : w2.cell? ⟨gb, 0, none⟩ = some (.int .i64 o) := K2.out.at_ rfl; obtain ⟨r0, r1, r2, r3, r4, r5⟩ := Hcs.out w2 _ K2.out; try simp only at r0 r1 r2 r3 r4 r5)
              | (go_at_call 92; refine (Hnear.out _).mono ?_; rintro e5 w5 ⟨rfl, rfl⟩)
              | (go_at_call 93; refine (Honx.out _ (HF.out _ _ K3.out)).mono ?_; rintro e6 w6 ⟨rfl, k6⟩; have K6 := hid (k6.1 _ K3.out); have E6 := hid (E3.out.trans k6.2); clear k6)
              | (refine wpList_store_blk rfl (.tmp 56) (.tmp 55) 3 rfl size3 gb 0 (.int .i64 o2) rfl rfl rfl #[.int .i64 o, .bool fl, .bool mi, .bool false, .bool false, .bool false, .bool false, .bool a4, .bool a5, .bool a6, .bool a7, .bool al, .bool tu] 116 _ K2.out (by simp) ?_; intro w3 j1 j2; have K3 := hid (show Has w3 (blk gb #[.int .i64 o2, .bool fl, .bool mi, .bool false, .bool false, .bool false, .bool false, .bool a4, .bool a5, .bool a6, .bool a7, .bool al, .bool tu] 116 + G) from j1); have E3 := hid (E2.out.trans j2); clear j1 j2)
              | (refine wpList_store_blk rfl (.tmp 67) (.const (.bool false)) 4 rfl size4 gb 11 (.bool false) rfl rfl rfl #[.int .i64 o2, .bool fl, .bool mi, .bool false, .bool false, .bool false, .bool false, .bool a4, .bool a5, .bool a6, .bool a7, .bool al, .bool tu] 116 _ K6.out (by simp) ?_; intro w7 j1 j2; have K7 := hid (show Has w7 (blk gb #[.int .i64 o2, .bool fl, .bool mi, .bool false, .bool false, .bool false, .bool false, .bool a4, .bool a5, .bool a6, .bool a7, .bool false, .bool tu] 116 + G) from j1); have E7 := hid (E6.out.trans j2); clear j1 j2))
            go_roundw
            case rel => exact ⟨i + 1, o2, fl, mi, a4, a5, a6, a7, false, tu, Hlt.out, by go_num, by have := Hst.out; simpa [ordNext, Ho2.out] using this, K7.out, E7.out⟩
            case measure => have := Hlt.out; simp [intOf]; omega
      · obtain rfl : mb = false := Hmlt.out (by omega)
        cases tu with
        | true =>
          go_wp2_with (first
            | (go_at_call 23; refine (Hkd.out _).mono ?_; rintro e1 w1 ⟨rfl, k1⟩; have K1 := hid (k1.1 _ HW.out); have E1 := hid (HE.out.trans k1.2); clear k1; obtain ⟨p0, p1, p2, p3, p4, p5⟩ := Hcs.out w1 _ K1.out; try simp only at p0 p1 p2 p3 p4 p5)
            | (go_at_call 91; refine (Hcen.out _).mono ?_; rintro e2 w2 ⟨rfl, k2⟩; have K2 := hid (k2.1 _ K1.out); have E2 := hid (E1.out.trans k2.2); clear k2; have z0 : w2.cell? ⟨gb, 0, none⟩ = some (.int .i64 o) := K2.out.at_ rfl; obtain ⟨r0, r1, r2, r3, r4, r5⟩ := Hcs.out w2 _ K2.out; try simp only at r0 r1 r2 r3 r4 r5)
            | (refine wpList_store_blk rfl (.tmp 35) (.const (.int .i64 4)) 3 rfl size3 gb 0 (.int .i64 4) rfl rfl rfl #[.int .i64 o, .bool fl, .bool mi, .bool false, .bool false, .bool false, .bool false, .bool a4, .bool a5, .bool a6, .bool a7, .bool al, .bool true] 116 _ K2.out (by simp) ?_; intro w3 j1 j2; have K3 := hid (show Has w3 (blk gb #[.int .i64 4, .bool fl, .bool mi, .bool false, .bool false, .bool false, .bool false, .bool a4, .bool a5, .bool a6, .bool a7, .bool al, .bool true] 116 + G) from j1); have E3 := hid (E2.out.trans j2); clear j1 j2; have y12 : w3.cell? ⟨gb, 12, none⟩ = some (.bool true) := K3.out.at_ rfl)
            | (refine wpList_store_blk rfl (.tmp 49) (.tmp 48) 4 rfl size4 gb 12 (.bool true) rfl rfl rfl #[.int .i64 4, .bool fl, .bool mi, .bool false, .bool false, .bool false, .bool false, .bool a4, .bool a5, .bool a6, .bool a7, .bool al, .bool true] 116 _ K3.out (by simp) ?_; intro w4 j1 j2; have K4 := hid (show Has w4 (blk gb #[.int .i64 4, .bool fl, .bool mi, .bool false, .bool false, .bool false, .bool false, .bool a4, .bool a5, .bool a6, .bool a7, .bool al, .bool true] 116 + G) from j1); have E4 := hid (E3.out.trans j2); clear j1 j2))
          go_roundw
          case rel => exact ⟨i + 1, 4, fl, mi, a4, a5, a6, a7, al, true, Hlt.out, by go_num, by have := Hst.out; simpa [ordNext] using this, K4.out, E4.out⟩
          case measure => have := Hlt.out; simp [intOf]; omega
        | false =>
          cases nb with
          | false =>
            go_wp2_with (first
              | (go_at_call 23; refine (Hkd.out _).mono ?_; rintro e1 w1 ⟨rfl, k1⟩; have K1 := hid (k1.1 _ HW.out); have E1 := hid (HE.out.trans k1.2); clear k1; obtain ⟨p0, p1, p2, p3, p4, p5⟩ := Hcs.out w1 _ K1.out; try simp only at p0 p1 p2 p3 p4 p5)
              | (go_at_call 91; refine (Hcen.out _).mono ?_; rintro e2 w2 ⟨rfl, k2⟩; have K2 := hid (k2.1 _ K1.out); have E2 := hid (E1.out.trans k2.2); clear k2; have z0 : w2.cell? ⟨gb, 0, none⟩ = some (.int .i64 o) := K2.out.at_ rfl; obtain ⟨r0, r1, r2, r3, r4, r5⟩ := Hcs.out w2 _ K2.out; try simp only at r0 r1 r2 r3 r4 r5)
              | (go_at_call 92; refine (Hnear.out _).mono ?_; rintro e5 w5 ⟨rfl, rfl⟩)
              | (refine wpList_store_blk rfl (.tmp 35) (.const (.int .i64 4)) 3 rfl size3 gb 0 (.int .i64 4) rfl rfl rfl #[.int .i64 o, .bool fl, .bool mi, .bool false, .bool false, .bool false, .bool false, .bool a4, .bool a5, .bool a6, .bool a7, .bool al, .bool false] 116 _ K2.out (by simp) ?_; intro w3 j1 j2; have K3 := hid (show Has w3 (blk gb #[.int .i64 4, .bool fl, .bool mi, .bool false, .bool false, .bool false, .bool false, .bool a4, .bool a5, .bool a6, .bool a7, .bool al, .bool false] 116 + G) from j1); have E3 := hid (E2.out.trans j2); clear j1 j2; have y12 : w3.cell? ⟨gb, 12, none⟩ = some (.bool false) := K3.out.at_ rfl)
              | (refine wpList_store_blk rfl (.tmp 49) (.tmp 48) 4 rfl size4 gb 12 (.bool false) rfl rfl rfl #[.int .i64 4, .bool fl, .bool mi, .bool false, .bool false, .bool false, .bool false, .bool a4, .bool a5, .bool a6, .bool a7, .bool al, .bool false] 116 _ K3.out (by simp) ?_; intro w4 j1 j2; have K4 := hid (show Has w4 (blk gb #[.int .i64 4, .bool fl, .bool mi, .bool false, .bool false, .bool false, .bool false, .bool a4, .bool a5, .bool a6, .bool a7, .bool al, .bool false] 116 + G) from j1); have E4 := hid (E3.out.trans j2); clear j1 j2))
            go_roundw
            case rel => exact ⟨i + 1, 4, fl, mi, a4, a5, a6, a7, al, false, Hlt.out, by go_num, by have := Hst.out; simpa [ordNext] using this, K4.out, E4.out⟩
            case measure => have := Hlt.out; simp [intOf]; omega
          | true =>
            go_wp2_with (first
              | (go_at_call 23; refine (Hkd.out _).mono ?_; rintro e1 w1 ⟨rfl, k1⟩; have K1 := hid (k1.1 _ HW.out); have E1 := hid (HE.out.trans k1.2); clear k1; obtain ⟨p0, p1, p2, p3, p4, p5⟩ := Hcs.out w1 _ K1.out; try simp only at p0 p1 p2 p3 p4 p5)
              | (go_at_call 91; refine (Hcen.out _).mono ?_; rintro e2 w2 ⟨rfl, k2⟩; have K2 := hid (k2.1 _ K1.out); have E2 := hid (E1.out.trans k2.2); clear k2; have z0 : w2.cell? ⟨gb, 0, none⟩ = some (.int .i64 o) := K2.out.at_ rfl; obtain ⟨r0, r1, r2, r3, r4, r5⟩ := Hcs.out w2 _ K2.out; try simp only at r0 r1 r2 r3 r4 r5)
              | (go_at_call 92; refine (Hnear.out _).mono ?_; rintro e5 w5 ⟨rfl, rfl⟩)
              | (go_at_call 93; refine (Honx.out _ (HF.out _ _ K3.out)).mono ?_; rintro e6 w6 ⟨rfl, k6⟩; have K6 := hid (k6.1 _ K3.out); have E6 := hid (E3.out.trans k6.2); clear k6)
              | (refine wpList_store_blk rfl (.tmp 35) (.const (.int .i64 4)) 3 rfl size3 gb 0 (.int .i64 4) rfl rfl rfl #[.int .i64 o, .bool fl, .bool mi, .bool false, .bool false, .bool false, .bool false, .bool a4, .bool a5, .bool a6, .bool a7, .bool al, .bool false] 116 _ K2.out (by simp) ?_; intro w3 j1 j2; have K3 := hid (show Has w3 (blk gb #[.int .i64 4, .bool fl, .bool mi, .bool false, .bool false, .bool false, .bool false, .bool a4, .bool a5, .bool a6, .bool a7, .bool al, .bool false] 116 + G) from j1); have E3 := hid (E2.out.trans j2); clear j1 j2; have y12 : w3.cell? ⟨gb, 12, none⟩ = some (.bool false) := K3.out.at_ rfl)
              | (refine wpList_store_blk rfl (.tmp 49) (.tmp 48) 4 rfl size4 gb 12 (.bool ob) rfl rfl rfl #[.int .i64 4, .bool fl, .bool mi, .bool false, .bool false, .bool false, .bool false, .bool a4, .bool a5, .bool a6, .bool a7, .bool al, .bool false] 116 _ K6.out (by simp) ?_; intro w4 j1 j2; have K4 := hid (show Has w4 (blk gb #[.int .i64 4, .bool fl, .bool mi, .bool false, .bool false, .bool false, .bool false, .bool a4, .bool a5, .bool a6, .bool a7, .bool al, .bool ob] 116 + G) from j1); have E4 := hid (E6.out.trans j2); clear j1 j2))
            go_roundw
            case rel => exact ⟨i + 1, 4, fl, mi, a4, a5, a6, a7, al, ob, Hlt.out, by go_num, by have := Hst.out; simpa [ordNext] using this, K4.out, E4.out⟩
            case measure => have := Hlt.out; simp [intOf]; omega
      · cases mb with
        | false =>
          go_wp2_with (first
            | (go_at_call 23; refine (Hkd.out _).mono ?_; rintro e1 w1 ⟨rfl, k1⟩; have K1 := hid (k1.1 _ HW.out); have E1 := hid (HE.out.trans k1.2); clear k1; obtain ⟨p0, p1, p2, p3, p4, p5⟩ := Hcs.out w1 _ K1.out; try simp only at p0 p1 p2 p3 p4 p5)
            | (go_at_call 91; refine (Hcen.out _).mono ?_; rintro e2 w2 ⟨rfl, k2⟩; have K2 := hid (k2.1 _ K1.out); have E2 := hid (E1.out.trans k2.2); clear k2; have z0 : w2.cell? ⟨gb, 0, none⟩ = some (.int .i64 o) := K2.out.at_ rfl; obtain ⟨r0, r1, r2, r3, r4, r5⟩ := Hcs.out w2 _ K2.out; try simp only at r0 r1 r2 r3 r4 r5)
            | (refine wpList_store_blk rfl (.tmp 71) (.const (.bool true)) 4 rfl size4 gb 1 (.bool true) rfl rfl rfl #[.int .i64 o, .bool fl, .bool mi, .bool false, .bool false, .bool false, .bool false, .bool a4, .bool a5, .bool a6, .bool a7, .bool al, .bool tu] 116 _ K2.out (by simp) ?_; intro w3 j1 j2; have K3 := hid (show Has w3 (blk gb #[.int .i64 o, .bool true, .bool mi, .bool false, .bool false, .bool false, .bool false, .bool a4, .bool a5, .bool a6, .bool a7, .bool al, .bool tu] 116 + G) from j1); have E3 := hid (E2.out.trans j2); clear j1 j2; obtain ⟨s0, s1, s2, s3, s4, s5⟩ := Hcs.out w3 _ K3.out; try simp only at s0 s1 s2 s3 s4 s5)
            | (go_at_call 94; refine (Hmir.out _).mono ?_; rintro e5 w5 ⟨rfl, k5⟩; have K5 := hid (k5.1 _ K3.out); have E5 := hid (E3.out.trans k5.2); clear k5))
          go_roundw
          case rel => exact ⟨i + 1, o, true, mi, a4, a5, a6, a7, al, tu, Hlt.out, by go_num, by have := Hst.out; simpa [ordNext] using this, K5.out, E5.out⟩
          case measure => have := Hlt.out; simp [intOf]; omega
        | true =>
          go_wp2_with (first
            | (go_at_call 23; refine (Hkd.out _).mono ?_; rintro e1 w1 ⟨rfl, k1⟩; have K1 := hid (k1.1 _ HW.out); have E1 := hid (HE.out.trans k1.2); clear k1; obtain ⟨p0, p1, p2, p3, p4, p5⟩ := Hcs.out w1 _ K1.out; try simp only at p0 p1 p2 p3 p4 p5)
            | (go_at_call 91; refine (Hcen.out _).mono ?_; rintro e2 w2 ⟨rfl, k2⟩; have K2 := hid (k2.1 _ K1.out); have E2 := hid (E1.out.trans k2.2); clear k2; have z0 : w2.cell? ⟨gb, 0, none⟩ = some (.int .i64 o) := K2.out.at_ rfl; obtain ⟨r0, r1, r2, r3, r4, r5⟩ := Hcs.out w2 _ K2.out; try simp only at r0 r1 r2 r3 r4 r5)
            | (refine wpList_store_blk rfl (.tmp 71) (.const (.bool true)) 4 rfl size4 gb 1 (.bool true) rfl rfl rfl #[.int .i64 o, .bool fl, .bool mi, .bool false, .bool false, .bool false, .bool false, .bool a4, .bool a5, .bool a6, .bool a7, .bool al, .bool tu] 116 _ K2.out (by simp) ?_; intro w3 j1 j2; have K3 := hid (show Has w3 (blk gb #[.int .i64 o, .bool true, .bool mi, .bool false, .bool false, .bool false, .bool false, .bool a4, .bool a5, .bool a6, .bool a7, .bool al, .bool tu] 116 + G) from j1); have E3 := hid (E2.out.trans j2); clear j1 j2; obtain ⟨s0, s1, s2, s3, s4, s5⟩ := Hcs.out w3 _ K3.out; try simp only at s0 s1 s2 s3 s4 s5)
            | (go_at_call 94; refine (Hmir.out _).mono ?_; rintro e5 w5 ⟨rfl, k5⟩; have K5 := hid (k5.1 _ K3.out); have E5 := hid (E3.out.trans k5.2); clear k5)
            | (refine wpList_store_blk rfl (.tmp 77) (.const (.bool true)) 4 rfl size4 gb 2 (.bool true) rfl rfl rfl #[.int .i64 o, .bool true, .bool mi, .bool false, .bool false, .bool false, .bool false, .bool a4, .bool a5, .bool a6, .bool a7, .bool al, .bool tu] 116 _ K5.out (by simp) ?_; intro w6 j1 j2; have K6 := hid (show Has w6 (blk gb #[.int .i64 o, .bool true, .bool true, .bool false, .bool false, .bool false, .bool false, .bool a4, .bool a5, .bool a6, .bool a7, .bool al, .bool tu] 116 + G) from j1); have E6 := hid (E5.out.trans j2); clear j1 j2)
            | (refine wpList_store_blk rfl (.tmp 80) (.const (.bool true)) 4 rfl size4 gb 7 (.bool true) rfl rfl rfl #[.int .i64 o, .bool true, .bool true, .bool false, .bool false, .bool false, .bool false, .bool a4, .bool a5, .bool a6, .bool a7, .bool al, .bool tu] 116 _ K6.out (by simp) ?_; intro w7 j1 j2; have K7 := hid (show Has w7 (blk gb #[.int .i64 o, .bool true, .bool true, .bool false, .bool false, .bool false, .bool false, .bool true, .bool a5, .bool a6, .bool a7, .bool al, .bool tu] 116 + G) from j1); have E7 := hid (E6.out.trans j2); clear j1 j2))
          go_roundw
          case rel => exact ⟨i + 1, o, true, true, true, a5, a6, a7, al, tu, Hlt.out, by go_num, by have := Hst.out; simpa [ordNext] using this, K7.out, E7.out⟩
          case measure => have := Hlt.out; simp [intOf]; omega
      · cases mb with
        | false =>
          go_wp2_with (first
            | (go_at_call 23; refine (Hkd.out _).mono ?_; rintro e1 w1 ⟨rfl, k1⟩; have K1 := hid (k1.1 _ HW.out); have E1 := hid (HE.out.trans k1.2); clear k1; obtain ⟨p0, p1, p2, p3, p4, p5⟩ := Hcs.out w1 _ K1.out; try simp only at p0 p1 p2 p3 p4 p5)
            | (go_at_call 91; refine (Hcen.out _).mono ?_; rintro e2 w2 ⟨rfl, k2⟩; have K2 := hid (k2.1 _ K1.out); have E2 := hid (E1.out.trans k2.2); clear k2; have z0 : w2.cell? ⟨gb, 0, none⟩ = some (.int .i64 o) := K2.out.at_ rfl; obtain ⟨r0, r1, r2, r3, r4, r5⟩ := Hcs.out w2 _ K2.out; try simp only at r0 r1 r2 r3 r4 r5)
            | (refine wpList_store_blk rfl (.tmp 71) (.const (.bool true)) 4 rfl size4 gb 1 (.bool true) rfl rfl rfl #[.int .i64 o, .bool fl, .bool mi, .bool false, .bool false, .bool false, .bool false, .bool a4, .bool a5, .bool a6, .bool a7, .bool al, .bool tu] 116 _ K2.out (by simp) ?_; intro w3 j1 j2; have K3 := hid (show Has w3 (blk gb #[.int .i64 o, .bool true, .bool mi, .bool false, .bool false, .bool false, .bool false, .bool a4, .bool a5, .bool a6, .bool a7, .bool al, .bool tu] 116 + G) from j1); have E3 := hid (E2.out.trans j2); clear j1 j2; obtain ⟨s0, s1, s2, s3, s4, s5⟩ := Hcs.out w3 _ K3.out; try simp only at s0 s1 s2 s3 s4 s5)
            | (go_at_call 94; refine (Hmir.out _).mono ?_; rintro e5 w5 ⟨rfl, k5⟩; have K5 := hid (k5.1 _ K3.out); have E5 := hid (E3.out.trans k5.2); clear k5))
          go_roundw
          case rel => exact ⟨i + 1, o, true, mi, a4, a5, a6, a7, al, tu, Hlt.out, by go_num, by have := Hst.out; simpa [ordNext] using this, K5.out, E5.out⟩
          case measure => have := Hlt.out; simp [intOf]; omega
        | true =>
          go_wp2_with (first
            | (go_at_call 23; refine (Hkd.out _).mono ?_; rintro e1 w1 ⟨rfl, k1⟩; have K1 := hid (k1.1 _ HW.out); have E1 := hid (HE.out.trans k1.2); clear k1; obtain ⟨p0, p1, p2, p3, p4, p5⟩ := Hcs.out w1 _ K1.out; try simp only at p0 p1 p2 p3 p4 p5)
            | (go_at_call 91; refine (Hcen.out _).mono ?_; rintro e2 w2 ⟨rfl, k2⟩; have K2 := hid (k2.1 _ K1.out); have E2 := hid (E1.out.trans k2.2); clear k2; have z0 : w2.cell? ⟨gb, 0, none⟩ = some (.int .i64 o) := K2.out.at_ rfl; obtain ⟨r0, r1, r2, r3, r4, r5⟩ := Hcs.out w2 _ K2.out; try simp only at r0 r1 r2 r3 r4 r5)
            | (refine wpList_store_blk rfl (.tmp 71) (.const (.bool true)) 4 rfl size4 gb 1 (.bool true) rfl rfl rfl #[.int .i64 o, .bool fl, .bool mi, .bool false, .bool false, .bool false, .bool false, .bool a4, .bool a5, .bool a6, .bool a7, .bool al, .bool tu] 116 _ K2.out (by simp) ?_; intro w3 j1 j2; have K3 := hid (show Has w3 (blk gb #[.int .i64 o, .bool true, .bool mi, .bool false, .bool false, .bool false, .bool false, .bool a4, .bool a5, .bool a6, .bool a7, .bool al, .bool tu] 116 + G) from j1); have E3 := hid (E2.out.trans j2); clear j1 j2; obtain ⟨s0, s1, s2, s3, s4, s5⟩ := Hcs.out w3 _ K3.out; try simp only at s0 s1 s2 s3 s4 s5)
            | (go_at_call 94; refine (Hmir.out _).mono ?_; rintro e5 w5 ⟨rfl, k5⟩; have K5 := hid (k5.1 _ K3.out); have E5 := hid (E3.out.trans k5.2); clear k5)
            | (refine wpList_store_blk rfl (.tmp 77) (.const (.bool true)) 4 rfl size4 gb 2 (.bool true) rfl rfl rfl #[.int .i64 o, .bool true, .bool mi, .bool false, .bool false, .bool false, .bool false, .bool a4, .bool a5, .bool a6, .bool a7, .bool al, .bool tu] 116 _ K5.out (by simp) ?_; intro w6 j1 j2; have K6 := hid (show Has w6 (blk gb #[.int .i64 o, .bool true, .bool true, .bool false, .bool false, .bool false, .bool false, .bool a4, .bool a5, .bool a6, .bool a7, .bool al, .bool tu] 116 + G) from j1); have E6 := hid (E5.out.trans j2); clear j1 j2)
            | (refine wpList_store_blk rfl (.tmp 80) (.const (.bool true)) 4 rfl size4 gb 8 (.bool true) rfl rfl rfl #[.int .i64 o, .bool true, .bool true, .bool false, .bool false, .bool false, .bool false, .bool a4, .bool a5, .bool a6, .bool a7, .bool al, .bool tu] 116 _ K6.out (by simp) ?_; intro w7 j1 j2; have K7 := hid (show Has w7 (blk gb #[.int .i64 o, .bool true, .bool true, .bool false, .bool false, .bool false, .bool false, .bool a4, .bool true, .bool a6, .bool a7, .bool al, .bool tu] 116 + G) from j1); have E7 := hid (E6.out.trans j2); clear j1 j2))
          go_roundw
          case rel => exact ⟨i + 1, o, true, true, a4, true, a6, a7, al, tu, Hlt.out, by go_num, by have := Hst.out; simpa [ordNext] using this, K7.out, E7.out⟩
          case measure => have := Hlt.out; simp [intOf]; omega
      · cases mb with
        | false =>
          go_wp2_with (first
            | (go_at_call 23; refine (Hkd.out _).mono ?_; rintro e1 w1 ⟨rfl, k1⟩; have K1 := hid (k1.1 _ HW.out); have E1 := hid (HE.out.trans k1.2); clear k1; obtain ⟨p0, p1, p2, p3, p4, p5⟩ := Hcs.out w1 _ K1.out; try simp only at p0 p1 p2 p3 p4 p5)
            | (go_at_call 91; refine (Hcen.out _).mono ?_; rintro e2 w2 ⟨rfl, k2⟩; have K2 := hid (k2.1 _ K1.out); have E2 := hid (E1.out.trans k2.2); clear k2; have z0 : w2.cell? ⟨gb, 0, none⟩ = some (.int .i64 o) := K2.out.at_ rfl; obtain ⟨r0, r1, r2, r3, r4, r5⟩ := Hcs.out w2 _ K2.out; try simp only at r0 r1 r2 r3 r4 r5)
            | (refine wpList_store_blk rfl (.tmp 71) (.const (.bool true)) 4 rfl size4 gb 1 (.bool true) rfl rfl rfl #[.int .i64 o, .bool fl, .bool mi, .bool false, .bool false, .bool false, .bool false, .bool a4, .bool a5, .bool a6, .bool a7, .bool al, .bool tu] 116 _ K2.out (by simp) ?_; intro w3 j1 j2; have K3 := hid (show Has w3 (blk gb #[.int .i64 o, .bool true, .bool mi, .bool false, .bool false, .bool false, .bool false, .bool a4, .bool a5, .bool a6, .bool a7, .bool al, .bool tu] 116 + G) from j1); have E3 := hid (E2.out.trans j2); clear j1 j2; obtain ⟨s0, s1, s2, s3, s4, s5⟩ := Hcs.out w3 _ K3.out; try simp only at s0 s1 s2 s3 s4 s5)
            | (go_at_call 94; refine (Hmir.out _).mono ?_; rintro e5 w5 ⟨rfl, k5⟩; have K5 := hid (k5.1 _ K3.out); have E5 := hid (E3.out.trans k5.2); clear k5))
          go_roundw
          case rel => exact ⟨i + 1, o, true, mi, a4, a5, a6, a7, al, tu, Hlt.out, by go_num, by have := Hst.out; simpa [ordNext] using this, K5.out, E5.out⟩
          case measure => have := Hlt.out; simp [intOf]; omega
        | true =>
          go_wp2_with (first
            | (go_at_call 23; refine (Hkd.out _).mono ?_; rintro e1 w1 ⟨rfl, k1⟩; have K1 := hid (k1.1 _ HW.out); have E1 := hid (HE.out.trans k1.2); clear k1; obtain ⟨p0, p1, p2, p3, p4, p5⟩ := Hcs.out w1 _ K1.out; try simp only at p0 p1 p2 p3 p4 p5)
            | (go_at_call 91; refine (Hcen.out _).mono ?_; rintro e2 w2 ⟨rfl, k2⟩; have K2 := hid (k2.1 _ K1.out); have E2 := hid (E1.out.trans k2.2); clear k2; have z0 : w2.cell? ⟨gb, 0, none⟩ = some (.int .i64 o) := K2.out.at_ rfl; obtain ⟨r0, r1, r2, r3, r4, r5⟩ := Hcs.out w2 _ K2.out; try simp only at r0 r1 r2 r3 r4 r5)
            | (refine wpList_store_blk rfl (.tmp 71) (.const (.bool true)) 4 rfl size4 gb 1 (.bool true) rfl rfl rfl #[.int .i64 o, .bool fl, .bool mi, .bool false, .bool false, .bool false, .bool false, .bool a4, .bool a5, .bool a6, .bool a7, .bool al, .bool tu] 116 _ K2.out (by simp) ?_; intro w3 j1 j2; have K3 := hid (show Has w3 (blk gb #[.int .i64 o, .bool true, .bool mi, .bool false, .bool false, .bool false, .bool false, .bool a4, .bool a5, .bool a6, .bool a7, .bool al, .bool tu] 116 + G) from j1); have E3 := hid (E2.out.trans j2); clear j1 j2; obtain ⟨s0, s1, s2, s3, s4, s5⟩ := Hcs.out w3 _ K3.out; try simp only at s0 s1 s2 s3 s4 s5)
            | (go_at_call 94; refine (Hmir.out _).mono ?_; rintro e5 w5 ⟨rfl, k5⟩; have K5 := hid (k5.1 _ K3.out); have E5 := hid (E3.out.trans k5.2); clear k5)
            | (refine wpList_store_blk rfl (.tmp 77) (.const (.bool true)) 4 rfl size4 gb 2 (.bool true) rfl rfl rfl #[.int .i64 o, .bool true, .bool mi, .bool false, .bool false, .bool false, .bool false, .bool a4, .bool a5, .bool a6, .bool a7, .bool al, .bool tu] 116 _ K5.out (by simp) ?_; intro w6 j1 j2; have K6 := hid (show Has w6 (blk gb #[.int .i64 o, .bool true, .bool true, .bool false, .bool false, .bool false, .bool false, .bool a4, .bool a5, .bool a6, .bool a7, .bool al, .bool tu] 116 + G) from j1); have E6 := hid (E5.out.trans j2); clear j1 j2)
            | (refine wpList_store_blk rfl (.tmp 80) (.const (.bool true)) 4 rfl size4 gb 9 (.bool true) rfl rfl rfl #[.int .i64 o, .bool true, .bool true, .bool false, .bool false, .bool false, .bool false, .bool a4, .bool a5, .bool a6, .bool a7, .bool al, .bool tu] 116 _ K6.out (by simp) ?_; intro w7 j1 j2; have K7 := hid (show Has w7 (blk gb #[.int .i64 o, .bool true, .bool true, .bool false, .bool false, .bool false, .bool false, .bool a4, .bool a5, .bool true, .bool a7, .bool al, .bool tu] 116 + G) from j1); have E7 := hid (E6.out.trans j2); clear j1 j2))
          go_roundw
          case rel => exact ⟨i + 1, o, true, true, a4, a5, true, a7, al, tu, Hlt.out, by go_num, by have := Hst.out; simpa [ordNext] using this, K7.out, E7.out⟩
          case measure => have := Hlt.out; simp [intOf]; omega
      · cases mb with
        | false =>
          go_wp2_with (first
            | (go_at_call 23; refine (Hkd.out _).mono ?_; rintro e1 w1 ⟨rfl, k1⟩; have K1 := hid (k1.1 _ HW.out); have E1 := hid (HE.out.trans k1.2); clear k1; obtain ⟨p0, p1, p2, p3, p4, p5⟩ := Hcs.out w1 _ K1.out; try simp only at p0 p1 p2 p3 p4 p5)
            | (go_at_call 91; refine (Hcen.out _).mono ?_; rintro e2 w2 ⟨rfl, k2⟩; have K2 := hid (k2.1 _ K1.out); have E2 := hid (E1.out.trans k2.2); clear k2; have z0 : w2.cell? ⟨gb, 0, none⟩ = some (.int .i64 o) := K2.out.at_ rfl; obtain ⟨r0, r1, r2, r3, r4, r5⟩ := Hcs.out w2 _ K2.out; try simp only at r0 r1 r2 r3 r4 r5)
            | (refine wpList_store_blk rfl (.tmp 71) (.const (.bool true)) 4 rfl size4 gb 1 (.bool true) rfl rfl rfl #[.int .i64 o, .bool fl, .bool mi, .bool false, .bool false, .bool false, .bool false, .bool a4, .bool a5, .bool a6, .bool a7, .bool al, .bool tu] 116 _ K2.out (by simp) ?_; intro w3 j1 j2; have K3 := hid (show Has w3 (blk gb #[.int .i64 o, .bool true, .bool mi, .bool false, .bool false, .bool false, .bool false, .bool a4, .bool a5, .bool a6, .bool a7, .bool al, .bool tu] 116 + G) from j1); have E3 := hid (E2.out.trans j2); clear j1 j2; obtain ⟨s0, s1, s2, s3, s4, s5⟩ := Hcs.out w3 _ K3.out; try simp only at s0 s1 s2 s3 s4 s5)
            | (go_at_call 94; refine (Hmir.out _).mono ?_; rintro e5 w5 ⟨rfl, k5⟩; have K5 := hid (k5.1 _ K3.out); have E5 := hid (E3.out.trans k5.2); clear k5))
          go_roundw
          case rel => exact ⟨i + 1, o, true, mi, a4, a5, a6, a7, al, tu, Hlt.out, by go_num, by have := Hst.out; simpa [ordNext] using this, K5.out, E5.out⟩
          case measure => have := Hlt.out; simp [intOf]; omega
        | true =>
          go_wp2_with (first
            | (go_at_call 23; refine (Hkd.out _).mono ?_; rintro e1 w1 ⟨rfl, k1⟩; have K1 := hid (k1.1 _ HW.out); have E1 := hid (HE.out.trans k1.2); clear k1; obtain ⟨p0, p1, p2, p3, p4, p5⟩ := Hcs.out w1 _ K1.out; try simp only at p0 p1 p2 p3 p4 p5)
            | (go_at_call 91; refine (Hcen.out _).mono ?_; rintro e2 w2 ⟨rfl, k2⟩; have K2 := hid (k2.1 _ K1.out); have E2 := hid (E1.out.trans k2.2); clear k2; have z0 : w2.cell? ⟨gb, 0, none⟩ = some (.int .i64 o) := K2.out.at_ rfl; obtain ⟨r0, r1, r2, r3, r4, r5⟩ := Hcs.out w2 _ K2.out; try simp only at r0 r1 r2 r3 r4 r5)
            | (refine wpList_store_blk rfl (.tmp 71) (.const (.bool true)) 4 rfl size4 gb 1 (.bool true) rfl rfl rfl #[.int .i64 o, .bool fl, .bool mi, .bool false, .bool false, .bool false, .bool false, .bool a4, .bool a5, .bool a6, .bool a7, .bool al, .bool tu] 116 _ K2.out (by simp) ?_; intro w3 j1 j2; have K3 := hid (show Has w3 (blk gb #[.int .i64 o, .bool true, .bool mi, .bool false, .bool false, .bool false, .bool false, .bool a4, .bool a5, .bool a6, .bool a7, .bool al, .bool tu] 116 + G) from j1); have E3 := hid (E2.out.trans j2); clear j1 j2; obtain ⟨s0, s1, s2, s3, s4, s5⟩ := Hcs.out w3 _ K3.out; try simp only at s0 s1 s2 s3 s4 s5)
            | (go_at_call 94; refine (Hmir.out _).mono ?_; rintro e5 w5 ⟨rfl, k5⟩; have K5 := hid (k5.1 _ K3.out); have E5 := hid (E3.out.trans k5.2); clear k5)
            | (refine wpList_store_blk rfl (.tmp 77) (.const (.bool true)) 4 rfl size4 gb 2 (.bool true) rfl rfl rfl #[.int .i64 o, .bool true, .bool mi, .bool false, .bool false, .bool false, .bool false, .bool a4, .bool a5, .bool a6, .bool a7, .bool al, .bool tu] 116 _ K5.out (by simp) ?_; intro w6 j1 j2; have K6 := hid (show Has w6 (blk gb #[.int .i64 o, .bool true, .bool true, .bool false, .bool false, .bool false, .bool false, .bool a4, .bool a5, .bool a6, .bool a7, .bool al, .bool tu] 116 + G) from j1); have E6 := hid (E5.out.trans j2); clear j1 j2)
            | (refine wpList_store_blk rfl (.tmp 80) (.const (.bool true)) 4 rfl size4 gb 10 (.bool true) rfl rfl rfl #[.int .i64 o, .bool true, .bool true, .bool false, .bool false, .bool false, .bool false, .bool a4, .bool a5, .bool a6, .bool a7, .bool al, .bool tu] 116 _ K6.out (by simp) ?_; intro w7 j1 j2; have K7 := hid (show Has w7 (blk gb #[.int .i64 o, .bool true, .bool true, .bool false, .bool false, .bool false, .bool false, .bool a4, .bool a5, .bool a6, .bool true, .bool al, .bool tu] 116 + G) from j1); have E7 := hid (E6.out.trans j2); clear j1 j2))
          go_roundw
          case rel => exact ⟨i + 1, o, true, true, a4, a5, a6, true, al, tu, Hlt.out, by go_num, by have := Hst.out; simpa [ordNext] using this, K7.out, E7.out⟩
          case measure => have := Hlt.out; simp [intOf]; omega
    · have hie : i = N := by omega
      subst hie
      clear hlt hi
      have hend := hid (show GaOk l l o fl mi a4 a5 a6 a7 al tu by
        have := HGa.out
        rwa [HN.out, List.take_length] at this)
      have c0 : wr.cell? ⟨gb, 0, none⟩ = some (.int .i64 o) := HW.out.at_ rfl
      have c1 : wr.cell? ⟨gb, 1, none⟩ = some (.bool fl) := HW.out.at_ rfl
      have c2 : wr.cell? ⟨gb, 2, none⟩ = some (.bool mi) := HW.out.at_ rfl
      have c3 : wr.cell? ⟨gb, 3, none⟩ = some (.bool false) := HW.out.at_ rfl
      have c4 : wr.cell? ⟨gb, 4, none⟩ = some (.bool false) := HW.out.at_ rfl
      have c5 : wr.cell? ⟨gb, 5, none⟩ = some (.bool false) := HW.out.at_ rfl
      have c6 : wr.cell? ⟨gb, 6, none⟩ = some (.bool false) := HW.out.at_ rfl
      have c7 : wr.cell? ⟨gb, 7, none⟩ = some (.bool a4) := HW.out.at_ rfl
      have c8 : wr.cell? ⟨gb, 8, none⟩ = some (.bool a5) := HW.out.at_ rfl
      have c9 : wr.cell? ⟨gb, 9, none⟩ = some (.bool a6) := HW.out.at_ rfl
      have c10 : wr.cell? ⟨gb, 10, none⟩ = some (.bool a7) := HW.out.at_ rfl
      have c11 : wr.cell? ⟨gb, 11, none⟩ = some (.bool al) := HW.out.at_ rfl
      have c12 : wr.cell? ⟨gb, 12, none⟩ = some (.bool tu) := HW.out.at_ rfl
      go_wp2_with (refine wpList_store_whole rfl (.tmp 2) (.tmp 81) 116 rfl 13 size116 gr (.agg #[.int .i64 o, .bool fl, .bool mi, .bool false, .bool false, .bool false, .bool false, .bool a4, .bool a5, .bool a6, .bool a7, .bool al, .bool tu]) rfl rfl rfl (by simp [Value.cells, Value.oneCell']) #[.int .i64 0, .bool false, .bool false, .bool false, .bool false, .bool false, .bool false, .bool false, .bool false, .bool false, .bool false, .bool false, .bool false] 116 _ (HB.out _ _ HW.out) rfl ?_; intro w6 k1 k2; have K6 := hid (show Has w6 (blk gr #[.int .i64 o, .bool fl, .bool mi, .bool false, .bool false, .bool false, .bool false, .bool a4, .bool a5, .bool a6, .bool a7, .bool al, .bool tu] 116 + (blk gb #[.int .i64 o, .bool fl, .bool mi, .bool false, .bool false, .bool false, .bool false, .bool a4, .bool a5, .bool a6, .bool a7, .bool al, .bool tu] 116 + MS.all w)) from k1); have E6 := hid (HE.out.trans k2); clear k1 k2)
      have q0 : w6.cell? ⟨gr, 0, none⟩ = some (.int .i64 o) := K6.out.at_ rfl
      have q1 : w6.cell? ⟨gr, 1, none⟩ = some (.bool fl) := K6.out.at_ rfl
      have q2 : w6.cell? ⟨gr, 2, none⟩ = some (.bool mi) := K6.out.at_ rfl
      have q3 : w6.cell? ⟨gr, 3, none⟩ = some (.bool false) := K6.out.at_ rfl
      have q4 : w6.cell? ⟨gr, 4, none⟩ = some (.bool false) := K6.out.at_ rfl
      have q5 : w6.cell? ⟨gr, 5, none⟩ = some (.bool false) := K6.out.at_ rfl
      have q6 : w6.cell? ⟨gr, 6, none⟩ = some (.bool false) := K6.out.at_ rfl
      have q7 : w6.cell? ⟨gr, 7, none⟩ = some (.bool a4) := K6.out.at_ rfl
      have q8 : w6.cell? ⟨gr, 8, none⟩ = some (.bool a5) := K6.out.at_ rfl
      have q9 : w6.cell? ⟨gr, 9, none⟩ = some (.bool a6) := K6.out.at_ rfl
      have q10 : w6.cell? ⟨gr, 10, none⟩ = some (.bool a7) := K6.out.at_ rfl
      have q11 : w6.cell? ⟨gr, 11, none⟩ = some (.bool al) := K6.out.at_ rfl
      have q12 : w6.cell? ⟨gr, 12, none⟩ = some (.bool tu) := K6.out.at_ rfl
      exact bodyPost_ret (v := .agg #[.int .i64 o, .bool fl, .bool mi, .bool false, .bool false, .bool false, .bool false, .bool a4, .bool a5, .bool a6, .bool a7, .bool al, .bool tu]) (by simp [results, Tryd.results71, go_sem, q0, q1, q2, q3, q4, q5, q6, q7, q8, q9, q10, q11, q12]) rfl
        ⟨o, fl, mi, a4, a5, a6, a7, al, tu, hend.out, rfl, HK2.out _ (blk gr #[.int .i64 o, .bool fl, .bool mi, .bool false, .bool false, .bool false, .bool false, .bool a4, .bool a5, .bool a6, .bool a7, .bool al, .bool tu] 116 + blk gb #[.int .i64 o, .bool fl, .bool mi, .bool false, .bool false, .bool false, .bool false, .bool a4, .bool a5, .bool a6, .bool a7, .bool al, .bool tu] 116) (K6.out.eq (by ac_rfl)) E6.out⟩
end Go.Proofs.YteibbnmlmbhkpaaDoor

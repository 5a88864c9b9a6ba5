/-
  The walk of the specification's taken (60) (printed by gen_tak.py).
-/
import Derived.Test.YtcdhimnmbpllgaaDoorWG2
import Derived.Test.YtcdhimnmbpllgaaDoorDT2
namespace Go.Proofs.YtcdhimnmbpllgaaDoor
open Go.RowKit
set_option linter.unusedVariables false
set_option linter.unusedSimpArgs false
set_option maxHeartbeats 4000000
set_option maxRecDepth 100000

theorem bools_of {r : List Bool} {v : Value} {m : MS} (h : Sl 4 1 v r.length (r.map Value.bool) m) : Bools r v m := by
  have hrow : ∀ r : List Bool, RowsR BoolR r (r.map Value.bool) 0 := by
    intro r
    induction r with
    | nil => exact RowsR.nil
    | cons a r ih => exact ⟨[.bool a], 0, r.map Value.bool, 0, ⟨rfl, rfl⟩, ih, rfl, (MS.zero_add _).symm⟩
  exact ⟨_, m, 0, h, hrow r, (MS.add_zero _).symm⟩
/-- One cell of an owned grid. -/
theorem Grid.at_ {l : List (List Bool)} {v : Value} {m : MS} (h : Grid l v m) {Y X : Nat} {r : List Bool} {x : Bool} (hr : l[Y]? = some r) (hx : r[X]? = some x) :
    ∃ b o c cur b2 o2 c2 cur2 M2, v = .slice (some ⟨b, o, none⟩) l.length c ∧ cur[o + Y]? = some (.slice (some ⟨b2, o2, none⟩) r.length c2) ∧ m = blk b2 cur2 4 + (blk b cur 94 + M2) ∧ cur2[o2 + X]? = some (.bool x) ∧ r.length ≤ c2 ∧ l.length ≤ c ∧
      ∀ z, Grid (l.set Y (r.set X z)) v (blk b2 (cur2.setIfInBounds (o2 + X) (.bool z)) 4 + (blk b cur 94 + M2)) := by
  have hY := (List.getElem?_eq_some_iff.1 hr).1
  have hX := (List.getElem?_eq_some_iff.1 hx).1
  obtain ⟨b, o, c, cur, ci, m1, m2, rfl, rfl, hR, hc, hput⟩ := SlR.take El.len h hY
  obtain ⟨vr, rfl, hB, h1⟩ := hR
  have hle : l.length ≤ c := by
    obtain ⟨_, _, e, _, h2, _⟩ := SlR.form h
    injection e with e1 e2 e3
    omega
  have hrl : l[Y] = r := by
    have := List.getElem?_eq_getElem hY
    rw [hr] at this
    injection this with this
    exact this.symm
  rw [hrl] at hB
  obtain ⟨b2, o2, c2, cur2, ci2, m3, m4, rfl, rfl, hR2, hc2, hput2⟩ := SlR.take BoolR.len hB hX
  obtain ⟨rfl, rfl⟩ := hR2
  have hle2 : r.length ≤ c2 := by
    obtain ⟨_, _, e, _, h2, _⟩ := SlR.form hB
    injection e with e1 e2 e3
    omega
  have hxl : r[X] = x := by
    have := List.getElem?_eq_getElem hX
    rw [hx] at this
    injection this with this
    exact this.symm
  rw [hxl] at hc2
  refine ⟨b, o, c, cur, b2, o2, c2, cur2, (0 + m4) + m2, rfl, ?_, by ac_rfl, ?_, hle2, hle, fun z => ?_⟩
  · have := hc 0 (by omega)
    simpa using this
  · have := hc2 0 (by omega)
    simpa using this
  · have h2 := hput2 z [.bool z] 0 (cur2.setIfInBounds (o2 + X) (.bool z)) ⟨rfl, rfl⟩ (by simp) (fun k hk => by
      rw [Array.getElem?_setIfInBounds_ne (by omega)]) (fun j hj => by
      have hj0 : j = 0 := by omega
      subst hj0
      have h3 := hc2 0 (by omega)
      have h4 : o2 + X < cur2.size := by
        rw [Nat.mul_one, Nat.add_zero] at h3
        exact (Array.getElem?_eq_some_iff.1 (h3.trans rfl)).1
      rw [Nat.mul_one, Nat.add_zero, Array.getElem?_setIfInBounds_self_of_lt h4]; rfl)
    have h3 := hput (r.set X z) [.slice (some ⟨b2, o2, none⟩) r.length c2] _ cur ⟨_, rfl, h2, rfl⟩ rfl (fun k hk => rfl) hc
    have e : blk b2 (cur2.setIfInBounds (o2 + X) (.bool z)) 4 + (blk b cur 94 + (0 + m4 + m2)) = blk b cur 94 + (blk b2 (cur2.setIfInBounds (o2 + X) (.bool z)) 4 + (0 + m4) + m2) := by ac_rfl
    rw [e]
    exact h3
def offF (f : Nat → Nat → Bool) (X Y x y : Nat) : Bool := f x y && !(decide (x = X) && decide (y = Y))
theorem grid_off {f : Nat → Nat → Bool} {W H X Y : Nat} (hX : X < W) (hY : Y < H) : (gridK f W H).set Y ((gRow f Y W).set X false) = gridK (offF f X Y) W H := by
  apply GridB.eq
  refine ⟨by rw [List.length_set, gridK_len], fun y r hr => ?_⟩
  rw [List.getElem?_set] at hr
  by_cases hy : Y = y
  · subst hy
    rw [if_pos rfl, if_pos (by rw [gridK_len]; exact hY)] at hr
    injection hr with hr
    subst hr
    refine ⟨by rw [List.length_set, gRow_len], fun x hx => ?_⟩
    rw [List.getElem?_set]
    by_cases hxx : X = x
    · subst hxx
      rw [if_pos rfl, if_pos (by rw [gRow_len]; exact hX)]
      unfold offF; simp
    · rw [if_neg hxx, gRow_get hx]
      unfold offF; simp [Ne.symm hxx]
  · rw [if_neg hy] at hr
    have hyH : y < H := by
      have := (List.getElem?_eq_some_iff.1 hr).1
      rwa [gridK_len] at this
    rw [gridK_get hyH] at hr
    injection hr with hr
    subst hr
    refine ⟨gRow_len _ _ _, fun x hx => ?_⟩
    rw [gRow_get hx]
    unfold offF; simp [Ne.symm hy]
def takF (f : Nat → Nat → Bool) (X Y : Nat) (d : Bool) : Nat → Nat → Bool := offF (offF f X Y) (onX X d) (onY Y d)
theorem taken_any {F : MS} {w : World} {f : Nat → Nat → Bool} {W H : Nat} {l : List (List Bool)} {A : Option Addr} {c : Nat} (hrd : RdS F (RT.sl RT.bool) l (.slice A H c)) (hg : GridB f W H l)
    (hW8 : W ≤ 8) (hH8 : H ≤ 8) {X Y : Nat} (hX : X < W) (hY : Y < H) (d : Bool) (hoX : onX X d < W) (hoY : onY Y d < H) (hH : Has w F) :
    Calls Tryd.prog 60 #[.slice A H c, .agg #[.int .i64 (X : Int), .int .i64 (Y : Int), .bool d]] w fun e w' => ∃ v m, e = .returned v ∧ Grid (gridK (takF f X Y d) W H) v m ∧ (∀ M, Has w M → Has w' (m + M)) ∧ Ext w w' := by
  have hW1 : 1 ≤ W := by omega
  have hH1 : 1 ≤ H := by omega
  obtain ⟨b0, o0, hA⟩ : ∃ b0 o0, A = some ⟨b0, o0, none⟩ := by
    obtain ⟨r0, hr0⟩ : ∃ r, l[0]? = some r := ⟨_, List.getElem?_eq_getElem (by rw [hg.len]; exact hH1)⟩
    obtain ⟨b0, o0, A0, c0, hA, _⟩ := hrd.getSl hr0
    exact ⟨b0, o0, hA⟩
  subst hA
  have Hrow := hid (fun (y : Nat) (hy : y < H) => grid_row hrd hg hW1 hy)
  have HaF := hid (fun (W' : World) (X : MS) (h : Has W' (X + MS.all w)) => hH.of_all h)
  have hHc : H ≤ c := by have := hrd.cells.2.1; rw [hg.len] at this; exact this
  obtain ⟨OX, hOX⟩ : ∃ OX, OX = onX X d := ⟨_, rfl⟩
  obtain ⟨OY, hOY⟩ : ∃ OY, OY = onY Y d := ⟨_, rfl⟩
  have Hsec := hid (fun (W' : World) => show Calls Tryd.prog 92 #[.agg #[.int .i64 (X : Int), .int .i64 (Y : Int), .bool d]] W' fun e w' => e = .returned (.agg #[.int .i64 (OX : Int), .int .i64 (OY : Int)]) ∧ Kp W' w' from by
    have h := second_any (X : Int) (Y : Int) d (by omega) (by omega) W'
    rw [otX_n, otY_n, ← hOX, ← hOY] at h
    exact h)
  have HR := hid (show takF f X Y d = offF (offF f X Y) OX OY by unfold takF; rw [← hOX, ← hOY])
  rw [← hOX] at hoX
  rw [← hOY] at hoY
  have HoX := hid hoX
  have HoY := hid hoY
  have HX := hid hX
  have HY := hid hY
  have HA := hid ((Has.all w).alloc (.cells #[.int .i64 (X : Int), .int .i64 (Y : Int), .bool d] 40))
  have HEA := hid (Ext.alloc w (.cells #[.int .i64 (X : Int), .int .i64 (Y : Int), .bool d] 40))
  have hXI : (X : Int) < W := by omega
  have hYI : (Y : Int) < H := by omega
  have hHI : (0 : Int) < H := by omega
  have hH0 : 0 < H := hH1
  have hX8 : X ≤ 8 := by omega
  have hY8 : Y ≤ 8 := by omega
  have hOX8 : OX ≤ 8 := by omega
  have hOY8 : OY ≤ 8 := by omega
  rw [HR.out]
  clear hrd hg hOX hOY hH HR
  go_enter Tryd.func60, Tryd.ntmps60
  go_wp2
  go_loopw [5, 6] (fun v5 v6 wr => ∃ (y : Nat) (m : MS), y ≤ H ∧ v6 = .int .i64 y ∧ Grid (gridK f W y) v5 m ∧ Has wr (m + (blk w.heap.size #[.int .i64 (X : Int), .int .i64 (Y : Int), .bool d] 40 + MS.all w)) ∧ Ext w wr) (fun _ v _ => H - (intOf v).toNat)
  case atStart => exact ⟨0, 0, Nat.zero_le _, rfl, Grid.nil, by rw [MS.zero_add]; exact HA.out, HEA.out⟩
  case round =>
    obtain ⟨y, m, hy, rfl, hc, hW, hE⟩ := hrel
    obtain ⟨A3, c3, rfl, _⟩ := SlR.form hc
    rw [gridK_len] at hc ⊢
    have HC := hid hc
    have HW := hid hW
    have HEr := hid hE
    clear hc hW hE
    by_cases hlt : y < H
    · have hltI : (y : Int) < H := by omega
      have Hlt := hid hlt
      obtain ⟨b2, o2, c2, z0, hz2, zc⟩ := Hrow.out y hlt
      have q0 := z0.c0 (HaF.out wr (m + blk w.heap.size #[.int .i64 (X : Int), .int .i64 (Y : Int), .bool d] 40) (HW.out.eq (by ac_rfl)))
      have Hnews := hid (show ∀ a, some (⟨b2, o2, none⟩ : Addr) = some a → ∀ j u, ((gRow f y W).map Value.bool)[j]? = some u → wr.cell? (a.add j) = some u from by
        intro a ha j u hu
        injection ha with ha
        subst ha
        rw [List.getElem?_map] at hu
        have hj : j < W := by
          rcases Nat.lt_or_ge j W with h | h
          · exact h
          · rw [List.getElem?_eq_none (by rw [gRow_len]; exact h)] at hu; cases hu
        rw [gRow_get hj] at hu
        injection hu with hu
        subst hu
        rw [Addr.add_lit]
        exact (zc j hj).c0 (HaF.out wr (m + blk w.heap.size #[.int .i64 (X : Int), .int .i64 (Y : Int), .bool d] 40) (HW.out.eq (by ac_rfl))))
      have Hone := hid (show ∀ u ∈ (gRow f y W).map Value.bool, u.oneCell' = true from by
        intro u hu
        obtain ⟨a, _, rfl⟩ := List.mem_map.1 hu
        rfl)
      have Hlen := hid (show ((gRow f y W).map Value.bool).length = W * 1 by rw [List.length_map, gRow_len, Nat.mul_one])
      have hy8 : y ≤ 8 := by omega
      clear hlt hy z0 zc
      go_wp2_with (first
        | (at_builtin; refine wpList_push rfl (.tmp 15) (.tmp 22) row62 rfl (.slice A3 y c3) rfl _ rfl (by simp) (El Bools) El.one El.len (gridK f W y) (gRow f y W) m m7 (blk w.heap.size #[.int .i64 (X : Int), .int .i64 (Y : Int), .bool d] 40 + MS.all w) HC.out ⟨_, rfl, D7.out, rfl⟩ (H7.out.eq (by ac_rfl)) y (gridK_len _ _ _) (by omega) (by omega) ?_; intro A8 c8 w8 m8 j4 j5 j6; have J4 := hid j4; have J5 := hid j5; have J6 := hid (E7.out.trans j6); clear j4 j5 j6)
        | (at_builtin; refine wpList_append_sl rfl (.tmp 16) (.tmp 20) 94 rfl 4 (.bool false) 1 1 Tryd.underlying94 row94.hi rfl (.slice none 0 0) rfl (some ⟨b2, o2, none⟩) W c2 rfl 0 [] 0 (m + (blk w.heap.size #[.int .i64 (X : Int), .int .i64 (Y : Int), .bool d] 40 + MS.all w)) (Sl.nil 4 1) (by rw [MS.zero_add]; exact HW.out) ((gRow f y W).map Value.bool) Hlen.out (fun h => by cases h) Hnews.out Hone.out (by simp only [maxLen]; omega) (by omega) ?_; intro v7 w7 m7 j1 j2 j3; rw [Nat.zero_add, List.nil_append] at j1; have D7 := hid (bools_of (r := gRow f y W) (by rw [gRow_len]; exact j1)); obtain ⟨A7, c7, hv7, _⟩ := SlR.form D7.out; rw [gRow_len] at hv7; subst hv7; have H7 := hid j2; have E7 := hid (HEr.out.trans j3); clear j1 j2 j3))
      go_roundw
      case rel => exact ⟨y + 1, m8, Hlt.out, by go_num, by rw [gridK_succ]; exact J4.out, J5.out, J6.out⟩
      case measure => have := Hlt.out; simp [intOf]; omega
    · have hye : y = H := by omega
      subst hye
      clear hlt hy
      have u0 := (HW.out.eq (b := (blk w.heap.size #[.int .i64 (X : Int), .int .i64 (Y : Int), .bool d] 40 + (m + MS.all w))) (by ac_rfl)).at_ (i := 0) rfl
      have u1 := (HW.out.eq (b := (blk w.heap.size #[.int .i64 (X : Int), .int .i64 (Y : Int), .bool d] 40 + (m + MS.all w))) (by ac_rfl)).at_ (i := 1) rfl
      have u2 := (HW.out.eq (b := (blk w.heap.size #[.int .i64 (X : Int), .int .i64 (Y : Int), .bool d] 40 + (m + MS.all w))) (by ac_rfl)).at_ (i := 2) rfl
      go_wp2_with (first
        | (go_at_call 92; refine (Hsec.out wr).mono ?_; rintro e21 w21 ⟨rfl, k21⟩; have H21 := hid (k21.1 _ HW.out); have E21 := hid (HEr.out.trans k21.2); clear k21; obtain ⟨b5, hb5⟩ : ∃ b5, b5 = w21.heap.size := ⟨_, rfl⟩; have HAb5 := hid (show Has (w21.alloc (.cells #[.int .i64 0, .int .i64 0] 66)) (blk b5 #[.int .i64 0, .int .i64 0] 66 + (m + (blk w.heap.size #[.int .i64 (X : Int), .int .i64 (Y : Int), .bool d] 40 + MS.all w))) by rw [hb5]; exact H21.out.alloc _); have Hb5 := hid hb5; clear hb5)
        | (rw [← Hb5.out]; refine wpList_store_whole rfl (.tmp 8) (.tmp 25) 66 rfl 2 size66 b5 (.agg #[.int .i64 (OX : Int), .int .i64 (OY : Int)]) rfl rfl rfl (by simp [Value.cells, Value.oneCell']) #[.int .i64 0, .int .i64 0] 66 _ HAb5.out rfl ?_; intro w22 j1 j2; have H22 := hid (show Has w22 (blk b5 #[.int .i64 (OX : Int), .int .i64 (OY : Int)] 66 + (m + (blk w.heap.size #[.int .i64 (X : Int), .int .i64 (Y : Int), .bool d] 40 + MS.all w))) from j1.eq (by unfold blk; ac_rfl)); have E22 := hid ((E21.out.trans (Ext.alloc _ _)).trans j2); clear j1 j2))
      clear u0 u1 u2
      obtain ⟨b3, o3, c3, cur3, d3, p3, e3, dur3, M3, hv3, hr3, hm3, hx3, hle3, hlf3, hput3⟩ := HC.out.at_ (gridK_get (f := f) HY.out) (gRow_get HX.out)
      rw [gridK_len] at hv3 hlf3
      rw [gRow_len] at hr3 hle3
      injection hv3 with hv3a hv3b hv3c
      first | subst hv3a | (injection hv3a with q; injection q with q1 q2; have q1 := q1.symm; have q2 := q2.symm; subst q1; subst q2)
      have hv3d := hv3c.symm
      clear hv3c
      subst hv3d
      have G3 := hid (show Has w22 (blk d3 dur3 4 + (blk b3 cur3 94 + (M3 + (blk b5 #[.int .i64 (OX : Int), .int .i64 (OY : Int)] 66 + (blk w.heap.size #[.int .i64 (X : Int), .int .i64 (Y : Int), .bool d] 40 + MS.all w))))) from (by have h := H22.out; rw [hm3] at h; exact h.eq (by ac_rfl)))
      clear hm3
      have x0 := (G3.out.eq (b := (blk w.heap.size #[.int .i64 (X : Int), .int .i64 (Y : Int), .bool d] 40 + (blk d3 dur3 4 + (blk b3 cur3 94 + (M3 + (blk b5 #[.int .i64 (OX : Int), .int .i64 (OY : Int)] 66 + MS.all w)))))) (by ac_rfl)).at_ (i := 1) rfl
      have x1 := (G3.out.eq (b := (blk w.heap.size #[.int .i64 (X : Int), .int .i64 (Y : Int), .bool d] 40 + (blk d3 dur3 4 + (blk b3 cur3 94 + (M3 + (blk b5 #[.int .i64 (OX : Int), .int .i64 (OY : Int)] 66 + MS.all w)))))) (by ac_rfl)).at_ (i := 0) rfl
      have x2 := (G3.out.eq (b := (blk b3 cur3 94 + (blk d3 dur3 4 + (M3 + (blk b5 #[.int .i64 (OX : Int), .int .i64 (OY : Int)] 66 + (blk w.heap.size #[.int .i64 (X : Int), .int .i64 (Y : Int), .bool d] 40 + MS.all w)))))) (by ac_rfl)).at_ hr3
      have Hput3 := hid (hput3 false)
      have HB3 := hid (show p3 + X < dur3.size from (Array.getElem?_eq_some_iff.1 hx3).1)
      have hS : (fun W' : World => W'.cell? ⟨w.heap.size, 1, none⟩ = some (.int .i64 (Y : Int)) ∧ W'.cell? ⟨w.heap.size, 0, none⟩ = some (.int .i64 (X : Int)) ∧ W'.cell? ⟨b3, o3 + Y, none⟩ = some (.slice (some ⟨d3, p3, none⟩) W e3)) w22.drew := ⟨x0, x1, x2⟩
      clear x0 x1 x2 hput3 hr3 hx3
      refine wp_region_txt (fun W' => W'.cell? ⟨w.heap.size, 1, none⟩ = some (.int .i64 (Y : Int)) ∧ W'.cell? ⟨w.heap.size, 0, none⟩ = some (.int .i64 (X : Int)) ∧ W'.cell? ⟨b3, o3 + Y, none⟩ = some (.slice (some ⟨d3, p3, none⟩) W e3)) (some 8)
        [(0, true), (1, true), (2, true), (3, true), (4, true), (5, true), (6, true), (7, true), (8, false)] (by kernel_rfl) rfl (by kernel_rfl) (by kernel_rfl) (by repeat (first | with_reducible refine PanicOk.thn ?_ | with_reducible refine PanicOk.blk ?_ | exact PanicOk.body _ _ _)) ?_
      repeat
        (refine txt_quiet ?_ hS rfl rfl (fun W hW => ?_) ?_
         rotate_left 1
         · obtain ⟨hW1, hW2, hW3⟩ := hW
           go_simp
           exact rfl
         simp only [Act.put, List.setIfInBounds_toArray, List.set_cons_zero, List.set_cons_succ])
      refine txt_op rfl rfl ?_
      refine op_store_blk (.tmp 33) (.const (.bool false)) 4 rfl size4 d3 (p3 + X) (.bool false) rfl rfl rfl dur3 4 (blk b3 cur3 94 + (M3 + (blk b5 #[.int .i64 (OX : Int), .int .i64 (OY : Int)] 66 + (blk w.heap.size #[.int .i64 (X : Int), .int .i64 (Y : Int), .bool d] 40 + MS.all w)))) G3.out.drew HB3.out ?_
      intro w23 j1 j2
      have H23 := hid (show Has w23 ((blk d3 (dur3.setIfInBounds (p3 + X) (.bool false)) 4 + (blk b3 cur3 94 + M3)) + (blk b5 #[.int .i64 (OX : Int), .int .i64 (OY : Int)] 66 + (blk w.heap.size #[.int .i64 (X : Int), .int .i64 (Y : Int), .bool d] 40 + MS.all w))) from j1.eq (by ac_rfl))
      have E23 := hid ((E22.out.trans (Ext.drew _)).trans j2)
      refine ⟨fun h => absurd rfl h, ?_⟩
      clear j1 j2 hS
      refine txt_done ?_
      simp only [Act.put]
      have K3 := hid (show Grid (gridK (offF (f) X Y) W y) (.slice (some ⟨b3, o3, none⟩) y c3) (blk d3 (dur3.setIfInBounds (p3 + X) (.bool false)) 4 + (blk b3 cur3 94 + M3)) by rw [← grid_off HX.out HY.out]; exact Hput3.out)
      clear Hput3
      go_wp2
      obtain ⟨b4, o4, c4, cur4, d4, p4, e4, dur4, M4, hv4, hr4, hm4, hx4, hle4, hlf4, hput4⟩ := K3.out.at_ (gridK_get (f := offF f X Y) HoY.out) (gRow_get HoX.out)
      rw [gridK_len] at hv4 hlf4
      rw [gRow_len] at hr4 hle4
      injection hv4 with hv4a hv4b hv4c
      first | subst hv4a | (injection hv4a with q; injection q with q1 q2; have q1 := q1.symm; have q2 := q2.symm; subst q1; subst q2)
      have hv4d := hv4c.symm
      clear hv4c
      subst hv4d
      have G4 := hid (show Has w23 (blk d4 dur4 4 + (blk b4 cur4 94 + (M4 + (blk b5 #[.int .i64 (OX : Int), .int .i64 (OY : Int)] 66 + (blk w.heap.size #[.int .i64 (X : Int), .int .i64 (Y : Int), .bool d] 40 + MS.all w))))) from (by have h := H23.out; rw [hm4] at h; exact h.eq (by ac_rfl)))
      clear hm4
      have x0 := (G4.out.eq (b := (blk b5 #[.int .i64 (OX : Int), .int .i64 (OY : Int)] 66 + (blk d4 dur4 4 + (blk b4 cur4 94 + (M4 + (blk w.heap.size #[.int .i64 (X : Int), .int .i64 (Y : Int), .bool d] 40 + MS.all w)))))) (by ac_rfl)).at_ (i := 1) rfl
      have x1 := (G4.out.eq (b := (blk b5 #[.int .i64 (OX : Int), .int .i64 (OY : Int)] 66 + (blk d4 dur4 4 + (blk b4 cur4 94 + (M4 + (blk w.heap.size #[.int .i64 (X : Int), .int .i64 (Y : Int), .bool d] 40 + MS.all w)))))) (by ac_rfl)).at_ (i := 0) rfl
      have x2 := (G4.out.eq (b := (blk b4 cur4 94 + (blk d4 dur4 4 + (M4 + (blk b5 #[.int .i64 (OX : Int), .int .i64 (OY : Int)] 66 + (blk w.heap.size #[.int .i64 (X : Int), .int .i64 (Y : Int), .bool d] 40 + MS.all w)))))) (by ac_rfl)).at_ hr4
      have Hput4 := hid (hput4 false)
      have HB4 := hid (show p4 + OX < dur4.size from (Array.getElem?_eq_some_iff.1 hx4).1)
      have hS : (fun W' : World => W'.cell? ⟨b5, 1, none⟩ = some (.int .i64 (OY : Int)) ∧ W'.cell? ⟨b5, 0, none⟩ = some (.int .i64 (OX : Int)) ∧ W'.cell? ⟨b4, o4 + OY, none⟩ = some (.slice (some ⟨d4, p4, none⟩) W e4)) w23.drew := ⟨x0, x1, x2⟩
      clear x0 x1 x2 hput4 hr4 hx4
      refine wp_region_txt (fun W' => W'.cell? ⟨b5, 1, none⟩ = some (.int .i64 (OY : Int)) ∧ W'.cell? ⟨b5, 0, none⟩ = some (.int .i64 (OX : Int)) ∧ W'.cell? ⟨b4, o4 + OY, none⟩ = some (.slice (some ⟨d4, p4, none⟩) W e4)) (some 8)
        [(0, true), (1, true), (2, true), (3, true), (4, true), (5, true), (6, true), (7, true), (8, false)] (by kernel_rfl) rfl (by kernel_rfl) (by kernel_rfl) (by repeat (first | with_reducible refine PanicOk.thn ?_ | with_reducible refine PanicOk.blk ?_ | exact PanicOk.body _ _ _)) ?_
      repeat
        (refine txt_quiet ?_ hS rfl rfl (fun W hW => ?_) ?_
         rotate_left 1
         · obtain ⟨hW1, hW2, hW3⟩ := hW
           go_simp
           exact rfl
         simp only [Act.put, List.setIfInBounds_toArray, List.set_cons_zero, List.set_cons_succ])
      refine txt_op rfl rfl ?_
      refine op_store_blk (.tmp 41) (.const (.bool false)) 4 rfl size4 d4 (p4 + OX) (.bool false) rfl rfl rfl dur4 4 (blk b4 cur4 94 + (M4 + (blk b5 #[.int .i64 (OX : Int), .int .i64 (OY : Int)] 66 + (blk w.heap.size #[.int .i64 (X : Int), .int .i64 (Y : Int), .bool d] 40 + MS.all w)))) G4.out.drew HB4.out ?_
      intro w24 j1 j2
      have H24 := hid (show Has w24 ((blk d4 (dur4.setIfInBounds (p4 + OX) (.bool false)) 4 + (blk b4 cur4 94 + M4)) + (blk b5 #[.int .i64 (OX : Int), .int .i64 (OY : Int)] 66 + (blk w.heap.size #[.int .i64 (X : Int), .int .i64 (Y : Int), .bool d] 40 + MS.all w))) from j1.eq (by ac_rfl))
      have E24 := hid ((E23.out.trans (Ext.drew _)).trans j2)
      refine ⟨fun h => absurd rfl h, ?_⟩
      clear j1 j2 hS
      refine txt_done ?_
      simp only [Act.put]
      have K4 := hid (show Grid (gridK (offF (offF f X Y) OX OY) W y) (.slice (some ⟨b4, o4, none⟩) y c4) (blk d4 (dur4.setIfInBounds (p4 + OX) (.bool false)) 4 + (blk b4 cur4 94 + M4)) by rw [← grid_off HoX.out HoY.out]; exact Hput4.out)
      clear Hput4
      go_wp2
      go_ret
      exact ⟨_, rfl, _, K4.out, fun M hM => Has.with_all hM ((H24.out.eq (b := ((blk d4 (dur4.setIfInBounds (p4 + OX) (.bool false)) 4 + (blk b4 cur4 94 + M4)) + MS.all w) + (blk b5 #[.int .i64 (OX : Int), .int .i64 (OY : Int)] 66 + blk w.heap.size #[.int .i64 (X : Int), .int .i64 (Y : Int), .bool d] 40)) (by ac_rfl)).left), E24.out⟩
end Go.Proofs.YtcdhimnmbpllgaaDoor

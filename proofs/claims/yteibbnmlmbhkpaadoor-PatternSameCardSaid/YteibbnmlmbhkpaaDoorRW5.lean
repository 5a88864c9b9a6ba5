/-
  The walks of the reference's onMirror, lattice, Lattice.
-/
import Derived.Test.YteibbnmlmbhkpaaDoorRW4
import Derived.Test.YteibbnmlmbhkpaaDoorPW12
namespace Go.Proofs.YteibbnmlmbhkpaaDoor
open Go.RowKit
set_option linter.unusedVariables false
set_option linter.unusedSimpArgs false
set_option maxHeartbeats 1000000
set_option maxRecDepth 100000

theorem RdS.mvAt {F : MS} {l : List Mv} {A : Option Addr} {n c : Nat} (h : RdS F RT.mv l (.slice A n c)) {i : Nat} {m : Mv} (ha : l[i]? = some m) : ∃ b o, A = some ⟨b, o, none⟩ ∧ ∀ W, Has W F →
    (W.cell? ⟨b, o + i * 6, none⟩ = some (.int .i64 m.a) ∧ W.cell? ⟨b, o + i * 6 + 1, none⟩ = some (.int .i64 m.b) ∧ W.cell? ⟨b, o + i * 6 + 2, none⟩ = some (.int .i64 m.c) ∧ W.cell? ⟨b, o + i * 6 + 3, none⟩ = some (.int .i64 m.d) ∧ W.cell? ⟨b, o + i * 6 + 4, none⟩ = some (.int .i64 m.e) ∧ W.cell? ⟨b, o + i * 6 + 5, none⟩ = some (.int .i64 m.f)) := by
  obtain ⟨b, o, hA, hcs⟩ := h.getMv ha
  refine ⟨b, o, hA, fun W hW => ?_⟩
  have n0 := (hcs 0 _ rfl).c0 hW
  rw [Nat.add_zero] at n0
  exact ⟨n0, (hcs 1 _ rfl).c0 hW, (hcs 2 _ rfl).c0 hW, (hcs 3 _ rfl).c0 hW, (hcs 4 _ rfl).c0 hW, (hcs 5 _ rfl).c0 hW⟩
/-- Small moves. -/
def OkM (m : Mv) : Prop := SmallM m ∧ (-1000 ≤ m.e ∧ m.e ≤ 1000) ∧ (-1000 ≤ m.f ∧ m.f ≤ 1000)
theorem okM_knd {k : Nat} (hk : k < 8) {e f : Int} (he : -1000 ≤ e ∧ e ≤ 1000) (hf : -1000 ≤ f ∧ f ≤ 1000) : OkM (knd k e f) := by
  refine ⟨?_, he, hf⟩
  rcases k8_cases hk with rfl | rfl | rfl | rfl | rfl | rfl | rfl | rfl <;> simp [SmallM, knd, kinds]
/-- Does a point lie on a mirror of a list? -/
def onB (l : List Mv) (x y : Int) : Bool := l.any fun m => isMir m && fixB m x y
theorem onMirror_any {F : MS} {l : List Mv} {A : Option Addr} {c : Nat} {w : World} (hr : RdS F RT.mv l (.slice A l.length c)) (hl : l.length ≤ 1000000) (hm : ∀ m ∈ l, OkM m) (x y : Int) (hx : -1000 ≤ x ∧ x ≤ 1000) (hy : -1000 ≤ y ∧ y ≤ 1000) (hH : Has w F) :
    Calls Tryd.prog 93 #[.slice A l.length c, .int .i64 x, .int .i64 y] w fun e w' => e = .returned (.bool (onB l x y)) ∧ Kp w w' := by
  have Hr := hid hr
  have HH := hid hH
  have Hm := hid hm
  have hnc := hr.cells.2.1
  obtain ⟨N, hN⟩ : ∃ N, N = l.length := ⟨_, rfl⟩
  rw [← hN] at Hr hnc hl ⊢
  have HN := hid hN
  have hNI : (N : Int) ≤ 1000000 := by omega
  obtain ⟨q, hq⟩ : ∃ q, q = onB l x y := ⟨_, rfl⟩
  rw [← hq]
  have Hq := hid hq
  have Hmir := hid (fun (m : Mv) (W : World) (h : OkM m) => mirror_any m W h.2.1 h.2.2)
  have Hfix := hid (fun (m : Mv) (W : World) (h : OkM m) => fixes_any m x y W h.1 h.2.1 h.2.2 hx hy)
  clear hr hH hm hN hq hl hx hy
  go_enter Tryd.func93, Tryd.ntmps93
  go_wp2
  go_loopw [7] (fun v wr => ∃ i : Nat, i ≤ N ∧ v = .int .i64 i ∧ (∀ m ∈ l.take i, (isMir m && fixB m x y) = false) ∧ Kp w wr) (fun v _ => N - (intOf v).toNat)
  case atStart => exact ⟨0, Nat.zero_le _, rfl, by simp, Kp.refl _⟩
  case round =>
    obtain ⟨i, hi, rfl, hno, hK⟩ := hrel
    have Hno := hid hno
    have HK := hid hK
    clear hno hK
    by_cases hlt : i < N
    · have hltI : (i : Int) < N := by omega
      have Hlt := hid hlt
      obtain ⟨m, hm⟩ : ∃ m, l[i]? = some m := ⟨_, List.getElem?_eq_getElem (by have := HN.out; omega)⟩
      obtain ⟨b, o, hA, hcs⟩ := Hr.out.mvAt hm
      subst hA
      have Hcs := hid (fun W (h : Kp w W) => hcs W (h.1 _ HH.out))
      have Hmm := hid hm
      have hok := Hm.out m (List.mem_of_getElem? hm)
      have Hc := hid (fun W => Hmir.out m W hok)
      have Hd := hid (fun W => Hfix.out m W hok)
      obtain ⟨q1, hq1⟩ : ∃ q1, q1 = isMir m := ⟨_, rfl⟩
      obtain ⟨q2, hq2⟩ : ∃ q2, q2 = fixB m x y := ⟨_, rfl⟩
      rw [← hq1] at Hc
      rw [← hq2] at Hd
      have Hq1 := hid hq1
      have Hq2 := hid hq2
      clear hq1 hq2 hcs hm hok
      obtain ⟨ma, mb, mc, md, me, mf⟩ := m
      obtain ⟨n0, n1, n2, n3, n4, n5⟩ := Hcs.out wr HK.out
      have hNc1 : N ≤ c := hnc
      simp only at n0 n1 n2 n3 n4 n5
      clear hlt hi
      cases q1 with
      | false =>
        have Hno2 := hid (show ∀ m ∈ l.take (i + 1), (isMir m && fixB m x y) = false from fun m hm => by
          rw [take_more Hmm.out] at hm
          rcases List.mem_append.1 hm with hm | hm
          · exact Hno.out m hm
          · rw [List.mem_singleton.1 hm, ← Hq1.out]; rfl)
        go_wp2_with (go_at_call 94; refine (Hc.out _).mono ?_; rintro e5 w5 ⟨rfl, k5⟩; have K5 := hid (HK.out.trans k5); clear k5)
        go_roundw
        case rel => exact ⟨i + 1, Hlt.out, by go_num, Hno2.out, K5.out⟩
        case measure => have := Hlt.out; simp [intOf]; omega
      | true =>
        cases q2 with
        | false =>
          have Hno2 := hid (show ∀ m ∈ l.take (i + 1), (isMir m && fixB m x y) = false from fun m hm => by
            rw [take_more Hmm.out] at hm
            rcases List.mem_append.1 hm with hm | hm
            · exact Hno.out m hm
            · rw [List.mem_singleton.1 hm, ← Hq2.out, Bool.and_false])
          go_wp2_with (first
            | (go_at_call 103; refine (Hd.out _).mono ?_; rintro e6 w6 ⟨rfl, k6⟩; have K6 := hid (K5.out.trans k6); clear k6)
            | (go_at_call 94; refine (Hc.out _).mono ?_; rintro e5 w5 ⟨rfl, k5⟩; have K5 := hid (HK.out.trans k5); clear k5; obtain ⟨p0, p1, p2, p3, p4, p5⟩ := Hcs.out w5 K5.out; simp only at p0 p1 p2 p3 p4 p5))
          go_roundw
          case rel => exact ⟨i + 1, Hlt.out, by go_num, Hno2.out, K6.out⟩
          case measure => have := Hlt.out; simp [intOf]; omega
        | true =>
          have Hf := hid (show q = true by rw [Hq.out]; exact List.any_eq_true.2 ⟨_, List.mem_of_getElem? Hmm.out, by rw [← Hq1.out, ← Hq2.out]; rfl⟩)
          go_wp2_with (first
            | (go_at_call 103; refine (Hd.out _).mono ?_; rintro e6 w6 ⟨rfl, k6⟩; have K6 := hid (K5.out.trans k6); clear k6)
            | (go_at_call 94; refine (Hc.out _).mono ?_; rintro e5 w5 ⟨rfl, k5⟩; have K5 := hid (HK.out.trans k5); clear k5; obtain ⟨p0, p1, p2, p3, p4, p5⟩ := Hcs.out w5 K5.out; simp only at p0 p1 p2 p3 p4 p5))
          go_ret
          exact ⟨by rw [Hf.out]; rfl, K6.out⟩
    · have hie : i = N := by omega
      subst hie
      clear hlt hi
      have Hf := hid (show q = false by
        have h1 := Hno.out
        rw [HN.out, List.take_length] at h1
        rw [Hq.out]
        unfold onB
        rw [List.any_eq_false]
        intro m hm
        rw [h1 m hm]; decide)
      go_wp2
      go_ret
      exact ⟨by rw [Hf.out]; rfl, HK.out⟩
theorem trB_nat {p : List ByteArray} (hp : PatOk p) {x y : Nat} (hx : x ≤ 1000) (hy : y ≤ 1000) : trB p x y = shB p x y := by
  rw [Bool.eq_iff_iff, trB_iff hp, shB_iff hp hx hy]
theorem refLattice_any {F : MS} {p : List ByteArray} {A : Option Addr} {c : Nat} {w : World} (hr : RdS F RT.str p (.slice A p.length c)) (hp : PatOk p) (hH : Has w F) :
    Calls Tryd.prog 35 #[.slice A p.length c] w fun e w' => ∃ g, IsLat p g ∧ e = .returned (.agg #[.int .i64 g.A, .int .i64 g.B, .int .i64 g.D]) ∧ Kp w w' := by
  have Htr := hid (fun (W : World) (hW : Has W F) (x y : Nat) (hx : x ≤ 1000) (hy : y ≤ 1000) => show Calls Tryd.prog 54 #[.slice A p.length c, .int .i64 x, .int .i64 y] W fun e w' => e = .returned (.bool (shB p x y)) ∧ ∃ q, w' = W.drewN q from by
    have := translated_any hr hp hW x y (by omega) (by omega)
    rw [trB_nat hp hx hy] at this
    exact this)
  have HH := hid hH
  have Hp := hid hp
  obtain ⟨b2, hb2⟩ : ∃ b, b = w.heap.size := ⟨_, rfl⟩
  have HA := hid (((Has.all w).alloc (.cells #[.int .i64 0, .int .i64 0, .int .i64 0] 26)).alloc (.cells #[.int .i64 0, .int .i64 0, .int .i64 0] 26))
  have HEA := hid ((Ext.alloc w (.cells #[.int .i64 0, .int .i64 0, .int .i64 0] 26)).trans (Ext.alloc _ (.cells #[.int .i64 0, .int .i64 0, .int .i64 0] 26)))
  rw [show (w.alloc (.cells #[.int .i64 0, .int .i64 0, .int .i64 0] 26)).heap.size = b2 + 1 by rw [hb2]; simp, ← hb2] at HA
  obtain ⟨hh, hhh⟩ : ∃ hh, hh = p.length := ⟨_, rfl⟩
  obtain ⟨ww, hww⟩ : ∃ ww, ww = wd p := ⟨_, rfl⟩
  have Hhh := hid hhh
  have Hww := hid hww
  have hh1 := hid (show 1 ≤ hh by rw [hhh]; exact hp.h1)
  have hh6 := hid (show hh ≤ 6 by rw [hhh]; exact hp.h6)
  have ww1 := hid (show 1 ≤ ww by rw [hww]; exact hp.w1)
  have ww6 := hid (show ww ≤ 6 by rw [hww]; exact hp.w6)
  have hitH := hid (show shB p 0 hh = true from (shB_iff hp (by omega) (by have := hh6.out; omega)).2 (by rw [hhh]; have := Sy.perY p 1; rwa [Int.mul_one] at this))
  have hitW := hid (show shB p ww 0 = true from (shB_iff hp (by have := ww6.out; omega) (by omega)).2 (by rw [hww]; have := Sy.perX p 1; rwa [Int.mul_one] at this))
  clear hr hp hH hhh hww
  go_enter Tryd.func35, Tryd.ntmps35
  go_wp2
  rw [← hb2]
  clear hb2
  obtain ⟨b1, hb1⟩ : ∃ b1, b1 = b2 + 1 := ⟨_, rfl⟩
  rw [← hb1] at HA ⊢
  clear hb1
  generalize hwa : ((w.alloc (Obj.cells #[Value.int IntKind.i64 0, Value.int IntKind.i64 0, Value.int IntKind.i64 0] 26)).alloc (Obj.cells #[Value.int IntKind.i64 0, Value.int IntKind.i64 0, Value.int IntKind.i64 0] 26)) = wa at *
  clear hwa
  have HA1 := hid (show Has wa (blk b1 #[.int .i64 0, .int .i64 0, .int .i64 0] 26 + (blk b2 #[.int .i64 0, .int .i64 0, .int .i64 0] 26 + MS.all w)) from HA.out)
  obtain ⟨G, hG⟩ : ∃ G, G = blk b2 #[.int .i64 0, .int .i64 0, .int .i64 0] 26 + MS.all w := ⟨_, rfl⟩
  have HF := hid (show ∀ W X, Has W (X + G) → Has W F from fun W X h => HH.out.of_all (X := X + blk b2 #[.int .i64 0, .int .i64 0, .int .i64 0] 26) (by rw [hG] at h; exact h.eq (by ac_rfl)))
  have HK := hid (show ∀ W X, Has W (X + G) → ∀ M, Has w M → Has W M from fun W X h M hM => hM.of_all (X := X + blk b2 #[.int .i64 0, .int .i64 0, .int .i64 0] 26) (by rw [hG] at h; exact h.eq (by ac_rfl)))
  have HB := hid (show ∀ W X, Has W (X + G) → Has W (blk b2 #[.int .i64 0, .int .i64 0, .int .i64 0] 26 + (X + MS.all w)) from fun W X h => by rw [hG] at h; exact h.eq (by ac_rfl))
  rw [← hG] at HA1
  clear HA hG
  go_loopw [4] (fun v wr => ∃ d D : Nat, d ≤ hh + 1 ∧ 1 ≤ d ∧ v = .int .i64 d ∧ (∀ y, 1 ≤ y → y < d → (D = 0 ∨ y < D) → shB p 0 y = false) ∧ (D ≠ 0 → D + 1 = d ∧ D ≤ hh ∧ shB p 0 D = true) ∧ (D = 0 → d ≤ hh) ∧ Has wr (blk b1 #[.int .i64 0, .int .i64 0, .int .i64 D] 26 + G) ∧ Ext w wr) (fun v _ => hh + 1 - (intOf v).toNat)
  case atStart => exact ⟨1, 0, by omega, Nat.le_refl _, rfl, fun y h1 h2 => by omega, fun h => absurd rfl h, fun _ => hh1.out, HA1.out, HEA.out⟩
  case round =>
    obtain ⟨d, D, hd, hd1, rfl, hno, hD, hz, hW, hE⟩ := hrel
    have Hno := hid hno
    have HD := hid hD
    have Hz := hid hz
    have HW := hid hW
    have HE := hid hE
    have Hd1 := hid hd1
    clear hno hD hz hW hE HA1 HEA
    have f2 : wr.cell? ⟨b1, 2, none⟩ = some (.int .i64 D) := HW.out.at_ rfl
    by_cases h0 : D = 0
    · subst h0
      have HzL := hid (show d ≤ hh from Hz.out rfl)
      have HnoL := hid (show ∀ y, 1 ≤ y → y < d → shB p 0 y = false from fun y h1 h2 => Hno.out y h1 h2 (.inl rfl))
      clear Hno Hz HD
      have hdI : (d : Int) ≤ 6 := by have := HzL.out; have := hh6.out; omega
      have Hc := hid (Htr.out wr (HF.out _ _ HW.out) 0 d (by omega) (by omega))
      obtain ⟨q, hq⟩ : ∃ q, q = shB p 0 d := ⟨_, rfl⟩
      rw [← hq] at Hc
      have Hq := hid hq
      clear hq hd hd1
      cases q with
      | false =>
        go_wp2_with (go_at_call 54; refine Hc.out.mono ?_; rintro e5 w5 ⟨rfl, q5, rfl⟩)
        go_roundw
        case rel => exact ⟨d + 1, 0, by have := HzL.out; omega, by omega, by go_num, fun y h1 h2 h3 => by
          by_cases hyd : y = d
          · rw [hyd]; exact Hq.out.symm
          · exact HnoL.out y h1 (by omega), fun h => absurd rfl h, fun _ => by
          have h1 := HzL.out
          have h2 : d ≠ hh := fun h => by
            have h3 := Hq.out
            rw [h, hitH.out] at h3
            cases h3
          omega, HW.out.drewN _, HE.out.trans (Ext.drewN _ _)⟩
        case measure => have := HzL.out; simp [intOf]; omega
      | true =>
        go_wp2_with (first
          | (go_at_call 54; refine Hc.out.mono ?_; rintro e5 w5 ⟨rfl, q5, rfl⟩)
          | (refine wpList_store_blk rfl (.tmp 17) (.tmp 16) 3 rfl size3 b1 2 (.int .i64 d) rfl rfl rfl #[.int .i64 0, .int .i64 0, .int .i64 (0 : Nat)] 26 _ (HW.out.drewN _) (by decide) ?_; intro w6 k1 k2; have K6 := hid k1; have E6 := hid ((HE.out.trans (Ext.drewN _ _)).trans k2); clear k1 k2))
        go_roundw
        case rel => exact ⟨d + 1, d, by have := HzL.out; omega, by omega, by go_num, fun y h1 h2 h3 => HnoL.out y h1 (by have := Hd1.out; omega), fun _ => ⟨rfl, HzL.out, Hq.out.symm⟩, fun h => by have := Hd1.out; omega, K6.out, E6.out⟩
        case measure => have := HzL.out; simp [intOf]; omega
    · have hD' := hid (HD.out h0)
      have h1D := hid (show 1 ≤ D by omega)
      have hDno := hid (show ∀ y, 1 ≤ y → y < D → shB p 0 y = false from fun y h1 h2 => Hno.out y h1 (by have := hD'.out; omega) (.inr h2))
      have hne : ((D : Int) == 0) = false := by rw [beq_eq_false_iff_ne]; omega
      have hDI : (D : Int) ≤ 6 := by have := hD'.out; have := hh6.out; omega
      clear h0 Hno HD Hz hd hd1 Hd1
      go_wp2
      clear f2
      go_loopw [5] (fun v wq => ∃ a A' B' : Nat, a ≤ ww + 1 ∧ 1 ≤ a ∧ v = .int .i64 a ∧ (∀ x, 1 ≤ x → x < a → (A' = 0 ∨ x < A') → ∀ y, y < D → shB p x y = false) ∧ (A' ≠ 0 → A' + 1 = a ∧ A' ≤ ww ∧ B' < D ∧ shB p A' B' = true ∧ ∀ y, y < B' → shB p A' y = false) ∧ (A' = 0 → a ≤ ww ∧ B' = 0) ∧ Has wq (blk b1 #[.int .i64 A', .int .i64 B', .int .i64 D] 26 + G) ∧ Ext w wq) (fun v _ => ww + 1 - (intOf v).toNat)
      case atStart => exact ⟨1, 0, 0, by omega, Nat.le_refl _, rfl, fun y h1 h2 => by omega, fun h => absurd rfl h, fun _ => ⟨ww1.out, rfl⟩, HW.out, HE.out⟩
      case round =>
        obtain ⟨a, A', B', ha, ha1, rfl, hno, hA, hz, hW, hE⟩ := hrel
        have Hno := hid hno
        have HA2 := hid hA
        have Hz := hid hz
        clear HW HE
        have HW := hid hW
        have HE := hid hE
        have Ha1 := hid ha1
        clear hno hA hz hW hE
        have f0 : wr.cell? ⟨b1, 0, none⟩ = some (.int .i64 A') := HW.out.at_ rfl
        by_cases h0 : A' = 0
        · subst h0
          have haI : (a : Int) ≤ 6 := by have := (Hz.out rfl).1; have := ww6.out; omega
          have Haw := hid (Hz.out rfl).1
          obtain rfl : B' = 0 := (Hz.out rfl).2
          have HnoL := hid (show ∀ x, 1 ≤ x → x < a → ∀ y, y < D → shB p x y = false from fun x h1 h2 => Hno.out x h1 h2 (.inl rfl))
          clear HA2 Hz ha ha1 Hno
          go_wp2
          clear f0
          go_loopw [6] (fun v wq => ∃ b A' B' : Nat, b ≤ D + 1 ∧ v = .int .i64 b ∧ (∀ y, y < b → (A' = 0 ∨ y < B') → shB p a y = false) ∧ (A' ≠ 0 → A' = a ∧ B' + 1 = b ∧ B' < D ∧ shB p a B' = true) ∧ (A' = 0 → b ≤ D ∧ B' = 0) ∧ Has wq (blk b1 #[.int .i64 A', .int .i64 B', .int .i64 D] 26 + G) ∧ Ext w wq) (fun v _ => D + 1 - (intOf v).toNat)
          case atStart => exact ⟨0, 0, 0, by omega, rfl, fun y h1 => by omega, fun h => absurd rfl h, fun _ => ⟨Nat.zero_le _, rfl⟩, HW.out, HE.out⟩
          case round =>
            obtain ⟨b, A', B', hb, rfl, hno2, hA3, hz2, hW, hE⟩ := hrel
            have Hno2 := hid hno2
            have HA3 := hid hA3
            have Hz2 := hid hz2
            clear HW HE
            have HW := hid hW
            have HE := hid hE
            clear hno2 hA3 hz2 hW hE
            have f0 : wr.cell? ⟨b1, 0, none⟩ = some (.int .i64 A') := HW.out.at_ rfl
            have f2 : wr.cell? ⟨b1, 2, none⟩ = some (.int .i64 D) := HW.out.at_ rfl
            have fin : ∀ B'' A'' : Nat, (A'' ≠ 0 → A'' = a ∧ B'' < D ∧ shB p a B'' = true ∧ ∀ y, y < B'' → shB p a y = false) → (A'' = 0 → B'' = 0 ∧ ∀ y, y < D → shB p a y = false) → ∀ W, Has W (blk b1 #[.int .i64 A'', .int .i64 B'', .int .i64 D] 26 + G) → Ext w W →
                ∃ a2 A' B' : Nat, a2 ≤ ww + 1 ∧ 1 ≤ a2 ∧ Value.int .i64 ((a : Int) + 1) = .int .i64 a2 ∧ (∀ x, 1 ≤ x → x < a2 → (A' = 0 ∨ x < A') → ∀ y, y < D → shB p x y = false) ∧ (A' ≠ 0 → A' + 1 = a2 ∧ A' ≤ ww ∧ B' < D ∧ shB p A' B' = true ∧ ∀ y, y < B' → shB p A' y = false) ∧ (A' = 0 → a2 ≤ ww ∧ B' = 0) ∧ Has W (blk b1 #[.int .i64 A', .int .i64 B', .int .i64 D] 26 + G) ∧ Ext w W := fun B'' A'' h1 h2 W hW hE =>
              ⟨a + 1, A'', B'', by have := Haw.out; omega, by omega, by congr 1, fun x hx1 hx2 hx3 y hy => by
                by_cases hxa : x = a
                · subst hxa
                  by_cases hA0 : A'' = 0
                  · exact (h2 hA0).2 y hy
                  · have := (h1 hA0).1; omega
                · exact HnoL.out x hx1 (by omega) y hy, fun hA0 => by
                obtain ⟨rfl, k2, k3, k4⟩ := h1 hA0
                exact ⟨rfl, Haw.out, k2, k3, k4⟩, fun hA0 => ⟨by
                have h3 : a ≠ ww := fun h => by
                  have h4 := (h2 hA0).2 0 (by have := h1D.out; omega)
                  rw [h, hitW.out] at h4
                  cases h4
                have := Haw.out
                omega, (h2 hA0).1⟩, hW, hE⟩
            have Fin := hid fin
            clear fin
            by_cases h0 : A' = 0
            · subst h0
              obtain rfl : B' = 0 := (Hz2.out rfl).2
              have HzL := hid (Hz2.out rfl).1
              have HnoM := hid (show ∀ y, y < b → shB p a y = false from fun y h1 => Hno2.out y h1 (.inl rfl))
              clear Hno2 Hz2 HA3
              by_cases hlt : b < D
              · have hltI : (b : Int) < D := by omega
                have Hlt := hid hlt
                have Hc := hid (Htr.out wr (HF.out _ _ HW.out) a b (by have := Haw.out; have := ww6.out; omega) (by omega))
                obtain ⟨q, hq⟩ : ∃ q, q = shB p a b := ⟨_, rfl⟩
                rw [← hq] at Hc
                have Hq := hid hq
                clear hq hlt hb
                cases q with
                | false =>
                  go_wp2_with (go_at_call 54; refine Hc.out.mono ?_; rintro e5 w5 ⟨rfl, q5, rfl⟩)
                  go_roundw
                  case rel => exact ⟨b + 1, 0, 0, by have := Hlt.out; omega, by go_num, fun y h1 h3 => by
                    by_cases hyd : y = b
                    · rw [hyd]; exact Hq.out.symm
                    · exact HnoM.out y (by omega), fun h => absurd rfl h, fun _ => ⟨Hlt.out, rfl⟩, HW.out.drewN _, HE.out.trans (Ext.drewN _ _)⟩
                  case measure => have := Hlt.out; simp [intOf]; omega
                | true =>
                  go_wp2_with (first
                    | (go_at_call 54; refine Hc.out.mono ?_; rintro e5 w5 ⟨rfl, q5, rfl⟩)
                    | (refine wpList_store_blk rfl (.tmp 39) (.tmp 38) 3 rfl size3 b1 0 (.int .i64 a) rfl rfl rfl #[.int .i64 (0 : Nat), .int .i64 (0 : Nat), .int .i64 D] 26 _ (HW.out.drewN _) (by simp) ?_; intro w6 k1 k2; have K6 := hid k1; have E6 := hid ((HE.out.trans (Ext.drewN _ _)).trans k2); clear k1 k2)
                    | (refine wpList_store_blk rfl (.tmp 41) (.tmp 40) 3 rfl size3 b1 1 (.int .i64 b) rfl rfl rfl #[.int .i64 a, .int .i64 (0 : Nat), .int .i64 D] 26 _ K6.out (by simp) ?_; intro w7 k1 k2; have K7 := hid k1; have E7 := hid (E6.out.trans k2); clear k1 k2))
                  go_roundw
                  case rel => exact ⟨b + 1, a, b, by have := Hlt.out; omega, by go_num, fun y h1 h3 => HnoM.out y (by have := Ha1.out; omega), fun _ => ⟨rfl, rfl, Hlt.out, Hq.out.symm⟩, fun h => by have := Ha1.out; omega, K7.out, E7.out⟩
                  case measure => have := Hlt.out; simp [intOf]; omega
              · have hbe : b = D := by have := HzL.out; omega
                subst hbe
                clear hlt hb
                go_wp2
                go_roundw
                case rel => exact Fin.out 0 0 (fun h => absurd rfl h) (fun _ => ⟨rfl, fun y hy => HnoM.out y hy⟩) _ HW.out HE.out
                case measure => have := Haw.out; simp [intOf]; omega
            · have hA3' := hid (HA3.out h0)
              have hA1 := hid (show A' ≠ 0 from h0)
              have hne : ((A' : Int) == 0) = false := by rw [beq_eq_false_iff_ne]; omega
              have fin2 := hid (Fin.out B' A' (fun _ => ⟨hA3'.out.1, hA3'.out.2.2.1, hA3'.out.2.2.2, fun y hy => Hno2.out y (by have := hA3'.out.2.1; omega) (.inr hy)⟩) (fun h => absurd h hA1.out))
              clear h0 hb HA3 Hz2
              by_cases hlt : b < D
              · have hltI : (b : Int) < D := by omega
                clear hlt
                go_wp2
                go_roundw
                case rel => exact fin2.out _ HW.out HE.out
                case measure => have := Haw.out; simp [intOf]; omega
              · have hltI : ¬ (b : Int) < D := by omega
                clear hlt
                go_wp2
                go_roundw
                case rel => exact fin2.out _ HW.out HE.out
                case measure => have := Haw.out; simp [intOf]; omega
        · have hA2' := hid (HA2.out h0)
          have hne : ((A' : Int) == 0) = false := by rw [beq_eq_false_iff_ne]; omega
          have hAl := hid (show 1 ≤ A' by omega)
          have f1 : wr.cell? ⟨b1, 1, none⟩ = some (.int .i64 B') := HW.out.at_ rfl
          have f2 : wr.cell? ⟨b1, 2, none⟩ = some (.int .i64 D) := HW.out.at_ rfl
          have Hlat := hid (show IsLat p ⟨A', B', D⟩ from {
            d1 := h1D.out
            dh := by rw [← Hhh.out]; exact hD'.out.2.1
            dmin := hDno.out
            dhit := fun _ => hD'.out.2.2
            a1 := hAl.out
            aw := by rw [← Hww.out]; exact hA2'.out.2.1
            bd := hA2'.out.2.2.1
            amin := fun x h1 h2 y hy => Hno.out x h1 (by have := hA2'.out.1; have h2' : x < A' := h2; omega) (.inr h2) y hy
            ahit := fun _ => hA2'.out.2.2.2
            awd := fun h => by
              have h1 : A' = ww := by rw [Hww.out]; exact h
              have h2 := hA2'.out.2.2.2.2
              rcases Nat.eq_zero_or_pos B' with h3 | h3
              · exact h3
              · have h4 := h2 0 h3
                rw [h1, hitW.out] at h4
                cases h4 })
          clear h0 ha ha1 HA2 Hz
          go_wp2_with (refine wpList_store_whole rfl (.tmp 2) (.tmp 42) 26 rfl 3 size26 b2 (.agg #[.int .i64 A', .int .i64 B', .int .i64 D]) rfl rfl rfl (by simp [Value.cells, Value.oneCell']) #[.int .i64 0, .int .i64 0, .int .i64 0] 26 _ (HB.out _ _ HW.out) rfl ?_; intro w6 k1 k2; have K6 := hid (show Has w6 (blk b2 #[.int .i64 A', .int .i64 B', .int .i64 D] 26 + (blk b1 #[.int .i64 A', .int .i64 B', .int .i64 D] 26 + MS.all w)) from k1); have E6 := hid (HE.out.trans k2); clear k1 k2)
          have q0 : w6.cell? ⟨b2, 0, none⟩ = some (.int .i64 A') := K6.out.at_ rfl
          have q1 : w6.cell? ⟨b2, 1, none⟩ = some (.int .i64 B') := K6.out.at_ rfl
          have q2 : w6.cell? ⟨b2, 2, none⟩ = some (.int .i64 D) := K6.out.at_ rfl
          exact bodyPost_ret (v := .agg #[.int .i64 A', .int .i64 B', .int .i64 D]) (by simp [results, Tryd.results35, go_sem, q0, q1, q2]) rfl
            ⟨⟨A', B', D⟩, Hlat.out, rfl, fun M hM => hM.of_all (X := blk b2 #[.int .i64 A', .int .i64 B', .int .i64 D] 26 + blk b1 #[.int .i64 A', .int .i64 B', .int .i64 D] 26) (K6.out.eq (by ac_rfl)), E6.out⟩
end Go.Proofs.YteibbnmlmbhkpaaDoor

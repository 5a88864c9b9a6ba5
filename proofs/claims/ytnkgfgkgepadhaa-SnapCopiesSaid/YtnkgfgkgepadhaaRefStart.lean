/-
  The walk of the reference's Start.
-/
import Derived.Test.YtnkgfgkgepadhaaRefParcel
namespace Go.Proofs.Ytnkgfgkgepadhaa
open Go.RowKit
set_option linter.unusedVariables false
set_option linter.unusedSimpArgs false
set_option maxHeartbeats 4000000
set_option maxRecDepth 100000

theorem IsRef.adding {Pl : MS} {σ : Net} {b : Nat} {m : MS} (h : IsRef Pl σ b m) :
    ∃ hd v4 m4 R, m = blk b hd 118 + (m4 + R) ∧ hd.size = 5 ∧ hd[4]? = some v4 ∧ SlR 150 5 RShot σ.shots v4 m4 ∧ ∀ l' v' m', SlR 150 5 RShot l' v' m' → IsRef Pl { σ with shots := l' } b (blk b (hd.setIfInBounds 4 v') 118 + (m' + R)) := by
  obtain ⟨v0, v1, v2, v3, v4, m0, m1, m2, m3, m4, rfl, h0, h1, h2, h3, h4⟩ := h
  exact ⟨#[v0, v1, v2, v3, v4], v4, m4, m0 + (m1 + (m2 + m3)), by ac_rfl, rfl, rfl, h4, fun l' v' m' h' => ⟨v0, v1, v2, v3, v', m0, m1, m2, m3, m', by
    show blk b #[v0, v1, v2, v3, v'] 118 + _ = _
    ac_rfl, h0, h1, h2, h3, h'⟩⟩
def RPost3 (F : MS) (w : World) (k c : Int) (σ' : Net) (e : Ending) (w' : World) : Prop := ∃ b' X, e = .returned (.tuple #[.pointer (some ⟨b', 0, none⟩), .int .i64 k, .int .i64 c]) ∧ RdRef (X + F) σ' b' ∧ Has w' (X + F) ∧ Ext w w'

theorem rstart_no {F : MS} {σ : Net} {b : Nat} {w : World} (hr : RdRef F σ b) (hH : Has w F) (x : Int) (h : ¬ (0 ≤ x ∧ x < σ.sta.length)) :
    Calls Try.prog 69 #[.pointer (some ⟨b, 0, none⟩), .int .i64 x] w (RPost3 F w 0 2 σ) := by
  obtain ⟨A0, c0, A2, c2, A3, c3, A4, c4, a0, k0, a2, k2, a3, k3, a4, k4⟩ := hr.head
  have f0 := a0.cell0 hH
  have Hst := hid (station_any f0 x)
  rw [staB_no h] at Hst
  have Hr := hid hr
  have HH := hid hH
  clear a0 k0 a2 k2 a3 k3 a4 k4 hr hH h
  go_enter Try.func69, Try.ntmps69
  go_wp2_with (go_at_call 87; refine Hst.out.mono ?_; rintro e w' ⟨rfl, rfl⟩)
  exact bodyPost_ret (v := .tuple #[.pointer (some ⟨b, 0, none⟩), .int .i64 0, .int .i64 2]) (by simp [results, Try.results69, go_sem]) rfl ⟨b, 0, rfl, Hr.out.same, HH.out.same, Ext.refl w⟩
theorem rstart_full {F : MS} {σ : Net} {b : Nat} {w : World} (hr : RdRef F σ b) (hH : Has w F) (x : Int) (h : 0 ≤ x ∧ x < σ.sta.length) (h8 : 8 ≤ σ.shots.length) :
    Calls Try.prog 69 #[.pointer (some ⟨b, 0, none⟩), .int .i64 x] w (RPost3 F w 0 8 σ) := by
  obtain ⟨A0, c0, A2, c2, A3, c3, A4, c4, a0, k0, a2, k2, a3, k3, a4, k4⟩ := hr.head
  have f0 := a0.cell0 hH
  have f4 := a4.cell0 hH
  have Hst := hid (station_any f0 x)
  rw [staB_yes h] at Hst
  have Hr := hid hr
  have HH := hid hH
  have h8I : (8 : Int) ≤ σ.shots.length := by omega
  clear a0 k0 a2 k2 a3 k3 a4 k4 hr hH h
  go_enter Try.func69, Try.ntmps69
  go_wp2_with (go_at_call 87; refine Hst.out.mono ?_; rintro e w' ⟨rfl, rfl⟩)
  exact bodyPost_ret (v := .tuple #[.pointer (some ⟨b, 0, none⟩), .int .i64 0, .int .i64 8]) (by simp [results, Try.results69, go_sem]) rfl ⟨b, 0, rfl, Hr.out.same, HH.out.same, Ext.refl w⟩

theorem rstart_yes {F : MS} {σ : Net} {b : Nat} {w : World} (hok : NetOk σ) (hck : CkOk σ) (hr : RdRef F σ b) (hH : Has w F) (k : Nat) (hk : k < σ.sta.length) (h8 : σ.shots.length < 8) :
    Calls Try.prog 69 #[.pointer (some ⟨b, 0, none⟩), .int .i64 k] w (RPost3 F w (σ.shots.length + 1) 0 (σ.addShot.record k σ.shots.length)) := by
  obtain ⟨A0, c0, A2, c2, A3, c3, A4, c4, a0, k0, a2, k2, a3, k3, a4, k4⟩ := hr.head
  have f0 := a0.cell0 hH
  have f4 := a4.cell0 hH
  have Hst := hid (station_any f0 k)
  rw [staB_yes ⟨by omega, by omega⟩] at Hst
  have Hc := hid (rcopy_any hok hr hH)
  obtain ⟨s, hs⟩ : ∃ s, σ.sta[k]? = some s := ⟨_, List.getElem?_eq_getElem hk⟩
  have hx : σ.addShot.shots[σ.shots.length]? = some (Shot.new σ.sta.length) := by simp [Net.addShot]
  have Hrec := hid (fun (X : MS) (w' : World) (b' : Nat) (m' : MS) (h : IsRef (X + F) σ.addShot b' m') (hw : Has w' (m' + (X + F))) => rrecords_any (F := X + F) (hok.addShot h8) h hw k σ.shots.length s hs (hck k s hs) _ hx)
  obtain ⟨_, _, hsl, _⟩ := Net.record_shot (σ := σ.addShot) hs hx
  have Hsl := hid (show (σ.addShot.record k σ.shots.length).shots.length = σ.shots.length + 1 by rw [hsl]; simp [Net.addShot])
  have h8I : ¬ (8 : Int) ≤ σ.shots.length := by omega
  have h8J : (σ.shots.length : Int) < 8 := by omega
  have n5 : σ.sta.length ≤ 5 := hok.n5
  have n5I : (σ.sta.length : Int) ≤ 5 := by omega
  obtain ⟨σf, hσf⟩ : ∃ σf, σf = σ.addShot.record k σ.shots.length := ⟨_, rfl⟩
  rw [← hσf] at Hrec Hsl ⊢
  clear a0 k0 a2 k2 a3 k3 a4 k4 hr hH hok hck hs hx hsl hσf h8
  go_enter Try.func69, Try.ntmps69
  go_wp2_with (first
    | (go_at_call 87; refine Hst.out.mono ?_; rintro e w' ⟨rfl, rfl⟩)
    | (go_at_call 88; refine Hc.out.mono ?_; rintro e w1 ⟨b1, m1, rfl, j1, j2, j3⟩
       obtain ⟨Ah, ch, _, hcell⟩ := j1.head
       have f10 := hcell _ _ j2
       have J1 := hid j1
       have J2 := hid j2
       have J3 := hid j3
       clear hcell j1 j2 j3))
  have hHd := J2.out.drew
  refine wp_region_grp (fun _ => True) none [0, 2, 4] [(6, [1, 3, 5])] [1, 3, 5, 6, 7] [(8, false)] (by kernel_rfl) rfl (by kernel_rfl) (by kernel_rfl) (by kernel_rfl) (by kernel_rfl) (by decide +kernel)
    (by repeat (first | with_reducible refine PanicOk.thn ?_ | with_reducible refine PanicOk.blk ?_ | exact PanicOk.body _ _ _)) ?_
  have hS : True := trivial
  repeat
    (refine pre_quiet ?_ hS rfl rfl (fun W hW => ?_) ?_
     rotate_left 1
     · obtain hW1 := hW
       go_simp
       exact rfl
     simp only [Act.put, List.setIfInBounds_toArray, List.set_cons_zero, List.set_cons_succ])
  refine pre_done ⟨m1 + F, fun i f v m => if i = 1 then Bools (List.replicate σ.sta.length false) v m else if i = 6 then v = .agg #[f 1, f 3, f 5, .slice none 0 0, .slice none 0 0] ∧ m = 0 else if i = 7 then ∃ g, v = .pointer (some ⟨g, 0, none⟩) ∧ m = blk g #[.slice none 0 0, .slice none 0 0, .slice none 0 0, .slice none 0 0, .slice none 0 0] 150 else Ints (List.replicate σ.sta.length 0) v m, hHd, fun _ _ _ => trivial, ?_, ?_, ?_, ?_⟩
  · intro j hj
    simp only [List.mem_cons, List.not_mem_nil, or_false] at hj
    rcases hj with rfl | rfl | rfl | rfl | rfl <;> exact of_decide_eq_true rfl
  · intro i f f' v m hd hG
    by_cases h6 : i = 6
    · subst h6
      have e1 := hd 1 (by decide)
      have e3 := hd 3 (by decide)
      have e5 := hd 5 (by decide)
      simpa [e1, e3, e5] using hG
    · simpa [h6] using hG
  · intro i hi o ho a' f W M K hev hev2 hev3 hw hK
    simp only [List.mem_cons, List.not_mem_nil, or_false] at hi
    rcases hi with rfl | rfl | rfl | rfl | rfl
    · cases (show some _ = some o from ho)
      refine op_make_sl (.tmp 30) (.tmp 30) 69 rfl 4 _ 1 1 Try.underlying69 info4 .i64 .i64 σ.sta.length ((hev 30 (by decide)).trans rfl) ((hev 30 (by decide)).trans rfl) (by omega) (by simp only [maxLen]; omega) (M + (m1 + F)) hw ?_
      intro v w' m' h1 h2 h3 _
      exact hK v w' m' (made_bools h1) h2 h3
    · cases (show some _ = some o from ho)
      refine op_make_sl (.tmp 32) (.tmp 32) 22 rfl 3 _ 1 8 Try.underlying22 info3 .i64 .i64 σ.sta.length ((hev 32 (by decide)).trans rfl) ((hev 32 (by decide)).trans rfl) (by omega) (by simp only [maxLen]; omega) (M + (m1 + F)) hw ?_
      intro v w' m' h1 h2 h3 _
      exact hK v w' m' (made_ints h1) h2 h3
    · cases (show some _ = some o from ho)
      refine op_make_sl (.tmp 34) (.tmp 34) 22 rfl 3 _ 1 8 Try.underlying22 info3 .i64 .i64 σ.sta.length ((hev 34 (by decide)).trans rfl) ((hev 34 (by decide)).trans rfl) (by omega) (by simp only [maxLen]; omega) (M + (m1 + F)) hw ?_
      intro v w' m' h1 h2 h3 _
      exact hK v w' m' (made_ints h1) h2 h3
    · cases (show some _ = some o from ho)
      obtain ⟨n1, h1⟩ := hev3 1 (by decide)
      obtain ⟨n3, h3⟩ := hev3 3 (by decide)
      obtain ⟨n5, h5⟩ := hev3 5 (by decide)
      obtain ⟨T1, u1, h1, _⟩ := SlR.form (show Bools (List.replicate σ.sta.length false) (f 1) n1 by simpa using h1)
      obtain ⟨T3, u3, h3, _⟩ := SlR.form (show Ints (List.replicate σ.sta.length 0) (f 3) n3 by simpa using h3)
      obtain ⟨T5, u5, h5, _⟩ := SlR.form (show Ints (List.replicate σ.sta.length 0) (f 5) n5 by simpa using h5)
      rw [List.length_replicate] at h1 h3 h5
      have e1 : a'.tmps[31]?.getD undef = .slice T1 σ.sta.length u1 := by
        have := hev2 1 (by decide)
        rw [← h1, ← this]; simp [Act.eval, dstOf]
      have e3 : a'.tmps[33]?.getD undef = .slice T3 σ.sta.length u3 := by
        have := hev2 3 (by decide)
        rw [← h3, ← this]; simp [Act.eval, dstOf]
      have e5 : a'.tmps[35]?.getD undef = .slice T5 σ.sta.length u5 := by
        have := hev2 5 (by decide)
        rw [← h5, ← this]; simp [Act.eval, dstOf]
      refine op_run (.agg #[f 1, f 3, f 5, .slice none 0 0, .slice none 0 0]) W (by rw [h1, h3, h5]; go_simp) ?_
      exact hK _ W 0 ⟨rfl, rfl⟩ (by rw [MS.zero_add]; exact hw) (Ext.refl W)
    · cases (show some _ = some o from ho)
      refine op_run (.pointer (some ⟨W.heap.size, 0, none⟩)) (W.alloc (.cells #[.slice none 0 0, .slice none 0 0, .slice none 0 0, .slice none 0 0, .slice none 0 0] 150)) (by go_simp) ?_
      exact hK _ _ _ ⟨W.heap.size, rfl, rfl⟩ (hw.alloc _) (Ext.alloc _ _)
  · intro f g w6 hfg H1 E1
    have q1 := hfg 1 (by simp)
    have q3 := hfg 3 (by simp)
    have q5 := hfg 5 (by simp)
    have q6 := hfg 6 (by simp)
    have q7 := hfg 7 (by simp)
    simp only [if_true, if_neg (by decide : ¬ 3 = 1), if_neg (by decide : ¬ 5 = 1), if_neg (by decide : ¬ 6 = 1), if_neg (by decide : ¬ 7 = 1), if_neg (by decide : ¬ 3 = 6), if_neg (by decide : ¬ 5 = 6), if_neg (by decide : ¬ 7 = 6), if_neg (by decide : ¬ 3 = 7), if_neg (by decide : ¬ 5 = 7)] at q1 q3 q5 q6 q7
    obtain ⟨q6, q60⟩ := q6
    obtain ⟨gq, q7, q70⟩ := q7
    obtain ⟨T1, u1, e1, _⟩ := SlR.form q1
    obtain ⟨T3, u3, e3, _⟩ := SlR.form q3
    obtain ⟨T5, u5, e5, _⟩ := SlR.form q5
    rw [List.length_replicate] at e1 e3 e5
    rw [e1, e3, e5] at q6
    rw [e1] at q1
    rw [e3] at q3
    rw [e5] at q5
    simp only [List.foldl_cons, List.foldl_nil, putL, q6, q7, e1, e3, e5]
    obtain ⟨R, hR⟩ : ∃ R, R = g 1 + (g 3 + (g 5 + (m1 + F))) := ⟨_, rfl⟩
    have H7 : Has w6 (blk gq #[.slice none 0 0, .slice none 0 0, .slice none 0 0, .slice none 0 0, .slice none 0 0] 150 + R) := (show Has w6 (g 7 + (g 6 + (g 5 + (g 3 + (g 1 + (m1 + F)))))) from H1).eq (by rw [q60, q70, MS.zero_add, hR]; ac_rfl)
    have Hq := hid (And.intro q1 (And.intro q3 q5))
    have HR := hid hR
    have E6 := hid ((J3.out.trans (Ext.drew _)).trans E1)
    clear hfg H1 E1 q60 q70 q6 q7 e1 e3 e5 q1 q3 q5 hR
    show wpTxt _ _ _ _ _ _ (((((Act.put _ (some 31) (.slice T1 σ.sta.length u1)).put (some 33) (.slice T3 σ.sta.length u3)).put (some 35) (.slice T5 σ.sta.length u5)).put (some 36) (.agg #[.slice T1 σ.sta.length u1, .slice T3 σ.sta.length u3, .slice T5 σ.sta.length u5, .slice none 0 0, .slice none 0 0])).put (some 9) (.pointer (some ⟨gq, 0, none⟩))) _
    simp only [Act.put, List.setIfInBounds_toArray, List.set_cons_zero, List.set_cons_succ]
    refine txt_op rfl rfl ?_
    refine op_store_whole (.tmp 9) (.tmp 36) 150 rfl 5 size150 gq (.agg #[.slice T1 σ.sta.length u1, .slice T3 σ.sta.length u3, .slice T5 σ.sta.length u5, .slice none 0 0, .slice none 0 0]) rfl rfl rfl (by simp [Value.cells, Value.oneCell']) #[.slice none 0 0, .slice none 0 0, .slice none 0 0, .slice none 0 0, .slice none 0 0] 150 R H7 rfl ?_
    intro w7 k7 k8
    refine ⟨fun _ => trivial, ?_⟩
    simp only [Act.put]
    refine txt_done ?_
    have H8 := hid (show Has w7 (blk gq #[.slice T1 σ.sta.length u1, .slice T3 σ.sta.length u3, .slice T5 σ.sta.length u5, .slice none 0 0, .slice none 0 0] 150 + (0 + (0 + R))) from by rw [MS.zero_add, MS.zero_add]; exact k7)
    have E8 := hid (E6.out.trans k8)
    clear H7 k7 k8 E6 hHd f0 f4 f10
    generalize hn : σ.sta.length = n at *
    go_wp2
    go_loopw [10] (fun v wq => ∃ t : Nat, t ≤ n ∧ v = .int .i64 t ∧ ∃ vc mc vu mu, Bools2 (List.replicate t (List.replicate n false)) vc mc ∧ Ints3 (List.replicate t (List.replicate n [])) vu mu ∧ Has wq (blk gq #[.slice T1 n u1, .slice T3 n u3, .slice T5 n u5, vc, vu] 150 + (mc + (mu + R))) ∧ Ext w wq) (fun v _ => n - (intOf v).toNat)
    case atStart => exact ⟨0, Nat.zero_le _, rfl, _, 0, _, 0, SlR.empty _ _ _, SlR.empty _ _ _, H8.out, E8.out⟩
    case round =>
      obtain ⟨t, ht, rfl, vc, mc, vu, mu, hvc, hvu, hHs, hEs⟩ := hrel
      obtain ⟨Bc, dc, rfl, _⟩ := SlR.form hvc
      obtain ⟨Bu, du, rfl, _⟩ := SlR.form hvu
      simp only [List.length_replicate] at hvc hvu hHs
      have Hvc := hid hvc
      have Hvu := hid hvu
      have HEs := hid hEs
      by_cases hlt : t < n
      · have Hlt := hid hlt
        have hltI : (t : Int) < n := by omega
        have H3 := hid (show Has wr.drew (blk gq #[.slice T1 n u1, .slice T3 n u3, .slice T5 n u5, .slice Bc t dc, .slice Bu t du] 150 + (mc + (mu + R))) from hHs.drew)
        have hS : wr.drew.cell? ⟨gq, 3, none⟩ = some (.slice Bc t dc) := H3.out.at_ rfl
        clear hvc hvu hHs hEs hlt
        go_wp2
        refine wp_region_txt (fun W => W.cell? ⟨gq, 3, none⟩ = some (.slice Bc t dc)) (some 7)
          [(0, true), (1, true), (2, true), (3, false), (4, false), (5, false), (6, true), (7, false)] (by kernel_rfl) rfl (by kernel_rfl) (by kernel_rfl) (by repeat (first | with_reducible refine PanicOk.thn ?_ | with_reducible refine PanicOk.blk ?_ | exact PanicOk.body _ _ _)) ?_
        repeat
          (refine txt_quiet ?_ hS rfl rfl (fun W hW => ?_) ?_
           rotate_left 1
           · obtain hW1 := hW
             go_simp
             exact rfl
           simp only [Act.put, List.setIfInBounds_toArray, List.set_cons_zero, List.set_cons_succ])
        refine txt_op rfl rfl ?_
        refine op_make_sl (.tmp 44) (.tmp 44) 69 rfl 4 _ 1 1 Try.underlying69 info4 .i64 .i64 n rfl rfl (by omega) (by simp only [maxLen]; omega) _ H3.out ?_
        intro v5 w5 m5 h51 H5 E5 _
        obtain ⟨A5, c5, rfl, _⟩ := h51.form
        have keep : ∀ (W : World) (X : MS), Has W (X + (blk gq #[.slice T1 n u1, .slice T3 n u3, .slice T5 n u5, .slice Bc t dc, .slice Bu t du] 150 + (mu + R))) → W.cell? ⟨gq, 3, none⟩ = some (.slice Bc t dc) := fun W X h => (h.eq (b := blk gq #[.slice T1 n u1, .slice T3 n u3, .slice T5 n u5, .slice Bc t dc, .slice Bu t du] 150 + (X + (mu + R))) (by ac_rfl)).at_ rfl
        have hS5 := keep w5 (m5 + mc) (H5.eq (by ac_rfl))
        refine ⟨fun _ => hS5, ?_⟩
        simp only [Act.put, List.setIfInBounds_toArray, List.set_cons_zero, List.set_cons_succ]
        clear hS
        refine txt_op rfl rfl ?_
        refine op_run (.slice (some ⟨w5.heap.size, 0, none⟩) 1 1) (w5.alloc (.cells #[.slice A5 n c5] 69)) (by go_simp) ?_
        have hS6 := keep (w5.alloc (.cells #[.slice A5 n c5] 69)) (pts w5.heap.size (.cells #[.slice A5 n c5] 69) + (m5 + mc)) ((H5.alloc _).eq (by ac_rfl))
        refine ⟨fun _ => hS6, ?_⟩
        simp only [Act.put, List.setIfInBounds_toArray, List.set_cons_zero, List.set_cons_succ]
        clear hS5
        refine txt_op rfl rfl ?_
        refine op_push (.tmp 43) (.tmp 46) row64 rfl (.slice Bc t dc) rfl _ rfl rfl (El Bools) El.one El.len (List.replicate t (List.replicate n false)) (List.replicate n false) mc m5 _ Hvc.out ⟨_, rfl, made_bools h51, rfl⟩ (H5.eq (b := mc + (m5 + (blk gq #[.slice T1 n u1, .slice T3 n u3, .slice T5 n u5, .slice Bc t dc, .slice Bu t du] 150 + (mu + R)))) (by ac_rfl)) t (by simp) (by omega) (by omega) ?_
        intro A7 c7 w7 m7 j4 j5 j6
        have hS7 := keep w7 m7 j5
        refine ⟨fun _ => hS7, ?_⟩
        simp only [Act.put, List.setIfInBounds_toArray, List.set_cons_zero, List.set_cons_succ]
        clear hS6
        repeat
          (refine txt_quiet ?_ hS7 rfl rfl (fun W hW => ?_) ?_
           rotate_left 1
           · obtain hW1 := hW
             go_simp
             exact rfl
           simp only [Act.put, List.setIfInBounds_toArray, List.set_cons_zero, List.set_cons_succ])
        refine txt_op rfl rfl ?_
        refine op_store_blk (.tmp 48) (.tmp 47) 64 rfl size64 gq 3 (.slice A7 (t + 1) c7) rfl rfl rfl #[.slice T1 n u1, .slice T3 n u3, .slice T5 n u5, .slice Bc t dc, .slice Bu t du] 150 (m7 + (mu + R)) (j5.eq (by ac_rfl)) (by simp) ?_
        intro w8 j7 j8
        refine ⟨fun h => absurd rfl h, ?_⟩
        simp only [Act.put]
        refine txt_done ?_
        have H8 := hid (show Has w8 (blk gq #[.slice T1 n u1, .slice T3 n u3, .slice T5 n u5, .slice A7 (t + 1) c7, .slice Bu t du] 150 + (m7 + (mu + R))) from j7)
        have E8 := hid ((((HEs.out.trans (Ext.drew _)).trans E5).trans j6).trans j8)
        have Hc7 := hid (show Bools2 (List.replicate (t + 1) (List.replicate n false)) (.slice A7 (t + 1) c7) m7 by rw [List.replicate_succ']; exact j4)
        clear keep hS7 h51 H5 E5 j4 j5 j6 j7 j8 H3
        go_wp2
        have H3 := hid (show Has w8.drew (blk gq #[.slice T1 n u1, .slice T3 n u3, .slice T5 n u5, .slice A7 (t + 1) c7, .slice Bu t du] 150 + (m7 + (mu + R))) from H8.out.drew)
        have hS : w8.drew.cell? ⟨gq, 4, none⟩ = some (.slice Bu t du) := H3.out.at_ rfl
        refine wp_region_txt (fun W => W.cell? ⟨gq, 4, none⟩ = some (.slice Bu t du)) (some 7)
          [(0, true), (1, true), (2, true), (3, false), (4, false), (5, false), (6, true), (7, false)] (by kernel_rfl) rfl (by kernel_rfl) (by kernel_rfl) (by repeat (first | with_reducible refine PanicOk.thn ?_ | with_reducible refine PanicOk.blk ?_ | exact PanicOk.body _ _ _)) ?_
        repeat
          (refine txt_quiet ?_ hS rfl rfl (fun W hW => ?_) ?_
           rotate_left 1
           · obtain hW1 := hW
             go_simp
             exact rfl
           simp only [Act.put, List.setIfInBounds_toArray, List.set_cons_zero, List.set_cons_succ])
        refine txt_op rfl rfl ?_
        refine op_make_sl (.tmp 51) (.tmp 51) 44 rfl 22 _ 1 24 Try.underlying44 info22 .i64 .i64 n rfl rfl (by omega) (by simp only [maxLen]; omega) _ H3.out ?_
        intro v5 w5 m5 h51 H5 E5 _
        obtain ⟨A5, c5, rfl, _⟩ := h51.form
        have keep : ∀ (W : World) (X : MS), Has W (X + (blk gq #[.slice T1 n u1, .slice T3 n u3, .slice T5 n u5, .slice A7 (t + 1) c7, .slice Bu t du] 150 + (m7 + R))) → W.cell? ⟨gq, 4, none⟩ = some (.slice Bu t du) := fun W X h => (h.eq (b := blk gq #[.slice T1 n u1, .slice T3 n u3, .slice T5 n u5, .slice A7 (t + 1) c7, .slice Bu t du] 150 + (X + (m7 + R))) (by ac_rfl)).at_ rfl
        have hS5 := keep w5 (m5 + mu) (H5.eq (by ac_rfl))
        refine ⟨fun _ => hS5, ?_⟩
        simp only [Act.put, List.setIfInBounds_toArray, List.set_cons_zero, List.set_cons_succ]
        clear hS
        refine txt_op rfl rfl ?_
        refine op_run (.slice (some ⟨w5.heap.size, 0, none⟩) 1 1) (w5.alloc (.cells #[.slice A5 n c5] 44)) (by go_simp) ?_
        have hS6 := keep (w5.alloc (.cells #[.slice A5 n c5] 44)) (pts w5.heap.size (.cells #[.slice A5 n c5] 44) + (m5 + mu)) ((H5.alloc _).eq (by ac_rfl))
        refine ⟨fun _ => hS6, ?_⟩
        simp only [Act.put, List.setIfInBounds_toArray, List.set_cons_zero, List.set_cons_succ]
        clear hS5
        refine txt_op rfl rfl ?_
        refine op_push (.tmp 50) (.tmp 53) row36 rfl (.slice Bu t du) rfl _ rfl rfl (El Ints2) El.one El.len (List.replicate t (List.replicate n [])) (List.replicate n []) mu m5 _ Hvu.out ⟨_, rfl, made_nils h51, rfl⟩ (H5.eq (b := mu + (m5 + (blk gq #[.slice T1 n u1, .slice T3 n u3, .slice T5 n u5, .slice A7 (t + 1) c7, .slice Bu t du] 150 + (m7 + R)))) (by ac_rfl)) t (by simp) (by omega) (by omega) ?_
        intro A9 c9 w9 m9 j4 j5 j6
        have hS7 := keep w9 m9 j5
        refine ⟨fun _ => hS7, ?_⟩
        simp only [Act.put, List.setIfInBounds_toArray, List.set_cons_zero, List.set_cons_succ]
        clear hS6
        repeat
          (refine txt_quiet ?_ hS7 rfl rfl (fun W hW => ?_) ?_
           rotate_left 1
           · obtain hW1 := hW
             go_simp
             exact rfl
           simp only [Act.put, List.setIfInBounds_toArray, List.set_cons_zero, List.set_cons_succ])
        refine txt_op rfl rfl ?_
        refine op_store_blk (.tmp 55) (.tmp 54) 36 rfl size36 gq 4 (.slice A9 (t + 1) c9) rfl rfl rfl #[.slice T1 n u1, .slice T3 n u3, .slice T5 n u5, .slice A7 (t + 1) c7, .slice Bu t du] 150 (m9 + (m7 + R)) (j5.eq (by ac_rfl)) (by simp) ?_
        intro w10 j7 j8
        refine ⟨fun h => absurd rfl h, ?_⟩
        simp only [Act.put]
        refine txt_done ?_
        have H10 := hid (show Has w10 (blk gq #[.slice T1 n u1, .slice T3 n u3, .slice T5 n u5, .slice A7 (t + 1) c7, .slice A9 (t + 1) c9] 150 + (m7 + (m9 + R))) from j7.eq (by show blk gq #[.slice T1 n u1, .slice T3 n u3, .slice T5 n u5, .slice A7 (t + 1) c7, .slice A9 (t + 1) c9] 150 + _ = _; ac_rfl))
        have E10 := hid ((((E8.out.trans (Ext.drew _)).trans E5).trans j6).trans j8)
        have Hc9 := hid (show Ints3 (List.replicate (t + 1) (List.replicate n [])) (.slice A9 (t + 1) c9) m9 by rw [List.replicate_succ']; exact j4)
        clear keep hS7 h51 H5 E5 j4 j5 j6 j7 j8 H3
        go_wp2
        go_roundw
        case rel => exact ⟨t + 1, Hlt.out, by go_num, _, m7, _, m9, Hc7.out, Hc9.out, H10.out, E10.out⟩
        case measure => have := Hlt.out; simp [intOf]; omega
      · obtain rfl : t = n := by omega
        have HRq := hid HR.out
        obtain ⟨hd, v4, m4, R4, hm1, hsz, i4, r4, hput⟩ := J1.out.adding
        obtain ⟨A4', c4', rfl, _⟩ := SlR.form r4
        have Hnew := hid (show RShot (Shot.new t) #[.slice T1 t u1, .slice T3 t u3, .slice T5 t u5, .slice Bc t dc, .slice Bu t du].toList (g 1 + (g 3 + (g 5 + (mc + mu)))) from ⟨_, _, _, _, _, g 1, g 3, g 5, mc, mu, rfl, rfl, Hq.out.1, Hq.out.2.1, Hq.out.2.2, Hvc.out, Hvu.out⟩)
        have keep : ∀ (W : World) (X : MS), Has W (X + (blk b1 hd 118 + (blk gq #[.slice T1 t u1, .slice T3 t u3, .slice T5 t u5, .slice Bc t dc, .slice Bu t du] 150 + (R4 + F)))) → W.cell? ⟨b1, 4, none⟩ = some (.slice A4' σ.shots.length c4') ∧ W.cell? ⟨gq, 0, none⟩ = some (.slice T1 t u1) ∧ W.cell? ⟨gq, 1, none⟩ = some (.slice T3 t u3) ∧ W.cell? ⟨gq, 2, none⟩ = some (.slice T5 t u5) ∧ W.cell? ⟨gq, 3, none⟩ = some (.slice Bc t dc) ∧ W.cell? ⟨gq, 4, none⟩ = some (.slice Bu t du) := fun W X h =>
          have hg := h.eq (b := blk gq #[.slice T1 t u1, .slice T3 t u3, .slice T5 t u5, .slice Bc t dc, .slice Bu t du] 150 + (X + (blk b1 hd 118 + (R4 + F)))) (by ac_rfl)
          ⟨(h.eq (b := blk b1 hd 118 + (X + (blk gq #[.slice T1 t u1, .slice T3 t u3, .slice T5 t u5, .slice Bc t dc, .slice Bu t du] 150 + (R4 + F)))) (by ac_rfl)).at_ i4, hg.at_ rfl, hg.at_ rfl, hg.at_ rfl, hg.at_ rfl, hg.at_ rfl⟩
        have H3 := hid (show Has wr.drew ((g 1 + (g 3 + (g 5 + (mc + mu))) + m4) + (blk b1 hd 118 + (blk gq #[.slice T1 t u1, .slice T3 t u3, .slice T5 t u5, .slice Bc t dc, .slice Bu t du] 150 + (R4 + F)))) from hHs.drew.eq (by rw [HRq.out, hm1]; ac_rfl))
        have hS := keep _ _ H3.out
        have Hkeep := hid keep
        have Hr4 := hid r4
        have Hput := hid hput
        have Hi4 := hid (And.intro hsz i4)
        clear keep hvc hvu hHs hEs hm1 i4 r4 hput hsz
        go_wp2
        refine wp_region_txt (fun W => W.cell? ⟨b1, 4, none⟩ = some (.slice A4' σ.shots.length c4') ∧ W.cell? ⟨gq, 0, none⟩ = some (.slice T1 t u1) ∧ W.cell? ⟨gq, 1, none⟩ = some (.slice T3 t u3) ∧ W.cell? ⟨gq, 2, none⟩ = some (.slice T5 t u5) ∧ W.cell? ⟨gq, 3, none⟩ = some (.slice Bc t dc) ∧ W.cell? ⟨gq, 4, none⟩ = some (.slice Bu t du)) (some 10)
          [(0, true), (1, true), (2, true), (3, true), (4, true), (5, true), (6, false), (7, false), (8, true), (9, true), (10, false)] (by kernel_rfl) rfl (by kernel_rfl) (by kernel_rfl) (by repeat (first | with_reducible refine PanicOk.thn ?_ | with_reducible refine PanicOk.blk ?_ | exact PanicOk.body _ _ _)) ?_
        repeat
          (refine txt_quiet ?_ hS rfl rfl (fun W hW => ?_) ?_
           rotate_left 1
           · obtain ⟨hW1, hW2, hW3, hW4, hW5, hW6⟩ := hW
             go_simp
             exact rfl
           simp only [Act.put, List.setIfInBounds_toArray, List.set_cons_zero, List.set_cons_succ])
        refine txt_op rfl rfl ?_
        refine op_run (.slice (some ⟨wr.heap.size, 0, none⟩) 1 1) (wr.drew.alloc (.cells #[.slice T1 t u1, .slice T3 t u3, .slice T5 t u5, .slice Bc t dc, .slice Bu t du] 150)) (by go_simp) ?_
        have hS6 := Hkeep.out (wr.drew.alloc (.cells #[.slice T1 t u1, .slice T3 t u3, .slice T5 t u5, .slice Bc t dc, .slice Bu t du] 150)) (pts wr.heap.size (.cells #[.slice T1 t u1, .slice T3 t u3, .slice T5 t u5, .slice Bc t dc, .slice Bu t du] 150) + (g 1 + (g 3 + (g 5 + (mc + mu))) + m4)) ((H3.out.alloc _).eq (by show pts wr.heap.size _ + _ = _; ac_rfl))
        refine ⟨fun _ => hS6, ?_⟩
        simp only [Act.put, List.setIfInBounds_toArray, List.set_cons_zero, List.set_cons_succ]
        clear hS
        refine txt_op rfl rfl ?_
        refine op_push (.tmp 60) (.tmp 62) row116 rfl (.slice A4' σ.shots.length c4') rfl _ rfl rfl RShot RShot.one RShot.len σ.shots (Shot.new t) m4 (g 1 + (g 3 + (g 5 + (mc + mu)))) _ Hr4.out Hnew.out (H3.out.eq (b := m4 + (g 1 + (g 3 + (g 5 + (mc + mu))) + (blk b1 hd 118 + (blk gq #[.slice T1 t u1, .slice T3 t u3, .slice T5 t u5, .slice Bc t dc, .slice Bu t du] 150 + (R4 + F))))) (by ac_rfl)) σ.shots.length rfl (by omega) (by omega) ?_
        intro A7 c7 w7 m7 j4 j5 j6
        have hS7 := Hkeep.out w7 m7 j5
        refine ⟨fun _ => hS7, ?_⟩
        simp only [Act.put, List.setIfInBounds_toArray, List.set_cons_zero, List.set_cons_succ]
        clear hS6
        repeat
          (refine txt_quiet ?_ hS7 rfl rfl (fun W hW => ?_) ?_
           rotate_left 1
           · obtain ⟨hW1, hW2, hW3, hW4, hW5, hW6⟩ := hW
             go_simp
             exact rfl
           simp only [Act.put, List.setIfInBounds_toArray, List.set_cons_zero, List.set_cons_succ])
        refine txt_op rfl rfl ?_
        refine op_store_blk (.tmp 65) (.tmp 63) 116 rfl size116 b1 4 (.slice A7 (σ.shots.length + 1) c7) rfl rfl rfl hd 118 _ (j5.eq (b := blk b1 hd 118 + (m7 + (blk gq #[.slice T1 t u1, .slice T3 t u3, .slice T5 t u5, .slice Bc t dc, .slice Bu t du] 150 + (R4 + F)))) (by ac_rfl)) (by rw [Hi4.out.1]; omega) ?_
        intro w8 j7 j8
        refine ⟨fun h => absurd rfl h, ?_⟩
        simp only [Act.put]
        refine txt_done ?_
        have g8 : w8.cell? ⟨b1, 4, none⟩ = some (.slice A7 (σ.shots.length + 1) c7) := j7.at_ (by rw [Array.getElem?_setIfInBounds_self_of_lt (by rw [Hi4.out.1]; omega)])
        have Hadd := hid (show IsRef F σ.addShot b1 (blk b1 (hd.setIfInBounds 4 (.slice A7 (σ.shots.length + 1) c7)) 118 + (m7 + R4)) by unfold Net.addShot; rw [hn]; exact Hput.out _ _ _ j4)
        have HX := hid (show IsRef ((blk gq #[.slice T1 t u1, .slice T3 t u3, .slice T5 t u5, .slice Bc t dc, .slice Bu t du] 150) + F) σ.addShot b1 (blk b1 (hd.setIfInBounds 4 (.slice A7 (σ.shots.length + 1) c7)) 118 + (m7 + R4)) from Hadd.out.pool _)
        have H9 := hid (show Has w8 ((blk b1 (hd.setIfInBounds 4 (.slice A7 (σ.shots.length + 1) c7)) 118 + (m7 + R4)) + (blk gq #[.slice T1 t u1, .slice T3 t u3, .slice T5 t u5, .slice Bc t dc, .slice Bu t du] 150 + F)) from j7.eq (by ac_rfl))
        have E9 := hid (((HEs.out.trans (Ext.drew _)).trans j6).trans j8)
        have hw1 : IntKind.i64.wrap ((σ.shots.length : Int) + 1 - 1) = (σ.shots.length : Int) := by rw [IntKind.wrap_i64]; omega
        clear hS7 j4 j5 j6 j7 j8 H3
        go_wp2_with (go_at_call 91; refine (Hrec.out _ w8 b1 _ HX.out H9.out).mono ?_; rintro e w9 ⟨rfl, m9, k1, k2, k3⟩; have K1 := hid k1; have K2 := hid k2; have K3 := hid k3; clear k1 k2 k3)
        obtain ⟨hd2, v42, m42, R42, hm2, hsz2, i42, r42, _⟩ := K1.out.adding
        obtain ⟨A42, c42, rfl, _⟩ := SlR.form r42
        rw [Hsl.out] at i42
        have hS : w9.drew.cell? ⟨b1, 4, none⟩ = some (.slice A42 (σ.shots.length + 1) c42) := (K2.out.drew.eq (b := blk b1 hd2 118 + (m42 + R42 + (blk gq #[.slice T1 t u1, .slice T3 t u3, .slice T5 t u5, .slice Bc t dc, .slice Bu t du] 150 + F))) (by rw [hm2]; ac_rfl)).at_ i42
        clear hm2 hsz2 i42 r42
        refine wp_region_txt (fun W => W.cell? ⟨b1, 4, none⟩ = some (.slice A42 (σ.shots.length + 1) c42)) none
          [(0, true), (1, true), (2, true), (3, true), (4, true), (5, true), (6, true), (7, true), (8, true)] (by kernel_rfl) rfl (by kernel_rfl) (by kernel_rfl) (by repeat (first | with_reducible refine PanicOk.thn ?_ | with_reducible refine PanicOk.blk ?_ | exact PanicOk.body _ _ _)) ?_
        repeat
          (refine txt_quiet ?_ hS rfl rfl (fun W hW => ?_) ?_
           rotate_left 1
           · obtain hW1 := hW
             go_simp
             exact rfl
           simp only [Act.put, List.setIfInBounds_toArray, List.set_cons_zero, List.set_cons_succ])
        refine txt_done ?_
        go_wp2
        exact bodyPost_ret (v := .tuple #[.pointer (some ⟨b1, 0, none⟩), .int .i64 (σ.shots.length + 1), .int .i64 0]) (by simp [results, Try.results69, go_sem]) rfl ⟨b1, m9 + (blk gq #[.slice T1 t u1, .slice T3 t u3, .slice T5 t u5, .slice Bc t dc, .slice Bu t du] 150), rfl, by rw [MS.add_assoc]; exact K1.out.rd, by rw [MS.add_assoc]; exact K2.out.drew, E9.out.trans (K3.out.trans (Ext.drew _))⟩
end Go.Proofs.Ytnkgfgkgepadhaa

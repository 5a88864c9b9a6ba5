/-
  The walk of Start.
-/
import Derived.Test.YtnkgfgkgepadhaaWalk8
import Derived.Test.YtnkgfgkgepadhaaDraw
import Derived.Laws.OwnMore
namespace Go.Proofs.Ytnkgfgkgepadhaa
open Go.RowKit
set_option linter.unusedVariables false
set_option linter.unusedSimpArgs false

def Shot.new (n : Nat) : Shot := ⟨List.replicate n false, List.replicate n (List.replicate n false), List.replicate n 0, List.replicate n 0, List.replicate n (List.replicate n [])⟩
def Net.addShot (σ : Net) : Net := { σ with shots := σ.shots ++ [Shot.new σ.sta.length] }
def Net.start (σ : Net) (x : Int) : Int × Int × Net :=
  if ¬ (0 ≤ x ∧ x < σ.sta.length) then (0, 2, σ)
  else if 8 ≤ σ.shots.length then (0, 8, σ)
  else (σ.shots.length + 1, 0, σ.addShot.record x.toNat σ.shots.length)

theorem NetOk.addShot {σ : Net} (h : NetOk σ) (h8 : σ.shots.length < 8) : NetOk σ.addShot := by
  refine ⟨h.n2, h.n5, h.rows, h.cols, h.evs, by simp [Net.addShot]; omega, h.sta, ?_, ?_, ?_⟩
  · intro i r l hr hl
    have := h.line i r l hr hl
    simp only [Net.addShot, List.countP_append]
    omega
  · intro r hr l hl x hx
    rcases h.msg r hr l hl x hx with h' | h'
    · exact .inl h'
    · exact .inr ⟨h'.1, by simp [Net.addShot]; omega, h'.2.2⟩
  · intro x hx
    simp only [Net.addShot, List.mem_append, List.mem_singleton] at hx
    rcases hx with hx | rfl
    · exact h.shot x hx
    · have hr : ∀ {α : Type} (n : Nat) (a b : α), b ∈ List.replicate n a → b = a := fun n a b hb => (List.mem_replicate.1 hb).2
      refine ⟨by simp [Shot.new, Net.addShot], by simp [Shot.new, Net.addShot], fun r hr => ?_, by simp [Shot.new, Net.addShot], by simp [Shot.new, Net.addShot], by simp [Shot.new, Net.addShot], fun r hr => ?_⟩
      · have := (List.mem_replicate.1 hr).2
        subst this; simp [Net.addShot]
      · have := (List.mem_replicate.1 hr).2
        subst this
        refine ⟨by simp [Net.addShot], fun l hl => ?_⟩
        have := (List.mem_replicate.1 hl).2
        subst this; simp

theorem Ints.nil : Ints [] (.slice none 0 0) 0 := ⟨[], 0, 0, Sl.nil 3 1, RowsR.nil, (MS.zero_add 0).symm⟩
theorem made_bools {n : Nat} {v : Value} {m : MS} (h : Sl 4 1 v n (madeCells (Value.bool false).cells (n * 1)).toList m) : Bools (List.replicate n false) v m := by
  refine Bools.of ?_
  have e : (madeCells (Value.bool false).cells (n * 1)).toList = (List.replicate n false).map Value.bool := by
    rw [Nat.mul_one]; exact (toList_madeCells_one (.bool false) n).trans (by simp)
  rw [e] at h
  simpa using h
theorem made_ints {n : Nat} {v : Value} {m : MS} (h : Sl 3 1 v n (madeCells (Value.int .i64 0).cells (n * 1)).toList m) : Ints (List.replicate n 0) v m := by
  refine Ints.of ?_
  have e : (madeCells (Value.int .i64 0).cells (n * 1)).toList = (List.replicate n (0 : Int)).map (Value.int .i64) := by
    rw [Nat.mul_one]; exact (toList_madeCells_one (.int .i64 0) n).trans (by simp)
  rw [e] at h
  simpa using h
theorem rows_nils : ∀ n : Nat, RowsR (El Ints) (List.replicate n []) (List.replicate n (.slice none 0 0)) 0
  | 0 => RowsR.nil
  | n + 1 => ⟨[.slice none 0 0], 0, _, 0, ⟨_, rfl, Ints.nil, rfl⟩, rows_nils n, rfl, (MS.zero_add 0).symm⟩
theorem made_nils {n : Nat} {v : Value} {m : MS} (h : Sl 22 1 v n (madeCells (Value.slice none 0 0).cells (n * 1)).toList m) : Ints2 (List.replicate n []) v m := by
  have e : (madeCells (Value.slice none 0 0).cells (n * 1)).toList = List.replicate n (.slice none 0 0) := by
    rw [Nat.mul_one]; exact toList_madeCells_one (.slice none 0 0) n
  rw [e] at h
  exact ⟨_, m, 0, by simpa using h, rows_nils n, (MS.add_zero m).symm⟩
theorem info22z : (Try.prog.info? 22).map (fun i => (i.zero, i.size, i.bytes)) = some (some (.slice none 0 0), 1, 24) := by kernel_rfl

/-- A snapshot more: what is read, what is written. -/
theorem IsNet.snaps {Pl : MS} {σ : Net} {ps : List Nat} {b : Nat} {m : MS} (h : IsNet Pl σ ps b m) :
    ∃ hd A c ms R xs, m = blk b hd 84 + (ms + R) ∧ hd[2]? = some (.slice A σ.shots.length c) ∧ Sl 101 1 (.slice A σ.shots.length c) σ.shots.length xs ms ∧
      ∀ v2 ms' p mp x, Sl 101 1 v2 (σ.shots.length + 1) (xs ++ [.pointer (some ⟨p, 0, none⟩)]) ms' → ShotV (x, p) (.pointer (some ⟨p, 0, none⟩)) mp →
        IsNet Pl { σ with shots := σ.shots ++ [x] } (ps ++ [p]) b (blk b (hd.setIfInBounds 2 v2) 84 + (ms' + (mp + R))) := by
  obtain ⟨hps, v0, v1, v2, v3, m0, m1, m2, m3, rfl, h0, h1, h2, h3⟩ := h
  obtain ⟨A, c, rfl, _⟩ := SlR.form h2
  obtain ⟨xs, ms, mr, k1, k2, rfl⟩ := h2
  have e : (σ.shots.zip ps).length = σ.shots.length := by rw [List.length_zip]; omega
  rw [e] at k1 ⊢
  refine ⟨_, A, c, ms, m0 + (m1 + (mr + m3)), xs, by ac_rfl, rfl, k1, fun v2 ms' p mp x hv hx => ?_⟩
  have hz : (σ.shots ++ [x]).zip (ps ++ [p]) = σ.shots.zip ps ++ [(x, p)] := by rw [List.zip_append hps.symm]; rfl
  refine ⟨by simp [hps], v0, v1, v2, v3, m0, m1, ms' + (mr + mp), m3, ?_, h0, h1, ?_, h3⟩
  · show blk b #[v0, v1, v2, v3] 84 + _ = _
    ac_rfl
  · rw [hz]
    exact SlR.of (by simpa [e] using hv) (k2.append (RowsR.one ⟨_, rfl, hx, rfl⟩))

/-- What the loop of Start keeps. -/
def StartInv (G : MS) (w : World) (p n : Nat) (v0 v2 v3 : Value) (v : Value) (wr : World) : Prop :=
  ∃ t : Nat, t ≤ n ∧ v = .int .i64 t ∧ ∃ v1 m1 v4 m4, Bools2 (List.replicate t (List.replicate n false)) v1 m1 ∧ Ints3 (List.replicate t (List.replicate n [])) v4 m4 ∧
    Has wr (blk p #[v0, v1, v2, v3, v4] 109 + (m1 + (m4 + G))) ∧ Ext w wr

set_option maxHeartbeats 2000000 in
set_option maxRecDepth 100000 in
theorem start_any (Pl F : MS) (σ : Net) (ps : List Nat) (b : Nat) (m : MS) (w : World) (hok : NetOk σ) (hnet : IsNet Pl σ ps b m) (hH : Has w (m + (Pl + F))) (x : Int) :
    Calls Try.prog 27 #[.pointer (some ⟨b, 0, none⟩), .int .i64 x] w fun e w' => e = .returned (.tuple #[.int .i64 (σ.start x).1, .int .i64 (σ.start x).2.1]) ∧ ∃ ps' m', Has w' (m' + (Pl + F)) ∧ Ext w w' ∧ IsNet Pl (σ.start x).2.2 ps' b m' := by
  obtain ⟨hd, R, hm, hd4, ⟨A0, c0, h0, hn0, _⟩, _, ⟨A2, c2, h2, _⟩, _⟩ := hnet.heads
  have hn2 := hok.n2
  have hn5 := hok.n5
  cases A0 with
  | none => exact absurd (hn0 rfl) (by omega)
  | some ad =>
  clear hn0
  have f0 : w.cell? ⟨b, 0, none⟩ = some (.slice (some ad) σ.sta.length c0) := (hH.eq (b := blk b hd 84 + (R + (Pl + F))) (by rw [hm]; ac_rfl)).at_ h0
  have f2 : w.cell? ⟨b, 2, none⟩ = some (.slice A2 σ.shots.length c2) := (hH.eq (b := blk b hd 84 + (R + (Pl + F))) (by rw [hm]; ac_rfl)).at_ h2
  have hpost : ∃ ps' m', Has w (m' + (Pl + F)) ∧ Ext w w ∧ IsNet Pl σ ps' b m' := ⟨ps, m, hH, Ext.refl w, hnet⟩
  have HPo := hid hpost
  clear hpost h0 h2
  by_cases g1 : 0 ≤ x ∧ x < σ.sta.length
  · by_cases g8 : 8 ≤ σ.shots.length
    · have e : σ.start x = (0, 8, σ) := by unfold Net.start; rw [if_neg (fun h => h g1), if_pos g8]
      rw [e]
      obtain ⟨g2, g3⟩ := g1
      clear e hok hnet hH
      go_enter Try.func27, Try.ntmps27
      go_wp2
      go_ret2
      exact ⟨rfl, HPo.out⟩
    · have e : σ.start x = ((σ.shots.length : Int) + 1, 0, σ.addShot.record x.toNat σ.shots.length) := by unfold Net.start; rw [if_neg (fun h => h g1), if_neg g8]
      rw [e]
      obtain ⟨g2, g3⟩ := g1
      obtain ⟨k, rfl⟩ := Int.eq_ofNat_of_zero_le g2
      rw [Int.toNat_natCast]
      obtain ⟨σf, hσf⟩ : ∃ σf, σf = σ.addShot.record k σ.shots.length := ⟨_, rfl⟩
      rw [← hσf]
      have Hσf := hid hσf
      have Hnet := hid hnet
      have HH := hid hH
      have Hok := hid hok
      clear e hok hnet hH hσf
      go_enter Try.func27, Try.ntmps27
      go_wp2
      have hHd := HH.out.drew
      refine wp_region_grp (fun _ => True) none [0, 2, 4] [(6, [5])] [1, 3, 5, 6] [(7, true), (8, false), (9, true)] (by kernel_rfl) rfl (by kernel_rfl) (by kernel_rfl) (by kernel_rfl) (by kernel_rfl) (by decide)
        (by repeat (first | exact PanicOk.body _ _ _ | refine PanicOk.thn ?_ | refine PanicOk.blk ?_)) ?_
      have hS : True := trivial
      repeat
        (refine pre_quiet ?_ hS rfl rfl (fun W hW => ?_) ?_
         rotate_left 1
         · obtain hW1 := hW
           go_simp
           exact rfl
         simp only [Act.put, List.setIfInBounds_toArray, List.set_cons_zero, List.set_cons_succ])
      refine pre_done ⟨m + (Pl + F), fun i f v m => if i = 1 then Bools (List.replicate σ.sta.length false) v m else if i = 6 then v = .agg #[f 5, .slice none 0 0] ∧ m = 0 else Ints (List.replicate σ.sta.length 0) v m, hHd, fun _ _ _ => trivial, ?_, ?_, ?_, ?_⟩
      · intro j hj
        simp only [List.mem_cons, List.not_mem_nil, or_false] at hj
        rcases hj with rfl | rfl | rfl | rfl
        · exact of_decide_eq_true rfl
        · exact of_decide_eq_true rfl
        · exact of_decide_eq_true rfl
        · exact of_decide_eq_true rfl
      · intro i f f' v m hd hG
        by_cases h6 : i = 6
        · subst h6
          have := hd 5 (by decide)
          simpa [this] using hG
        · simpa [h6] using hG
      · intro i hi o ho a' f w M K hev hev2 hev3 hw hK
        simp only [List.mem_cons, List.not_mem_nil, or_false] at hi
        rcases hi with rfl | rfl | rfl | rfl
        · cases (show some _ = some o from ho)
          refine op_make_sl (.tmp 29) (.tmp 29) 69 rfl 4 _ 1 1 Try.underlying69 info4 .i64 .i64 σ.sta.length ((hev 29 (by decide)).trans rfl) ((hev 29 (by decide)).trans rfl) (by omega) (by simp only [maxLen]; omega) (M + (m + (Pl + F))) hw ?_
          intro v w' m' h1 h2 h3 _
          exact hK v w' m' (made_bools h1) h2 h3
        · cases (show some _ = some o from ho)
          refine op_make_sl (.tmp 31) (.tmp 31) 22 rfl 3 _ 1 8 Try.underlying22 info3 .i64 .i64 σ.sta.length ((hev 31 (by decide)).trans rfl) ((hev 31 (by decide)).trans rfl) (by omega) (by simp only [maxLen]; omega) (M + (m + (Pl + F))) hw ?_
          intro v w' m' h1 h2 h3 _
          exact hK v w' m' (made_ints h1) h2 h3
        · cases (show some _ = some o from ho)
          refine op_make_sl (.tmp 33) (.tmp 33) 22 rfl 3 _ 1 8 Try.underlying22 info3 .i64 .i64 σ.sta.length ((hev 33 (by decide)).trans rfl) ((hev 33 (by decide)).trans rfl) (by omega) (by simp only [maxLen]; omega) (M + (m + (Pl + F))) hw ?_
          intro v w' m' h1 h2 h3 _
          exact hK v w' m' (made_ints h1) h2 h3
        · cases (show some _ = some o from ho)
          obtain ⟨m5, h5⟩ := hev3 5 (by decide)
          obtain ⟨A5, c5, h5, _⟩ := (Ints.cells (by simpa using h5 : Ints (List.replicate σ.sta.length 0) (f 5) m5)).form
          have h6 : a'.tmps[34]?.getD undef = .slice A5 (List.replicate σ.sta.length (0 : Int)).length c5 := by
            have := hev2 5 (by decide)
            rw [← h5, ← this]
            simp [Act.eval, dstOf]
          refine op_run (.agg #[f 5, .slice none 0 0]) w (by rw [h5]; generalize (List.replicate σ.sta.length (0 : Int)).length = nn at *; go_simp) ?_
          exact hK _ w 0 ⟨rfl, rfl⟩ (by rw [MS.zero_add]; exact hw) (Ext.refl w)
      · intro f g w1 hfg H1 E1
        have hb := hfg 1 (by simp)
        have hc := hfg 3 (by simp)
        have hp := hfg 5 (by simp)
        have h6 := hfg 6 (by simp)
        simp only [if_true, if_neg (by decide : ¬ 3 = 1), if_neg (by decide : ¬ 5 = 1), if_neg (by decide : ¬ 6 = 1), if_neg (by decide : ¬ 3 = 6), if_neg (by decide : ¬ 5 = 6)] at hb hc hp h6
        obtain ⟨h6, h60⟩ := h6
        have H1' : Has w1 (g 5 + (g 3 + (g 1 + (m + (Pl + F))))) := (show Has w1 (g 6 + (g 5 + (g 3 + (g 1 + (m + (Pl + F)))))) from H1).eq (by rw [h60, MS.zero_add])
        simp only [List.foldl_cons, List.foldl_nil, putL, h6]
        obtain ⟨Ab, cb, e1, _⟩ := (Bools.cells hb).form
        obtain ⟨Ac, cc, e3, _⟩ := (Ints.cells hc).form
        obtain ⟨Ap, cp, e5, _⟩ := (Ints.cells hp).form
        simp only [List.length_replicate] at e1 e3 e5
        rw [e1] at hb ⊢
        rw [e3] at hc ⊢
        rw [e5] at hp ⊢
        clear hfg H1 e1 e3 e5 h6 h60
        generalize g 1 = gg1 at *
        generalize g 3 = gg3 at *
        generalize g 5 = gg5 at *
        show wpTxt _ _ _ _ _ _ ((((Act.put _ (some 30) (.slice Ab σ.sta.length cb)).put (some 32) (.slice Ac σ.sta.length cc)).put (some 34) (.slice Ap σ.sta.length cp)).put (some 35) (.agg #[.slice Ap σ.sta.length cp, .slice none 0 0])) _
        simp only [Act.put, List.setIfInBounds_toArray, List.set_cons_zero, List.set_cons_succ]
        repeat
          (refine txt_quiet ?_ hS rfl rfl (fun W hW => ?_) ?_
           rotate_left 1
           · go_simp
             exact rfl
           simp only [Act.put, List.setIfInBounds_toArray, List.set_cons_zero, List.set_cons_succ])
        refine txt_op rfl rfl ?_
        refine op_run (.pointer (some ⟨w1.heap.size, 0, none⟩)) (w1.alloc (.cells #[.slice Ab σ.sta.length cb, .slice none 0 0, .slice Ac σ.sta.length cc, .slice Ap σ.sta.length cp, .slice none 0 0] 109)) (by go_simp) ?_
        refine ⟨fun _ => trivial, ?_⟩
        have H2 := H1'.alloc (.cells #[.slice Ab σ.sta.length cb, .slice none 0 0, .slice Ac σ.sta.length cc, .slice Ap σ.sta.length cp, .slice none 0 0] 109)
        have E2 := ((Ext.drew w).trans E1).trans (Ext.alloc w1 (.cells #[.slice Ab σ.sta.length cb, .slice none 0 0, .slice Ac σ.sta.length cc, .slice Ap σ.sta.length cp, .slice none 0 0] 109))
        generalize w1.heap.size = p at *
        generalize w1.alloc _ = w2 at *
        simp only [Act.put, List.setIfInBounds_toArray, List.set_cons_zero, List.set_cons_succ]
        repeat
          (refine txt_quiet ?_ hS rfl rfl (fun W hW => ?_) ?_
           rotate_left 1
           · go_simp
             exact rfl
           simp only [Act.put, List.setIfInBounds_toArray, List.set_cons_zero, List.set_cons_succ])
        refine txt_done ?_
        generalize hn : σ.sta.length = n at *
        have HI : StartInv (gg5 + (gg3 + (gg1 + (m + (Pl + F))))) w p n (.slice Ab n cb) (.slice Ac n cc) (.slice Ap n cp) (.int .i64 0) w2 := by
          refine ⟨0, Nat.zero_le _, rfl, .slice none 0 0, 0, .slice none 0 0, 0, ⟨[], 0, 0, Sl.nil 69 1, RowsR.nil, (MS.zero_add 0).symm⟩, ⟨[], 0, 0, Sl.nil 44 1, RowsR.nil, (MS.zero_add 0).symm⟩, ?_, E2⟩
          rw [MS.zero_add, MS.zero_add]; exact H2
        have HI' := hid HI
        clear HI E2 H2 H1' E1
        go_wp2
        go_loopw [39] (fun v wr => StartInv (gg5 + (gg3 + (gg1 + (m + (Pl + F))))) w p n (.slice Ab n cb) (.slice Ac n cc) (.slice Ap n cp) v wr) (fun v _ => n - (intOf v).toNat)
        case atStart => exact HI'.out
        case round =>
          obtain ⟨t, ht, rfl, vl, ml, vu, mu, hl, hu, hHt, hEt⟩ := hrel
          by_cases hlt : t < n
          · obtain ⟨Al, cl, rfl, _, _⟩ := SlR.form hl
            obtain ⟨Au, cu, rfl, _, _⟩ := SlR.form hu
            simp only [List.length_replicate] at hl hu hHt ⊢
            obtain ⟨xl, ml1, ml2, hsl, hrl, rfl⟩ := hl
            obtain ⟨xu, mu1, mu2, hsu, hru, rfl⟩ := hu
            simp only [List.length_replicate] at hsl hsu
            have Hlt := hid hlt
            have hn5' : (n : Int) ≤ 5 := by omega
            obtain ⟨G, hG⟩ : ∃ G, G = gg5 + (gg3 + (gg1 + (m + (Pl + F)))) := ⟨_, rfl⟩
            rw [← hG] at hHt
            have HG := hid hG
            have Hr := hid (And.intro hrl (And.intro hsu hru))
            have HE := hid hEt
            clear hG hrl hsu hru hEt
            go_wp2
            have H3 : Has wr.drew (blk p #[.slice Ab n cb, .slice Al t cl, .slice Ac n cc, .slice Ap n cp, .slice Au t cu] 109 + (ml1 + ml2 + (mu1 + mu2 + G))) := hHt.drew
            have hS1 : wr.drew.cell? ⟨p, 1, none⟩ = some (.slice Al t cl) := H3.at_ rfl
            refine wp_region_txt (fun W => W.cell? ⟨p, 1, none⟩ = some (.slice Al t cl)) (some 11)
              [(0, true), (1, true), (2, true), (3, true), (4, true), (5, true), (6, false), (7, false), (8, false), (9, true), (10, true), (11, false)]
              (by kernel_rfl) rfl (by kernel_rfl) (by kernel_rfl) (by repeat (first | exact PanicOk.body _ _ _ | refine PanicOk.thn ?_ | refine PanicOk.blk ?_)) ?_
            repeat
              (refine txt_quiet ?_ hS1 rfl rfl (fun W hW => ?_) ?_
               rotate_left 1
               · obtain hW1 := hW
                 go_simp
                 exact rfl
               simp only [Act.put, List.setIfInBounds_toArray, List.set_cons_zero, List.set_cons_succ])
            refine txt_op rfl rfl ?_
            refine op_make_sl (.tmp 46) (.tmp 46) 69 rfl 4 _ 1 1 Try.underlying69 info4 .i64 .i64 n rfl rfl (by omega) (by simp only [maxLen]; omega) _ H3 ?_
            intro v5 w5 m5 h51 H5 E5 _
            obtain ⟨A5, c5, rfl, _⟩ := h51.form
            have hS5 : w5.cell? ⟨p, 1, none⟩ = some (.slice Al t cl) := (H5.eq (b := blk p #[.slice Ab n cb, .slice Al t cl, .slice Ac n cc, .slice Ap n cp, .slice Au t cu] 109 + (m5 + (ml1 + ml2 + (mu1 + mu2 + G)))) (by ac_rfl)).at_ rfl
            refine ⟨fun _ => hS5, ?_⟩
            simp only [Act.put, List.setIfInBounds_toArray, List.set_cons_zero, List.set_cons_succ]
            refine txt_op rfl rfl ?_
            refine op_run (.slice (some ⟨w5.heap.size, 0, none⟩) 1 1) (w5.alloc (.cells #[.slice A5 n c5] 69)) (by go_simp) ?_
            have H6 := H5.alloc (.cells #[.slice A5 n c5] 69)
            have hS6 : (w5.alloc (.cells #[.slice A5 n c5] 69)).cell? ⟨p, 1, none⟩ = some (.slice Al t cl) := (H6.eq (b := blk p #[.slice Ab n cb, .slice Al t cl, .slice Ac n cc, .slice Ap n cp, .slice Au t cu] 109 + (pts w5.heap.size (.cells #[.slice A5 n c5] 69) + (m5 + (ml1 + ml2 + (mu1 + mu2 + G))))) (by ac_rfl)).at_ rfl
            refine ⟨fun _ => hS6, ?_⟩
            simp only [Act.put, List.setIfInBounds_toArray, List.set_cons_zero, List.set_cons_succ]
            refine txt_op rfl rfl ?_
            refine op_append_sl (.tmp 45) (.tmp 48) 64 rfl 69 _ 1 24 Try.underlying64 info69 rfl (.slice Al t cl) rfl (some ⟨w5.heap.size, 0, none⟩) 1 1 rfl t xl ml1 _ hsl
              (H6.right.eq (b := ml1 + (blk p #[.slice Ab n cb, .slice Al t cl, .slice Ac n cc, .slice Ap n cp, .slice Au t cu] 109 + (m5 + (ml2 + (mu1 + mu2 + G))))) (by ac_rfl))
              [.slice A5 n c5] rfl (by simp) (fun a ha => by injection ha with ha; subst ha; exact World.news_of_block (heap_alloc_new _ _)) (by simp [Value.oneCell']) (by simp only [maxLen]; omega) (by omega) ?_
            intro v7 w7 m7 h71 H7 E7
            obtain ⟨A7, c7, rfl, _⟩ := h71.form
            have hS7 : w7.cell? ⟨p, 1, none⟩ = some (.slice Al t cl) := (H7.eq (b := blk p #[.slice Ab n cb, .slice Al t cl, .slice Ac n cc, .slice Ap n cp, .slice Au t cu] 109 + (m7 + (m5 + (ml2 + (mu1 + mu2 + G))))) (by ac_rfl)).at_ rfl
            refine ⟨fun _ => hS7, ?_⟩
            simp only [Act.put, List.setIfInBounds_toArray, List.set_cons_zero, List.set_cons_succ]
            repeat
              (refine txt_quiet ?_ hS7 rfl rfl (fun W hW => ?_) ?_
               rotate_left 1
               · obtain hW1 := hW
                 go_simp
                 exact rfl
               simp only [Act.put, List.setIfInBounds_toArray, List.set_cons_zero, List.set_cons_succ])
            refine txt_op rfl rfl ?_
            refine op_store_blk (.tmp 51) (.tmp 49) 64 rfl size64 p 1 (.slice A7 (t + 1) c7) rfl rfl rfl #[.slice Ab n cb, .slice Al t cl, .slice Ac n cc, .slice Ap n cp, .slice Au t cu] 109 (m7 + (m5 + (ml2 + (mu1 + mu2 + G)))) (H7.eq (by ac_rfl)) (by simp) ?_
            intro w8 H8 E8
            refine ⟨fun h => absurd rfl h, ?_⟩
            simp only [Act.put]
            refine txt_done ?_
            have hb2 : Bools2 (List.replicate (t + 1) (List.replicate n false)) (.slice A7 (t + 1) c7) (m7 + (ml2 + m5)) := by
              rw [List.replicate_succ']
              exact SlR.of (by simpa using h71) (Hr.out.1.append (RowsR.one ⟨_, rfl, made_bools h51, rfl⟩))
            have H8' : Has w8 (blk p #[.slice Ab n cb, .slice A7 (t + 1) c7, .slice Ac n cc, .slice Ap n cp, .slice Au t cu] 109 + (m7 + (ml2 + m5) + (mu1 + mu2 + G))) := H8.eq (by show blk p #[.slice Ab n cb, .slice A7 (t + 1) c7, .slice Ac n cc, .slice Ap n cp, .slice Au t cu] 109 + _ = _; ac_rfl)
            have E8' := hid ((((HE.out.trans (Ext.drew _)).trans E5).trans (Ext.alloc w5 (.cells #[.slice A5 n c5] 69))).trans (E7.trans E8))
            have Hb2 := hid hb2
            generalize m7 + (ml2 + m5) = mb at *
            clear hS1 hS5 hS6 hS7 H3 H5 H6 H7 H8 E5 E7 E8 h51 h71 hb2 hHt hsl
            go_wp2
            have H3 : Has w8.drew (blk p #[.slice Ab n cb, .slice A7 (t + 1) c7, .slice Ac n cc, .slice Ap n cp, .slice Au t cu] 109 + (mb + (mu1 + mu2 + G))) := H8'.drew
            have hS1 : w8.drew.cell? ⟨p, 4, none⟩ = some (.slice Au t cu) := H3.at_ rfl
            refine wp_region_txt (fun W => W.cell? ⟨p, 4, none⟩ = some (.slice Au t cu)) (some 13)
              [(0, true), (1, true), (2, true), (3, true), (4, true), (5, true), (6, true), (7, false), (8, false), (9, false), (10, false), (11, false), (12, false), (13, false)]
              (by kernel_rfl) rfl (by kernel_rfl) (by kernel_rfl) (by repeat (first | exact PanicOk.body _ _ _ | refine PanicOk.thn ?_ | refine PanicOk.blk ?_)) ?_
            repeat
              (refine txt_quiet ?_ hS1 rfl rfl (fun W hW => ?_) ?_
               rotate_left 1
               · obtain hW1 := hW
                 go_simp
                 exact rfl
               simp only [Act.put, List.setIfInBounds_toArray, List.set_cons_zero, List.set_cons_succ])
            refine txt_op rfl rfl ?_
            refine op_make_sl (.tmp 58) (.tmp 58) 44 rfl 22 _ 1 24 Try.underlying44 info22 .i64 .i64 n rfl rfl (by omega) (by simp only [maxLen]; omega) _ H3 ?_
            intro v5 w5 m5 h51 H5 E5 _
            obtain ⟨A5, c5, rfl, _⟩ := h51.form
            have hS5 : w5.cell? ⟨p, 4, none⟩ = some (.slice Au t cu) := (H5.eq (b := blk p #[.slice Ab n cb, .slice A7 (t + 1) c7, .slice Ac n cc, .slice Ap n cp, .slice Au t cu] 109 + (m5 + (mb + (mu1 + mu2 + G)))) (by ac_rfl)).at_ rfl
            refine ⟨fun _ => hS5, ?_⟩
            simp only [Act.put, List.setIfInBounds_toArray, List.set_cons_zero, List.set_cons_succ]
            refine txt_op rfl rfl ?_
            refine op_run (.slice (some ⟨w5.heap.size, 0, none⟩) 1 1) (w5.alloc (.cells #[.slice A5 n c5] 44)) (by go_simp) ?_
            have H6 := H5.alloc (.cells #[.slice A5 n c5] 44)
            have hS6 : (w5.alloc (.cells #[.slice A5 n c5] 44)).cell? ⟨p, 4, none⟩ = some (.slice Au t cu) := (H6.eq (b := blk p #[.slice Ab n cb, .slice A7 (t + 1) c7, .slice Ac n cc, .slice Ap n cp, .slice Au t cu] 109 + (pts w5.heap.size (.cells #[.slice A5 n c5] 44) + (m5 + (mb + (mu1 + mu2 + G))))) (by ac_rfl)).at_ rfl
            refine ⟨fun _ => hS6, ?_⟩
            simp only [Act.put, List.setIfInBounds_toArray, List.set_cons_zero, List.set_cons_succ]
            obtain ⟨_, hsu, hru⟩ := Hr.out
            refine txt_op rfl rfl ?_
            refine op_append_sl (.tmp 57) (.tmp 60) 36 rfl 44 _ 1 24 Try.underlying36 info44 rfl (.slice Au t cu) rfl (some ⟨w5.heap.size, 0, none⟩) 1 1 rfl t xu mu1 _ hsu
              (H6.right.eq (b := mu1 + (blk p #[.slice Ab n cb, .slice A7 (t + 1) c7, .slice Ac n cc, .slice Ap n cp, .slice Au t cu] 109 + (m5 + (mb + (mu2 + G))))) (by ac_rfl))
              [.slice A5 n c5] rfl (by simp) (fun a ha => by injection ha with ha; subst ha; exact World.news_of_block (heap_alloc_new _ _)) (by simp [Value.oneCell']) (by simp only [maxLen]; omega) (by omega) ?_
            intro v9 w9 m9 h91 H9 E9
            obtain ⟨A9, c9, rfl, _⟩ := h91.form
            have hS9 : w9.cell? ⟨p, 4, none⟩ = some (.slice Au t cu) := (H9.eq (b := blk p #[.slice Ab n cb, .slice A7 (t + 1) c7, .slice Ac n cc, .slice Ap n cp, .slice Au t cu] 109 + (m9 + (m5 + (mb + (mu2 + G))))) (by ac_rfl)).at_ rfl
            refine ⟨fun _ => hS9, ?_⟩
            simp only [Act.put, List.setIfInBounds_toArray, List.set_cons_zero, List.set_cons_succ]
            refine txt_op rfl rfl ?_
            refine op_run (.pointer (some ⟨p, 0, none⟩)) w9 (by go_simp) ?_
            refine ⟨fun _ => hS9, ?_⟩
            simp only [Act.put, List.setIfInBounds_toArray, List.set_cons_zero, List.set_cons_succ]
            refine txt_op rfl rfl ?_
            refine op_run (.pointer (some ⟨p, 3, none⟩)) w9 (by go_simp) ?_
            refine ⟨fun _ => hS9, ?_⟩
            simp only [Act.put, List.setIfInBounds_toArray, List.set_cons_zero, List.set_cons_succ]
            refine txt_op rfl rfl ?_
            refine op_run (.pointer (some ⟨p, 4, none⟩)) w9 (by go_simp) ?_
            refine ⟨fun _ => hS9, ?_⟩
            simp only [Act.put, List.setIfInBounds_toArray, List.set_cons_zero, List.set_cons_succ]
            refine txt_op rfl rfl ?_
            refine op_store_blk (.tmp 64) (.tmp 61) 36 rfl size36 p 4 (.slice A9 (t + 1) c9) rfl rfl rfl #[.slice Ab n cb, .slice A7 (t + 1) c7, .slice Ac n cc, .slice Ap n cp, .slice Au t cu] 109 (m9 + (m5 + (mb + (mu2 + G)))) (H9.eq (by ac_rfl)) (by simp) ?_
            intro w10 H10 E10
            refine ⟨fun h => absurd rfl h, ?_⟩
            simp only [Act.put]
            refine txt_done ?_
            have hu2 := hid (show Ints3 (List.replicate (t + 1) (List.replicate n [])) (.slice A9 (t + 1) c9) (m9 + (mu2 + m5)) by
              rw [List.replicate_succ']
              exact SlR.of (by simpa using h91) (hru.append (RowsR.one ⟨_, rfl, made_nils h51, rfl⟩)))
            have H10' := hid (show Has w10 (blk p #[.slice Ab n cb, .slice A7 (t + 1) c7, .slice Ac n cc, .slice Ap n cp, .slice A9 (t + 1) c9] 109 + (mb + ((m9 + (mu2 + m5)) + G))) from
              H10.eq (by show blk p #[.slice Ab n cb, .slice A7 (t + 1) c7, .slice Ac n cc, .slice Ap n cp, .slice A9 (t + 1) c9] 109 + _ = _; ac_rfl))
            have E10' := hid ((((E8'.out.trans (Ext.drew _)).trans E5).trans (Ext.alloc w5 (.cells #[.slice A5 n c5] 44))).trans (E9.trans E10))
            clear hS1 hS5 hS6 hS9 H3 H5 H6 H9 H10 E5 E9 E10 h51 h91 hsu hru H8'
            go_wp2
            go_roundw
            case rel => exact ⟨t + 1, Hlt.out, by go_num, _, _, _, _, Hb2.out, hu2.out, by rw [← HG.out]; exact H10'.out, E10'.out⟩
            case measure => have := Hlt.out; simp [intOf]; omega
          · obtain rfl : t = n := by omega
            obtain ⟨hd9, A9, c9, ms9, R9, xs9, hm9, i9, hsl9, hput9⟩ := Hnet.out.snaps
            have hsh := hput9
            have H1 := hHt.eq (b := blk b hd9 84 + (blk p #[.slice Ab t cb, vl, .slice Ac t cc, .slice Ap t cp, vu] 109 + (ml + (mu + (gg5 + (gg3 + (gg1 + (ms9 + R9 + (Pl + F))))))))) (by rw [hm9]; ac_rfl)
            have q1 : wr.cell? ⟨b, 2, none⟩ = some (.slice A9 σ.shots.length c9) := H1.at_ i9
            have H2 := H1.alloc (.cells #[.pointer (some ⟨p, 0, none⟩)] 101)
            have H3 : Has (wr.alloc (.cells #[.pointer (some ⟨p, 0, none⟩)] 101)) (ms9 + (blk b hd9 84 + (blk p #[.slice Ab t cb, vl, .slice Ac t cc, .slice Ap t cp, vu] 109 + (ml + (mu + (gg5 + (gg3 + (gg1 + (R9 + (Pl + F)))))))))) := H2.right.eq (by ac_rfl)
            have hshot : ShotV (Shot.new t, p) (.pointer (some ⟨p, 0, none⟩)) (blk p #[.slice Ab t cb, vl, .slice Ac t cc, .slice Ap t cp, vu] 109 + (gg1 + (ml + (gg3 + (gg5 + mu))))) :=
              ⟨_, _, _, _, _, gg1, ml, gg3, gg5, mu, rfl, rfl, hb, hl, hc, hp, hu⟩
            have hok2 := Hok.out.addShot (by omega)
            have hpsl : ps.length = σ.shots.length := Hnet.out.1
            have hq1 : (wr.alloc (.cells #[.pointer (some ⟨p, 0, none⟩)] 101)).cell? ⟨b, 2, none⟩ = some (.slice A9 σ.shots.length c9) := (H2.eq (b := blk b hd9 84 + (pts wr.heap.size (.cells #[.pointer (some ⟨p, 0, none⟩)] 101) + (blk p #[.slice Ab t cb, vl, .slice Ac t cc, .slice Ap t cp, vu] 109 + (ml + (mu + (gg5 + (gg3 + (gg1 + (ms9 + R9 + (Pl + F)))))))))) (by ac_rfl)).at_ i9
            have hadd : σ.addShot = { σ with shots := σ.shots ++ [Shot.new t] } := by unfold Net.addShot; rw [hn]
            have Hput := hid hput9
            have Hshot := hid hshot
            have Hsl := hid hsl9
            have H3' := hid H3
            have Hok2 := hid hok2
            have HE := hid (hEt.trans (Ext.alloc wr (.cells #[.pointer (some ⟨p, 0, none⟩)] 101)))
            have Hadd := hid hadd
            have Hi := hid i9
            have h8i : (σ.shots.length : Int) < 8 := by omega
            have Hn := hid hn
            clear hput9 hshot hsl9 H3 hok2 hadd i9 hHt hEt hl hu hb hc hp hm9 H1 H2 hsh HI' f2 hn
            go_wp2_with (first
              | (at_builtin
                 refine wpList_append_sl rfl (.tmp 70) (.tmp 72) 82 rfl 101 _ 1 8 Try.underlying82 info101 rfl (.slice A9 σ.shots.length c9) rfl (some ⟨wr.heap.size, 0, none⟩) 1 1 rfl σ.shots.length xs9 ms9 _ Hsl.out H3'.out
                   [.pointer (some ⟨p, 0, none⟩)] rfl (by simp) (fun a ha => by injection ha with ha; subst ha; exact World.news_of_block (heap_alloc_new _ _)) (by simp [Value.oneCell']) (by simp only [maxLen]; omega) (by omega) ?_
                 intro v' w4 m4 h41 H4 E4
                 obtain ⟨A4, c4, rfl, _⟩ := h41.form
                 have h4' := H4.eq (b := blk b hd9 84 + (m4 + (blk p #[.slice Ab t cb, vl, .slice Ac t cc, .slice Ap t cp, vu] 109 + (ml + (mu + (gg5 + (gg3 + (gg1 + (R9 + (Pl + F)))))))))) (by ac_rfl)
                 have h4c := h4'.at_ Hi.out)
              | (refine wpList_store_blk rfl (.tmp 75) (.tmp 73) 82 rfl size82 b 2 (.slice A4 (σ.shots.length + 1) c4) rfl rfl rfl hd9 84 _ h4' (arr_lt Hi.out) ?_
                 intro w5 H5 E5
                 have hn5 := Hput.out _ m4 p _ (Shot.new t) h41 Hshot.out
                 have Hrec := hid (record_any Pl F σ.addShot (ps ++ [p]) b _ w5 Hok2.out (by rw [Hadd.out]; exact hn5) (H5.eq (by ac_rfl)) k σ.shots.length p (by rw [Hadd.out]; show k < σ.sta.length; rw [Hn.out]; omega) (Shot.new t) (by rw [Hadd.out]; simp) (by rw [← hpsl]; simp) ((σ.shots.length : Int) + 1) rfl)
                 have q5 : w5.cell? ⟨b, 2, none⟩ = some (.slice A4 (σ.shots.length + 1) c4) := H5.at_ (arr_eq (arr_lt Hi.out))
                 clear hn5 h4' h4c h41 H4 H5)
              | (go_at_call 66
                 refine Hrec.out.mono ?_
                 rintro e w6 ⟨rfl, m6, H6, E6, hn6⟩
                 rw [← Hσf.out] at hn6
                 obtain ⟨A6, c6, _, hf6⟩ := hn6.shotHead
                 have q6 := hf6 w6 _ H6
                 have hlen6 : σf.shots.length = σ.shots.length + 1 := by
                   rw [Hσf.out]
                   obtain ⟨s6, hs6⟩ : ∃ s, σ.addShot.sta[k]? = some s := ⟨_, List.getElem?_eq_getElem (by rw [Hadd.out]; show k < σ.sta.length; rw [Hn.out]; omega)⟩
                   rw [(Net.record_shot hs6 (i := σ.shots.length) (x := Shot.new t) (by rw [Hadd.out]; simp)).2.2.1]
                   simp [Net.addShot]
                 rw [hlen6] at q6
                 have Hn6 := hid hn6
                 have HH6 := hid H6
                 clear hn6 hf6 H6 hlen6))
            go_ret2
            exact ⟨rfl, _, m6, HH6.out, (HE.out.trans E4).trans (E5.trans E6), Hn6.out⟩
  · have e : σ.start x = (0, 2, σ) := by unfold Net.start; rw [if_pos g1]
    rw [e]
    clear e hok hnet hH
    by_cases g2 : 0 ≤ x
    · have g3 : ¬ x < σ.sta.length := fun h => g1 ⟨g2, h⟩
      clear g1
      go_enter Try.func27, Try.ntmps27
      go_wp2
      go_ret2
      exact ⟨rfl, HPo.out⟩
    · clear g1
      go_enter Try.func27, Try.ntmps27
      go_wp2
      go_ret2
      exact ⟨rfl, HPo.out⟩
end Go.Proofs.Ytnkgfgkgepadhaa

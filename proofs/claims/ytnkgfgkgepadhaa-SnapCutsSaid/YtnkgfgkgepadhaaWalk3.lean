/-
  The walk of Work.
-/
import Derived.Test.YtnkgfgkgepadhaaWalk2
import Derived.Test.YtnkgfgkgepadhaaOpen
namespace Go.Proofs.Ytnkgfgkgepadhaa
open Go.RowKit
set_option linter.unusedVariables false
set_option linter.unusedSimpArgs false

/-- 'event', for a net that is in order. -/
theorem event_did (Pl F : MS) (σ : Net) (ps : List Nat) (b : Nat) (m : MS) (w : World) (hnet : IsNet Pl σ ps b m) (hH : Has w (m + (Pl + F))) (k : Nat) (s : Sta) (hs : σ.sta[k]? = some s)
    (hkc : k < s.clock.length) (what other pieces : Int) (he0 : 0 ≤ s.events) (he1 : s.events < 1000000) (hclk : ∀ t ∈ s.clock, 0 ≤ t ∧ t < 1000000) (hcl : s.clock.length ≤ 1000) (hevl : σ.evs.length ≤ 1000) :
    Calls Try.prog 64 #[.pointer (some ⟨b, 0, none⟩), .int .i64 k, .int .i64 what, .int .i64 other, .int .i64 pieces] w fun e w' => e = .returned (.tuple #[]) ∧ ∃ m', Has w' (m' + (Pl + F)) ∧ Ext w w' ∧ IsNet Pl (σ.did k what other pieces) ps b m' := by
  have hk : k < σ.sta.length := (List.getElem?_eq_some_iff.1 hs).1
  have hs' : σ.sta[k] = s := (List.getElem?_eq_some_iff.1 hs).2
  have ht := hclk s.clock[k] (List.getElem_mem hkc)
  have := event_any Pl F σ ps b m w hnet hH k hk s hs' hkc s.clock[k] rfl what other pieces he0 he1 ht.1 ht.2 hcl hevl
  have e : σ.did k what other pieces = { σ with sta := σ.sta.set k { s with events := s.events + 1, clock := s.clock.set k (s.clock[k] + 1) }, evs := σ.evs ++ [⟨k, what, other, pieces, s.clock.set k (s.clock[k] + 1)⟩] } := by
    simp [Net.did, hs, List.getD, hkc]
  rw [e]
  exact this

def Net.work (σ : Net) (no pieces : Int) : Int × Net :=
  if ¬ ((0 ≤ no ∧ no < σ.sta.length) ∧ 1 ≤ pieces ∧ pieces ≤ 1000000) then (2, σ)
  else if 400 ≤ σ.evs.length then (8, σ)
  else (0, (σ.gain no.toNat pieces).did no.toNat 1 no pieces)

set_option maxHeartbeats 1000000 in
theorem work_any (Pl F : MS) (σ : Net) (ps : List Nat) (b : Nat) (m : MS) (w : World) (hok : NetOk σ) (hnet : IsNet Pl σ ps b m) (hH : Has w (m + (Pl + F))) (no pieces : Int) :
    Calls Try.prog 26 #[.pointer (some ⟨b, 0, none⟩), .int .i64 no, .int .i64 pieces] w fun e w' => e = .returned (.int .i64 (σ.work no pieces).1) ∧ ∃ m', Has w' (m' + (Pl + F)) ∧ Ext w w' ∧ IsNet Pl (σ.work no pieces).2 ps b m' := by
  obtain ⟨hd, R, rfl, _, ⟨A0, c0, h0, hn0, _⟩, _, _, ⟨A3, c3, h3, _, _⟩⟩ := hnet.heads
  have hn2 := hok.n2
  cases A0 with
  | none => exact absurd (hn0 rfl) (by omega)
  | some ad =>
  clear hn0
  have f0 : w.cell? ⟨b, 0, none⟩ = some (.slice (some ad) σ.sta.length c0) := (hH.eq (b := blk b hd 84 + (R + (Pl + F))) (by ac_rfl)).at_ h0
  have f3 : w.cell? ⟨b, 3, none⟩ = some (.slice A3 σ.evs.length c3) := (hH.eq (b := blk b hd 84 + (R + (Pl + F))) (by ac_rfl)).at_ h3
  have hN := hid hnet
  have hHH := hid hH
  clear hnet hH
  by_cases h1 : 0 ≤ no ∧ no < σ.sta.length
  · by_cases h2 : 1 ≤ pieces ∧ pieces ≤ 1000000
    · have h2b := parcB_yes h2
      have H2 := hid h2
      obtain ⟨g1, g2⟩ := h1
      obtain ⟨k, rfl⟩ := Int.eq_ofNat_of_zero_le g1
      by_cases he : 400 ≤ σ.evs.length
      · have e : σ.work k pieces = (8, σ) := by unfold Net.work; rw [if_neg (fun h' => h' ⟨⟨g1, g2⟩, h2⟩), if_pos he]
        rw [e]
        have hr : roomErr σ.evs.length = 8 := by unfold roomErr; rw [if_neg (by omega)]
        clear h2 e he hok
        go_enter Try.func26, Try.ntmps26
        go_wp2_with (first
          | (go_at_call 63; refine (parcelled_any _ _).mono ?_; rintro e w' ⟨rfl, rfl⟩)
          | (go_at_call 51; refine (room_any b A3 σ.evs.length c3 _ f3).mono ?_; rintro e w' ⟨rfl, rfl⟩)
          | go_in)
        go_ret
        exact ⟨rfl, _, hHH.out, Ext.refl w, hN.out⟩
      · have e : σ.work k pieces = (0, (σ.gain k pieces).did k 1 k pieces) := by unfold Net.work; rw [if_neg (fun h' => h' ⟨⟨g1, g2⟩, h2⟩), if_neg he]; rfl
        rw [e]
        have hr : roomErr σ.evs.length = 0 := by unfold roomErr; rw [if_pos (by omega)]
        have hk : k < σ.sta.length := by omega
        obtain ⟨s, hs⟩ : ∃ s, σ.sta[k]? = some s := ⟨_, List.getElem?_eq_getElem hk⟩
        obtain ⟨q1, q2, q3, q4, q5, q6⟩ := hok.sta s (List.mem_of_getElem? hs)
        obtain ⟨hd', bs, o, c, cur, vc, mc, R', hm, i0, i1, i2, i3, hclk, hput⟩ := hN.out.station hs
        have HB : Has w (blk bs cur 107 + (blk b hd' 84 + (mc + R') + (Pl + F))) := hHH.out.eq (by rw [hm]; ac_rfl)
        have j1 := HB.at_ i1
        have j0 : w.cell? ⟨b, 0, none⟩ = some (.slice (some ⟨bs, o, none⟩) σ.sta.length c) := (hHH.out.eq (b := blk b hd' 84 + (blk bs cur 107 + (mc + R') + (Pl + F))) (by rw [hm]; ac_rfl)).at_ i0
        have hnet2 := hput { s with pieces := s.pieces + pieces } (cur.setIfInBounds (o + k * 3) (.int .i64 (s.pieces + pieces))) vc mc (by simp) (fun j hj => by rw [Array.getElem?_setIfInBounds_ne (by omega)]) (arr_eq (arr_lt i1)) (arr_ne i2 (by omega)) (arr_ne i3 (by omega)) hclk
        have hg : σ.gain k pieces = { σ with sta := σ.sta.set k { s with pieces := s.pieces + pieces } } := by simp [Net.gain, hs]
        rw [← hg] at hnet2
        have hs2 : (σ.gain k pieces).sta[k]? = some { s with pieces := s.pieces + pieces } := by rw [hg]; simp [hk]
        have hev : (σ.gain k pieces).evs.length ≤ 400 := by rw [hg]; exact hok.evs
        have l1 := arr_lt i1
        have hle := hok.evs
        have hn5 := hok.n5
        have HJ := hid (And.intro hm (And.intro i0 (And.intro i1 (And.intro i2 i3))))
        have HP := hid hput
        have Hg := hid hg
        have Hr2 := hid hs2
        have b1 : s.pieces + pieces < 1000000000000 := by omega
        have b2 : 0 ≤ s.pieces + pieces := by omega
        have Hq := hid (And.intro q1 q6)
        clear hm i0 i1 i2 i3 hput hg hs2 hs e h2 q1 q6 f0 h0 h3 hok he
        go_enter Try.func26, Try.ntmps26
        go_wp2_with (first
          | (go_at_call 63; refine (parcelled_any _ _).mono ?_; rintro e w' ⟨rfl, rfl⟩)
          | (go_at_call 51; refine (room_any b A3 σ.evs.length c3 _ f3).mono ?_; rintro e w' ⟨rfl, rfl⟩)
          | (refine wpList_store_blk rfl (.tmp 38) (.tmp 36) 3 rfl size3 bs _ (.int .i64 (s.pieces + pieces)) rfl rfl rfl cur 107 _ HB l1 ?_; intro w1 H1 E1)
          | (go_at_call 64; refine (event_did Pl F _ ps b _ w1 hnet2 (H1.eq (by ac_rfl)) k _ Hr2.out (show k < s.clock.length by rw [Hq.out.1]; exact hk) _ _ _ q4 (show s.events < 1000000 by omega) (fun t ht => by have := Hq.out.2 t ht; omega) (show s.clock.length ≤ 1000 by rw [Hq.out.1]; omega) (by omega)).mono ?_; rintro e w2 ⟨rfl, m2, H2', E2, hnet3⟩)
          | go_in)
        go_ret
        exact ⟨rfl, _, H2', E1.trans E2, hnet3⟩
    · have e : σ.work no pieces = (2, σ) := by unfold Net.work; rw [if_pos (fun h' => h2 h'.2)]
      rw [e]
      obtain ⟨g1, g2⟩ := h1
      have h2b := parcB_no h2
      clear h2 e hok
      go_enter Try.func26, Try.ntmps26
      go_wp2_with (first
        | (go_at_call 63; refine (parcelled_any _ _).mono ?_; rintro e w' ⟨rfl, rfl⟩)
        | go_in)
      go_ret
      exact ⟨rfl, _, hHH.out, Ext.refl w, hN.out⟩
  · have e : σ.work no pieces = (2, σ) := by unfold Net.work; rw [if_pos (fun h' => h1 h'.1)]
    rw [e]
    clear e hok
    go_enter Try.func26, Try.ntmps26
    by_cases g1 : 0 ≤ no
    · have g2 : ¬ no < σ.sta.length := fun h => h1 ⟨g1, h⟩
      clear h1
      go_wp2
      go_ret
      exact ⟨rfl, _, hHH.out, Ext.refl w, hN.out⟩
    · clear h1
      go_wp2
      go_ret
      exact ⟨rfl, _, hHH.out, Ext.refl w, hN.out⟩
end Go.Proofs.Ytnkgfgkgepadhaa

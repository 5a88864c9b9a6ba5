/-
  The walk of Total.
-/
import Derived.Test.YtnkgfgkgepadhaaWalk12
namespace Go.Proofs.Ytnkgfgkgepadhaa
open Go.RowKit
set_option linter.unusedVariables false
set_option linter.unusedSimpArgs false

def isum : List Int → Int
  | [] => 0
  | a :: l => a + isum l
theorem isum_append : ∀ (l l' : List Int), isum (l ++ l') = isum l + isum l'
  | [], l' => by simp [isum]
  | a :: l, l' => by simp only [List.cons_append, isum, isum_append l l']; omega
theorem isum_snoc (l : List Int) (a : Int) : isum (l ++ [a]) = isum l + a := by rw [isum_append]; simp [isum]
theorem isum_bound {B : Int} (hB : 0 ≤ B) : ∀ {l : List Int}, (∀ a ∈ l, 0 ≤ a ∧ a ≤ B) → 0 ≤ isum l ∧ isum l ≤ B * l.length
  | [], _ => by simp [isum]
  | a :: l, h => by
    have h1 := h a (by simp)
    have h2 := isum_bound hB (l := l) fun x hx => h x (by simp [hx])
    simp only [isum, List.length_cons, Int.natCast_add, Int.mul_add, Int.natCast_one, Int.mul_one]
    omega
def totLine (l : List Msg) : Int := isum (l.map fun x => max x.told 0)
def totRow (r : List (List Msg)) : Int := isum (r.map totLine)
def totOf (σ : Net) (k : Nat) : Int := (match σ.sta[k]? with | some s => s.pieces | none => 0) + totRow (σ.chan.getD k [])
def Net.total (σ : Net) : Int := isum ((List.range σ.sta.length).map (totOf σ))
theorem map_take_more {α β : Type} (f : α → β) {l : List α} {t : Nat} {a : α} (h : l[t]? = some a) : (l.take (t + 1)).map f = (l.take t).map f ++ [f a] := by rw [take_more h, List.map_append]; rfl
/-- What the walk needs of the numbers. -/
structure TotOk (σ : Net) : Prop where
  n : σ.sta.length ≤ 5
  rows : σ.chan.length = σ.sta.length
  cols : ∀ r ∈ σ.chan, r.length ≤ 5
  line : ∀ r ∈ σ.chan, ∀ l ∈ r, l.length ≤ 1000
  msg : ∀ r ∈ σ.chan, ∀ l ∈ r, ∀ x ∈ l, -1000000 ≤ x.told ∧ x.told ≤ 1000000
  sta : ∀ s ∈ σ.sta, 0 ≤ s.pieces ∧ s.pieces ≤ 1000000000
theorem totLine_bound {l : List Msg} (h : l.length ≤ 1000) (h1 : ∀ x ∈ l, -1000000 ≤ x.told ∧ x.told ≤ 1000000) : 0 ≤ totLine l ∧ totLine l ≤ 1000000000 := by
  have := isum_bound (B := 1000000) (by omega) (l := l.map fun x => max x.told 0) (fun a ha => by
    obtain ⟨x, hx, rfl⟩ := List.mem_map.1 ha
    have := h1 x hx
    omega)
  rw [List.length_map] at this
  unfold totLine
  omega
theorem totRow_bound {r : List (List Msg)} (h : r.length ≤ 5) (h0 : ∀ l ∈ r, l.length ≤ 1000) (h1 : ∀ l ∈ r, ∀ x ∈ l, -1000000 ≤ x.told ∧ x.told ≤ 1000000) : 0 ≤ totRow r ∧ totRow r ≤ 5000000000 := by
  have := isum_bound (B := 1000000000) (by omega) (l := r.map totLine) (fun a ha => by
    obtain ⟨x, hx, rfl⟩ := List.mem_map.1 ha
    exact totLine_bound (h0 x hx) (h1 x hx))
  rw [List.length_map] at this
  unfold totRow
  omega
theorem totOf_bound {σ : Net} (h : TotOk σ) {k : Nat} (hk : k < σ.sta.length) : 0 ≤ totOf σ k ∧ totOf σ k ≤ 6000000000 := by
  unfold totOf
  obtain ⟨r, hr⟩ : ∃ r, σ.chan[k]? = some r := ⟨_, List.getElem?_eq_getElem (by rw [h.rows]; exact hk)⟩
  have hm := List.mem_of_getElem? hr
  have h1 := totRow_bound (h.cols r hm) (h.line r hm) (h.msg r hm)
  have h2 := h.sta _ (List.getElem_mem hk)
  rw [List.getElem?_eq_getElem hk, show σ.chan.getD k [] = r by simp [List.getD, hr]]
  simp only
  omega
theorem range_map_more (f : Nat → Int) (t : Nat) : (List.range (t + 1)).map f = (List.range t).map f ++ [f t] := by rw [List.range_succ, List.map_append]; rfl
theorem tot_part {σ : Net} (h : TotOk σ) {t : Nat} (ht : t ≤ σ.sta.length) : 0 ≤ isum ((List.range t).map (totOf σ)) ∧ isum ((List.range t).map (totOf σ)) ≤ 30000000000 := by
  have := isum_bound (B := 6000000000) (by omega) (l := (List.range t).map (totOf σ)) (fun a ha => by
    obtain ⟨x, hx, rfl⟩ := List.mem_map.1 ha
    exact totOf_bound h (Nat.lt_of_lt_of_le (List.mem_range.1 hx) ht))
  rw [List.length_map, List.length_range] at this
  have := h.n
  omega

set_option maxHeartbeats 4000000 in
set_option maxRecDepth 100000 in
theorem total_any (F : MS) (σ : Net) (b : Nat) (w : World) (h0 : 0 < σ.sta.length) (hnet : RdNet F σ b) (hH : Has w F) (hok : TotOk σ) :
    Calls Try.prog 19 #[.pointer (some ⟨b, 0, none⟩)] w fun e w' => e = .returned (.int .i64 σ.total) ∧ (∀ M, Has w M → Has w' M) ∧ Ext w w' := by
  obtain ⟨ad, c0, f0, b0⟩ := ok_net F σ b w h0 hnet hH
  obtain ⟨_, _, A1, c1, _, _, _, _, _, a1, _, _, _, k1, _⟩ := hnet.heads
  have HH := hid hH
  have B0 := hid b0
  have K1 := hid k1
  have Ha1 := hid a1
  have Hok := hid hok
  have q3 : (σ.sta.length : Int) ≤ 1000 := by have := hok.n; omega
  have q4 : (σ.chan.length : Int) = σ.sta.length := by have := hok.rows; omega
  have Q4 := hid q4
  clear hnet hH b0 k1 a1 hok q4
  go_enter Try.func19, Try.ntmps19
  go_wp2_with (go_at_call 56; refine (ok_yes b ad _ c0 _ f0).mono ?_; rintro e w' ⟨rfl, rfl⟩)
  go_loopw [3, 18] (fun vo v wr => ∃ t : Nat, t ≤ σ.sta.length ∧ v = .int .i64 t ∧ vo = .int .i64 (isum ((List.range t).map (totOf σ))) ∧ (∀ M, Has w M → Has wr M) ∧ Ext w wr) (fun _ v _ => σ.sta.length - (intOf v).toNat)
  case atStart => exact ⟨0, Nat.zero_le _, rfl, rfl, fun _ h => h, Ext.refl w⟩
  case round =>
    obtain ⟨t, ht, rfl, rfl, hHt, hEt⟩ := hrel
    by_cases hlt : t < σ.sta.length
    · obtain ⟨x, hx⟩ : ∃ x, σ.sta[t]? = some x := ⟨_, List.getElem?_eq_getElem hlt⟩
      obtain ⟨b3, o3, A5, c5, he, e3, e4, e5, _⟩ := B0.out.getSta hx
      injection he with he
      subst he
      have hHF : Has wr (0 + F) := by rw [MS.zero_add]; exact hHt F HH.out
      have f3 := e3.cell hHF
      have f4 := e4.cell hHF
      have f5 := e5.cell hHF
      obtain ⟨r, hr⟩ : ∃ r, σ.chan[t]? = some r := ⟨_, List.getElem?_eq_getElem (by have := Q4.out; omega)⟩
      have g1 := Ha1.out.cell hHF
      obtain ⟨b1, o1, Ar, cr, rfl, e6, k2, _⟩ := K1.out.getSl hr
      have g2 := e6.cell hHF
      have hm := List.mem_of_getElem? hr
      have hrl := Hok.out.cols r hm
      have hrl' : (r.length : Int) ≤ 1000 := by omega
      have hp := Hok.out.sta x (List.mem_of_getElem? hx)
      have hpart := tot_part Hok.out ht
      have htot : totOf σ t = x.pieces + totRow r := by unfold totOf; rw [hx, show σ.chan.getD t [] = r by simp [List.getD, hr]]
      have Htot := hid htot
      have htn : (t : Int) < σ.chan.length := by have := Q4.out; omega
      have Hmore := hid (show isum ((List.range (t + 1)).map (totOf σ)) = isum ((List.range t).map (totOf σ)) + totOf σ t by rw [range_map_more, isum_snoc])
      have K2 := hid k2
      have g3 := World.block_lt_of_cell? _ _ g1
      have g4 := World.block_lt_of_cell? _ _ g2
      simp only at g3 g4
      have HHt := hid hHt
      have HEt := hid hEt
      have Hlt := hid hlt
      have Hline := hid (Hok.out.line r hm)
      have Hmsg := hid (Hok.out.msg r hm)
      clear hHt hEt hx e3 e4 e5 e6 k2 hr hm htot hHF
      obtain ⟨h1, h2⟩ := hp
      obtain ⟨h3, h4⟩ := hpart
      generalize isum ((List.range t).map (totOf σ)) = S at *
      generalize x.pieces = p at *
      go_wp2
      go_loopw [3, 35] (fun vo v wq => ∃ s : Nat, s ≤ r.length ∧ v = .int .i64 s ∧ vo = .int .i64 (S + p + isum ((r.take s).map totLine)) ∧ (∀ M, Has w M → Has wq M) ∧ Ext w wq) (fun _ v _ => r.length - (intOf v).toNat)
      case atStart => exact ⟨0, Nat.zero_le _, rfl, by simp [isum], fun M h => ((HHt.out M h).alloc _).right, HEt.out.trans (Ext.alloc _ _)⟩
      case round =>
        obtain ⟨s, hs, rfl, rfl, hHs, hEs⟩ := hrel
        have hpart2 := isum_bound (B := 1000000000) (by omega) (l := (r.take s).map totLine) (fun a ha => by
          obtain ⟨y, hy, rfl⟩ := List.mem_map.1 ha
          have hy := List.mem_of_mem_take hy
          exact totLine_bound (Hline.out y hy) (Hmsg.out y hy))
        rw [List.length_map, List.length_take, Nat.min_eq_left hs] at hpart2
        by_cases hls : s < r.length
        · obtain ⟨q, hq⟩ : ∃ q, r[s]? = some q := ⟨_, List.getElem?_eq_getElem hls⟩
          have hHF : Has wr (0 + F) := by rw [MS.zero_add]; exact hHs F HH.out
          obtain ⟨b2, o2, Aq, cq, rfl, e7, k3, _⟩ := K2.out.getSl hq
          have g5 := e7.cell hHF
          have hqm := List.mem_of_getElem? hq
          have hql := Hline.out q hqm
          have hql' : (q.length : Int) ≤ 1000 := by omega
          have Hmsg2 := hid (Hmsg.out q hqm)
          have Hmore2 := hid (show isum ((r.take (s + 1)).map totLine) = isum ((r.take s).map totLine) + totLine q by rw [map_take_more totLine hq, isum_snoc])
          have K3 := hid k3
          have HHs := hid hHs
          have HEs := hid hEs
          have Hls := hid hls
          have hb5 : 0 ≤ isum ((r.take s).map totLine) ∧ isum ((r.take s).map totLine) ≤ 5000000000 := by omega
          obtain ⟨h5, h6⟩ := hb5
          clear hHs hEs hq e7 k3 hqm hHF hpart2
          generalize isum ((r.take s).map totLine) = S2 at *
          go_wp2
          go_loopw [3, 41] (fun vo v wq => ∃ u : Nat, u ≤ q.length ∧ v = .int .i64 u ∧ vo = .int .i64 (S + p + S2 + isum ((q.take u).map fun x => max x.told 0)) ∧ (∀ M, Has w M → Has wq M) ∧ Ext w wq) (fun _ v _ => q.length - (intOf v).toNat)
          case atStart => exact ⟨0, Nat.zero_le _, rfl, by simp [isum], HHs.out, HEs.out⟩
          case round =>
            obtain ⟨u, hu, rfl, rfl, hHu, hEu⟩ := hrel
            have hpart3 := isum_bound (B := 1000000) (by omega) (l := (q.take u).map fun x => max x.told 0) (fun a ha => by
              obtain ⟨y, hy, rfl⟩ := List.mem_map.1 ha
              have := Hmsg2.out y (List.mem_of_mem_take hy)
              omega)
            rw [List.length_map, List.length_take, Nat.min_eq_left hu] at hpart3
            by_cases hlu : u < q.length
            · obtain ⟨y, hy⟩ : ∃ y, q[u]? = some y := ⟨_, List.getElem?_eq_getElem hlu⟩
              have hHF : Has wr (0 + F) := by rw [MS.zero_add]; exact hHu F HH.out
              obtain ⟨b4, o4, v, rfl, e8, hv⟩ := K3.out.getMsg hy
              have g6 := e8.cell hHF
              have hby := Hmsg2.out y (List.mem_of_getElem? hy)
              have Hmore3 := hid (show isum ((q.take (u + 1)).map fun x => max x.told 0) = isum ((q.take u).map fun x => max x.told 0) + max y.told 0 by rw [map_take_more (fun x : Msg => max x.told 0) hy, isum_snoc])
              have HHu := hid hHu
              have HEu := hid hEu
              have Hlu := hid hlu
              have hb6 : 0 ≤ isum ((q.take u).map fun x => max x.told 0) ∧ isum ((q.take u).map fun x => max x.told 0) ≤ 1000000000 := by omega
              obtain ⟨h7, h8⟩ := hb6
              clear hHu hEu hy e8 hlu hHF hpart3
              generalize isum ((q.take u).map fun x => max x.told 0) = S3 at *
              rcases hv with ⟨hv0, vc, hv, hvc⟩ | ⟨hv0, hv, hvc⟩
              · obtain rfl : v = .iface 96 (.agg #[.int .i64 y.told, vc]) := by simpa using hv
                clear hv hvc
                have Hmx := hid (show max y.told 0 = y.told by omega)
                go_wp2_with (go_at_call 111; refine (told_parcel _ _ _).mono ?_; rintro e w1 ⟨rfl, j1, j2⟩; have J1 := hid (fun M h => j1 M (HHu.out M h)); have J2 := hid j2; clear j1 j2)
                go_roundw
                case rel => exact ⟨u + 1, Hlu.out, by go_num, by rw [Hmore3.out, Hmx.out]; go_num, J1.out, HEu.out.trans J2.out⟩
                case measure => have := Hlu.out; simp [intOf]; omega
              · obtain rfl : v = .iface 99 (.int .i64 (-y.told)) := by simpa using hv
                clear hv hvc
                have Hmx := hid (show max y.told 0 = 0 by omega)
                obtain ⟨z, hz⟩ : ∃ z : Int, y.told = -z := ⟨-y.told, by omega⟩
                rw [hz] at g6 hby Hmx Hmore3 hv0
                simp only [Int.neg_neg] at g6
                have hbz : -1000000 ≤ z ∧ z ≤ 1000000 := by omega
                have hz0 : 0 < z := by omega
                clear hz hv0 hby
                go_wp2_with (go_at_call 112; refine (told_marker _ _ hbz).mono ?_; rintro e w1 ⟨rfl, rfl⟩)
                go_roundw
                case rel => exact ⟨u + 1, Hlu.out, by go_num, by rw [Hmore3.out, Hmx.out]; go_num, HHu.out, HEu.out⟩
                case measure => have := Hlu.out; simp [intOf]; omega
            · obtain rfl : u = q.length := by omega
              have Htl := hid (show isum ((q.take q.length).map fun x => max x.told 0) = totLine q by rw [List.take_length]; rfl)
              have htb := totLine_bound hql Hmsg2.out
              have HHu := hid hHu
              have HEu := hid hEu
              clear hHu hEu hpart3
              rw [Htl.out]
              go_wp2
              go_roundw
              case rel => exact ⟨s + 1, Hls.out, by go_num, by rw [Hmore2.out]; go_num, HHu.out, HEu.out⟩
              case measure => have := Hls.out; simp [intOf]; omega
        · obtain rfl : s = r.length := by omega
          have Htl := hid (show isum ((r.take r.length).map totLine) = totRow r by rw [List.take_length]; rfl)
          have HHs := hid hHs
          have HEs := hid hEs
          clear hHs hEs hpart2
          rw [Htl.out]
          go_wp2
          go_roundw
          case rel => exact ⟨t + 1, Hlt.out, by go_num, by rw [Hmore.out, Htot.out]; go_num, HHs.out, HEs.out⟩
          case measure => have := Hlt.out; simp [intOf]; omega
    · obtain rfl : t = σ.sta.length := by omega
      have HHt := hid hHt
      have HEt := hid hEt
      clear hHt hEt
      go_wp2
      go_ret
      exact ⟨rfl, HHt.out, HEt.out⟩
end Go.Proofs.Ytnkgfgkgepadhaa

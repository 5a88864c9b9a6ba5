/-
  Walks: sum, made.
-/
import Derived.Test.YtnkgfgkgepadhaaKeeps3
import Derived.Test.YtnkgfgkgepadhaaAlive
namespace Go.Proofs.Ytnkgfgkgepadhaa
open Go.RowKit
set_option linter.unusedVariables false
set_option linter.unusedSimpArgs false

theorem isum_abs {B : Int} (hB : 0 ≤ B) : ∀ {l : List Int}, (∀ a ∈ l, -B ≤ a ∧ a ≤ B) → -(B * l.length) ≤ isum l ∧ isum l ≤ B * l.length
  | [], _ => by simp [isum]
  | a :: l, h => by
    have h1 := h a (by simp)
    have h2 := isum_abs hB (l := l) fun x hx => h x (by simp [hx])
    simp only [isum, List.length_cons, Int.natCast_add, Int.mul_add, Int.natCast_one, Int.mul_one]
    omega
set_option maxHeartbeats 1000000 in
theorem sum_any {F : MS} {l : List Int} {A : Option Addr} {n c : Nat} {w : World} (h : RdS F RT.int l (.slice A n c)) (hH : Has w F) (hl : l.length ≤ 1000) (hb : ∀ a ∈ l, -1000000000 ≤ a ∧ a ≤ 1000000000) :
    Calls Try.prog 23 #[.slice A n c] w fun e w' => e = .returned (.int .i64 (isum l)) ∧ w = w' := by
  obtain ⟨rfl, _⟩ := h.cells
  have H := hid h
  have HH := hid hH
  have Hb := hid hb
  have q3 : (l.length : Int) ≤ 1000 := by omega
  clear h hH hb
  go_enter Try.func23, Try.ntmps23
  go_wp2
  go_loop [3, 4] (fun vs v => ∃ t : Nat, t ≤ l.length ∧ v = .int .i64 t ∧ vs = .int .i64 (isum (l.take t))) (fun _ v => l.length - (intOf v).toNat)
  case atStart => exact ⟨0, Nat.zero_le _, rfl, rfl⟩
  case round =>
    obtain ⟨t, ht, rfl, rfl⟩ := hrel
    have hp := isum_abs (B := 1000000000) (by omega) (l := l.take t) fun a ha => Hb.out a (List.mem_of_mem_take ha)
    rw [List.length_take, Nat.min_eq_left ht] at hp
    have hp1 : -1000000000000 ≤ isum (l.take t) := by omega
    have hp2 : isum (l.take t) ≤ 1000000000000 := by omega
    clear hp
    by_cases hlt : t < l.length
    · obtain ⟨x, hx⟩ : ∃ x, l[t]? = some x := ⟨_, List.getElem?_eq_getElem hlt⟩
      obtain ⟨b, o, rfl, e1⟩ := H.out.getInt hx
      have f1 := e1.cell (X := 0) (by rw [MS.zero_add]; exact HH.out)
      obtain ⟨hb1, hb2⟩ := Hb.out x (List.mem_of_getElem? hx)
      have Hm := hid (show isum (l.take (t + 1)) = isum (l.take t) + x by rw [take_more hx, isum_snoc])
      have Hlt := hid hlt
      clear hx e1
      generalize isum (l.take t) = S at *
      go_wp2
      go_round
      case rel => exact ⟨t + 1, Hlt.out, by go_num, by rw [Hm.out]⟩
      case measure => have := Hlt.out; simp [intOf]; omega
    · obtain rfl : t = l.length := by omega
      rw [List.take_length]
      go_wp2
      go_ret
      exact ⟨rfl, rfl⟩

/-- How many events of each station there are. -/
def counts (n : Nat) (l : List Ev) : List Int := (List.range n).map fun s : Nat => ((cntE l (s : Int) : Nat) : Int)
theorem counts_len (n : Nat) (l : List Ev) : (counts n l).length = n := by simp [counts]
theorem counts_get {n : Nat} {l : List Ev} {s : Nat} (h : s < n) : (counts n l)[s]? = some ((cntE l s : Nat) : Int) := by simp [counts, h]
theorem counts_snoc {n : Nat} {l : List Ev} {e : Ev} {s : Nat} (he : e.station = s) (hs : s < n) : counts n (l ++ [e]) = (counts n l).set s ((cntE l s : Nat) + 1) := by
  apply List.ext_getElem?
  intro i
  rw [List.getElem?_set, counts_len]
  by_cases hi : i < n
  · rw [counts_get hi, counts_get hi, cntE_snoc, he]
    by_cases his : s = i
    · subst his; simp [hi]
    · rw [if_neg his, if_neg (by omega)]; simp
  · have e1 : (counts n (l ++ [e]))[i]? = none := List.getElem?_eq_none (by rw [counts_len]; omega)
    have e2 : (counts n l)[i]? = none := List.getElem?_eq_none (by rw [counts_len]; omega)
    rw [e1, e2, if_neg (by omega)]
theorem counts_nil (n : Nat) : counts n [] = List.replicate n 0 := by
  apply List.ext_getElem?
  intro i
  by_cases hi : i < n
  · rw [counts_get hi, List.getElem?_replicate, if_pos hi]; rfl
  · rw [List.getElem?_eq_none (by rw [counts_len]; omega), List.getElem?_eq_none (by simp; omega)]
theorem madeL_bound {ok : Int → Nat → Bool} {B : Int} (hB : 0 ≤ B) : ∀ (l : List Ev) (pre : List Ev), (∀ e ∈ l, 0 ≤ e.pieces ∧ e.pieces ≤ B) → 0 ≤ madeF ok pre l ∧ madeF ok pre l ≤ B * l.length
  | [], _, _ => by simp [madeF]
  | e :: l, pre, h => by
    have h1 := h e (by simp)
    have h2 := madeL_bound hB (ok := ok) l (pre ++ [e]) fun x hx => h x (by simp [hx])
    simp only [madeF, List.length_cons, Int.natCast_add, Int.mul_add, Int.natCast_one, Int.mul_one]
    split <;> omega
def okCut (cut : List Int) (s : Int) (c : Nat) : Bool := decide ((c : Int) < cut.getD s.toNat 0)

/-- The cut that 'made' is given: none, or a count for each station. -/
def CutArg (F : MS) (n : Nat) (ok : Int → Nat → Bool) (v : Value) : Prop := (v = .slice none 0 0 ∧ ok = fun _ _ => true) ∨ ∃ cut A c, v = .slice (some A) n c ∧ cut.length = n ∧ RdS F RT.int cut v ∧ ok = okCut cut

set_option maxHeartbeats 4000000 in
set_option maxRecDepth 100000 in
theorem made_any {F : MS} {l : List Int} {evs : List Ev} {A A2 : Option Addr} {n n2 c c2 : Nat} {v : Value} {w : World} {ok : Int → Nat → Bool} (h : RdS F RT.int l (.slice A n c)) (h2 : RdS F RT.ev evs (.slice A2 n2 c2)) (h3 : CutArg F l.length ok v) (hH : Has w F)
    (hl : l.length ≤ 5) (hb : ∀ a ∈ l, 0 ≤ a ∧ a ≤ 1000000) (hl2 : evs.length ≤ 400) (hst : ∀ e ∈ evs, ∃ k : Nat, e.station = k ∧ k < l.length) (hp : ∀ e ∈ evs, 0 ≤ e.pieces ∧ e.pieces ≤ 1000000) :
    Calls Try.prog 20 #[.slice A n c, .slice A2 n2 c2, v] w fun e w' => e = .returned (.int .i64 (isum l + madeL ok evs)) ∧ (∀ M, Has w M → Has w' M) ∧ Ext w w' := by
  obtain ⟨rfl, _⟩ := h.cells
  obtain ⟨rfl, _⟩ := h2.cells
  have HA := hid (Has.all w)
  have Hs := hid (sum_any h hH (by omega) (fun a ha => by have := hb a ha; omega))
  have hib := isum_bound (B := 1000000) (by omega) hb
  have hib1 : 0 ≤ isum l := hib.1
  have hib2 : isum l ≤ 5000000 := by omega
  obtain ⟨av, hv⟩ : ∃ av cn cc, v = .slice av cn cc := by
    rcases h3 with ⟨rfl, _⟩ | ⟨_, _, _, rfl, _⟩ <;> exact ⟨_, _, _, rfl⟩
  obtain ⟨cn, cc, rfl⟩ := hv
  have H2 := hid h2
  have H3 := hid h3
  have HH := hid hH
  have Hst := hid hst
  have Hp := hid hp
  have q3 : (l.length : Int) ≤ 5 := by omega
  have q4 : (evs.length : Int) ≤ 400 := by omega
  clear h h2 h3 hH hb hst hp hib
  generalize isum l = S0 at *
  generalize l.length = n at *
  go_enter Try.func20, Try.ntmps20
  go_wp2_with (first
    | (go_at_call 23; refine Hs.out.mono ?_; rintro e w' ⟨rfl, rfl⟩)
    | (at_make; refine wpList_make_sl rfl (.tmp 14) (.tmp 14) 22 rfl 3 _ 1 8 Try.underlying22 info3 .i64 .i64 n rfl rfl (by omega) (by simp only [maxLen]; omega) _ HA.out ?_; intro v' w1 m1 k1 k2 k3 k4; have K1 := hid k1; have K2 := hid k2; have K3 := hid k3; have K4 := hid k4; clear k1 k2 k3 k4))
  obtain ⟨ad, cs, rfl⟩ := K4.out
  go_loopw [7, 9] (fun vs v wr => ∃ t : Nat, t ≤ evs.length ∧ v = .int .i64 t ∧ vs = .int .i64 (S0 + madeL ok (evs.take t)) ∧ ∃ m, Ints (counts n (evs.take t)) (.slice (some ad) n cs) m ∧ Has wr (m + MS.all w) ∧ Ext w wr) (fun _ v _ => evs.length - (intOf v).toNat)
  case atStart =>
    refine ⟨0, Nat.zero_le _, rfl, by simp [madeL, madeF], m1, ?_, K2.out, K3.out⟩
    rw [List.take_zero, counts_nil]
    exact made_ints K1.out
  case round =>
    obtain ⟨t, ht, rfl, rfl, m, hm, hHt, hEt⟩ := hrel
    have hmb := madeL_bound (B := 1000000) (ok := ok) (by omega) (evs.take t) [] fun e he => Hp.out e (List.mem_of_mem_take he)
    rw [List.length_take, Nat.min_eq_left ht] at hmb
    have hm1 : 0 ≤ madeL ok (evs.take t) := hmb.1
    have hm2 : madeL ok (evs.take t) ≤ 400000000 := by have := hmb.2; unfold madeL; omega
    clear hmb
    by_cases hlt : t < evs.length
    · obtain ⟨x, hx⟩ : ∃ x, evs[t]? = some x := ⟨_, List.getElem?_eq_getElem hlt⟩
      have hxm := List.mem_of_getElem? hx
      obtain ⟨s, hxs, hsn⟩ := Hst.out x hxm
      obtain ⟨hp1, hp2⟩ := Hp.out x hxm
      have hHF : Has wr F := HH.out.of_all hHt
      obtain ⟨b, o, A5, c5, rfl, e0, e1, e2, e3, e4, _⟩ := H2.out.getEv hx
      have f0 := e0.cell (X := 0) (by rw [MS.zero_add]; exact hHF)
      have f1 := e1.cell (X := 0) (by rw [MS.zero_add]; exact hHF)
      have f3 := e3.cell (X := 0) (by rw [MS.zero_add]; exact hHF)
      have hml := madeL_snoc ok (evs.take t) x
      rw [← take_more hx, hxs] at hml
      have hcs := counts_snoc (n := n) (l := evs.take t) hxs hsn
      rw [← take_more hx] at hcs
      have hcnt : cntE (evs.take t) s ≤ 400 := by
        have h1 : cntE (evs.take t) s ≤ (evs.take t).length := List.countP_le_length
        rw [List.length_take] at h1
        omega
      obtain ⟨bs, os, cS, cur, hv, rfl, hat⟩ := Ints.at_ hm (by rw [counts_len]; omega)
      rw [counts_len] at hv hat
      injection hv with hv _ hv2
      injection hv with hv
      subst hv; subst hv2
      have gs := hat.get hsn
      rw [show (counts n (evs.take t)).getD s 0 = ((cntE (evs.take t) s : Nat) : Int) from getD_some (counts_get hsn) 0] at gs
      have HB : Has wr (blk bs cur 3 + MS.all w) := hHt
      have fs := HB.at_ gs
      have hfz := HB.frozen (os + s)
      have hset := hat.set hsn ((cntE (evs.take t) s : Nat) + 1)
      rw [← hcs] at hset
      have lk := arr_lt gs
      have Hat := hid (IntsAt.ints (b := bs) hset)
      have hsI : (s : Int) < n := by omega
      have hsI0 : (0 : Int) ≤ (s : Int) := by omega
      have Hml := hid hml
      have HB' := hid HB
      have HEt := hid hEt
      have Hlt := hid hlt
      have hltI : (t : Int) < evs.length := by omega
      have htI0 : (0 : Int) ≤ (t : Int) := by omega
      rw [hxs] at f0
      clear hm hHt hEt hx hxm e0 e1 e2 e3 e4 hHF hml hcs hat hset gs HB hxs
      generalize cntE (evs.take t) s = cnt at *
      generalize madeL ok (evs.take t) = S1 at *
      generalize hwh : x.what = wh at *
      have Hwh := hid hwh
      generalize x.pieces = pc at *
      clear hwh
      by_cases hw1 : wh = 1
      · have hw1' : (wh == 1) = true := by simp [hw1]
        have Hw1 := hid hw1
        clear hw1
        rcases H3.out with ⟨hvn, hok⟩ | ⟨cut, A9, c9, hvn, hcl, hcr, hok⟩
        · injection hvn with hvn1 hvn2 hvn3
          subst hvn1; subst hvn2; subst hvn3
          have Hadd := hid (show madeL ok (evs.take (t + 1)) = S1 + pc by rw [Hml.out, if_pos ⟨Hw1.out, by rw [hok]⟩])
          clear hok
          go_wp2
          go_quiet (fail)
          go_wp2
          go_roundw
          case rel => exact ⟨t + 1, Hlt.out, by go_num, by rw [Hadd.out]; go_num, _, Hat.out, (HB'.out.drewN _).setCell _ _, (HEt.out.trans (Ext.drewN _ _)).trans (Ext.setCell _ _ _)⟩
          case measure => have := Hlt.out; simp [intOf]; omega
        · injection hvn with hvn1 hvn2 hvn3
          subst hvn1; subst hvn2; subst hvn3
          have hHF' : Has wr F := HH.out.of_all HB'.out
          obtain ⟨cx, hcx⟩ : ∃ cx, cut[s]? = some cx := ⟨_, List.getElem?_eq_getElem (by omega)⟩
          obtain ⟨bq, oq, hA9, e9⟩ := hcr.getInt hcx
          injection hA9 with hA9
          subst hA9
          have f9 := e9.cell (X := 0) (by rw [MS.zero_add]; exact hHF')
          have Hok := hid (show ok s cnt = decide ((cnt : Int) < cx) by rw [hok]; unfold okCut; rw [Int.toNat_natCast, getD_some hcx])
          clear hok hcr hcx e9 hHF' hcl
          by_cases hlc : (cnt : Int) < cx
          · have Hadd := hid (show madeL ok (evs.take (t + 1)) = S1 + pc by rw [Hml.out, if_pos ⟨Hw1.out, by rw [Hok.out, decide_eq_true hlc]⟩])
            go_wp2
            go_quiet (fail)
            go_wp2
            go_roundw
            case rel => exact ⟨t + 1, Hlt.out, by go_num, by rw [Hadd.out]; go_num, _, Hat.out, (HB'.out.drewN _).setCell _ _, (HEt.out.trans (Ext.drewN _ _)).trans (Ext.setCell _ _ _)⟩
            case measure => have := Hlt.out; simp [intOf]; omega
          · have Hadd := hid (show madeL ok (evs.take (t + 1)) = S1 by rw [Hml.out, if_neg (fun h => by rw [Hok.out, decide_eq_false hlc] at h; cases h.2), Int.add_zero])
            go_wp2
            go_quiet (fail)
            go_wp2
            go_roundw
            case rel => exact ⟨t + 1, Hlt.out, by go_num, by rw [Hadd.out], _, Hat.out, (HB'.out.drewN _).setCell _ _, (HEt.out.trans (Ext.drewN _ _)).trans (Ext.setCell _ _ _)⟩
            case measure => have := Hlt.out; simp [intOf]; omega
      · have hw1' : (wh == 1) = false := by simp [hw1]
        have Hadd := hid (show madeL ok (evs.take (t + 1)) = S1 by rw [Hml.out, if_neg (fun h => hw1 h.1), Int.add_zero])
        clear hw1
        go_wp2
        go_quiet (fail)
        go_wp2
        go_roundw
        case rel => exact ⟨t + 1, Hlt.out, by go_num, by rw [Hadd.out], _, Hat.out, (HB'.out.drewN _).setCell _ _, (HEt.out.trans (Ext.drewN _ _)).trans (Ext.setCell _ _ _)⟩
        case measure => have := Hlt.out; simp [intOf]; omega
    · obtain rfl : t = evs.length := by omega
      rw [List.take_length]
      have HHt := hid hHt
      have HEt := hid hEt
      clear hm hHt hEt
      go_wp2
      go_ret
      exact ⟨rfl, fun M hM => hM.of_all HHt.out, HEt.out⟩
end Go.Proofs.Ytnkgfgkgepadhaa

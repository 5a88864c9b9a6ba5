/-
  The walk of causes.
-/
import Derived.Test.YtnkgfgkgepadhaaEvRd
namespace Go.Proofs.Ytnkgfgkgepadhaa
open Go.RowKit
set_option linter.unusedVariables false
set_option linter.unusedSimpArgs false
set_option maxHeartbeats 4000000
set_option maxRecDepth 100000

/-! ### Plain -/
/-- Is event j a receipt of the channel of event i? -/
def rcB (l : List Ev) (i j : Nat) : Bool := (l.getD j dfEv).what == 3 && ((l.getD j dfEv).station == (l.getD i dfEv).station && (l.getD j dfEv).other == (l.getD i dfEv).other)
def rcN (l : List Ev) (i : Nat) : Nat → Int
  | 0 => 0
  | j + 1 => if rcB l i j then rcN l i j + 1 else rcN l i j
/-- Is event i a receipt, and event j what was sent on its channel? -/
def mtB (l : List Ev) (i j : Nat) : Bool := (l.getD i dfEv).what == 3 && ((l.getD j dfEv).what == 2 && ((l.getD j dfEv).station == (l.getD i dfEv).other && (l.getD j dfEv).other == (l.getD i dfEv).station))
def csK (l : List Ev) (i : Nat) : Nat → Int
  | 0 => rcN l i i
  | j + 1 => if mtB l i j then csK l i j - 1 else csK l i j
def csDir (l : List Ev) (i j : Nat) : Bool := (l.getD j dfEv).station == (l.getD i dfEv).station || (mtB l i j && csK l i j == 0)
def orUp (row o : List Bool) : Nat → List Bool
  | 0 => row
  | t + 1 => (orUp row o t).set t ((orUp row o t).getD t false || o.getD t false)
def csRow (l : List Ev) (out : List (List Bool)) (i : Nat) : Nat → List Bool
  | 0 => List.replicate l.length false
  | j + 1 => if csDir l i j then orUp ((csRow l out i j).set j true) (out.getD j []) j else csRow l out i j
def csAll (l : List Ev) : Nat → List (List Bool)
  | 0 => []
  | t + 1 => csAll l t ++ [csRow l (csAll l t) t t]
theorem orUp_length (row o : List Bool) : ∀ t, (orUp row o t).length = row.length
  | 0 => rfl
  | t + 1 => by unfold orUp; rw [List.length_set]; exact orUp_length row o t
theorem csRow_length (l : List Ev) (out : List (List Bool)) (i : Nat) : ∀ j, (csRow l out i j).length = l.length
  | 0 => by simp [csRow]
  | j + 1 => by
    unfold csRow
    split
    · rw [orUp_length, List.length_set]; exact csRow_length l out i j
    · exact csRow_length l out i j
theorem csAll_length (l : List Ev) : ∀ t, (csAll l t).length = t
  | 0 => rfl
  | t + 1 => by unfold csAll; rw [List.length_append, csAll_length l t]; rfl
theorem csAll_rows (l : List Ev) : ∀ t, ∀ r ∈ csAll l t, r.length = l.length
  | 0, r, hr => by simp [csAll] at hr
  | t + 1, r, hr => by
    unfold csAll at hr
    rcases List.mem_append.1 hr with hr | hr
    · exact csAll_rows l t r hr
    · simp only [List.mem_singleton] at hr; subst hr; exact csRow_length _ _ _ _
theorem rcN_bound (l : List Ev) (i : Nat) : ∀ j : Nat, 0 ≤ rcN l i j ∧ rcN l i j ≤ j
  | 0 => by simp [rcN]
  | j + 1 => by
    have := rcN_bound l i j
    unfold rcN
    split <;> omega
theorem csK_bound (l : List Ev) (i : Nat) : ∀ j : Nat, -(j : Int) ≤ csK l i j ∧ csK l i j ≤ i
  | 0 => by have := rcN_bound l i i; simp only [csK]; omega
  | j + 1 => by
    have := csK_bound l i j
    unfold csK
    split <;> omega

theorem causes_any {F : MS} {l : List Ev} {A : Option Addr} {k c : Nat} {w : World} (hr : RdS F RT.ev l (.slice A k c)) (hH : Has w F) (hl : l.length ≤ 1000) :
    Calls Try.prog 35 #[.slice A k c] w fun e w' => ∃ A' c' m, e = .returned (.slice A' l.length c') ∧ Bools2 (csAll l l.length) (.slice A' l.length c') m ∧ Has w' (m + F) ∧ Ext w w' := by
  obtain ⟨rfl, _⟩ := hr.cells
  obtain ⟨bl, ol, hA, hcell⟩ := evAt hr
  have Hcell := hid hcell
  have HH := hid hH
  have HA := hid hA
  have lI : (l.length : Int) ≤ 1000 := by omega
  clear hcell hH hA hr
  go_enter Try.func35, Try.ntmps35
  go_wp2
  go_loopw [3, 4] (fun vo v wr => ∃ t : Nat, t ≤ l.length ∧ v = .int .i64 t ∧ ∃ mo, Bools2 (csAll l t) vo mo ∧ Has wr (mo + F) ∧ Ext w wr) (fun _ v _ => l.length - (intOf v).toNat)
  case atStart => exact ⟨0, Nat.zero_le _, rfl, 0, SlR.empty _ _ _, by rw [MS.zero_add]; exact HH.out, Ext.refl w⟩
  case round =>
    obtain ⟨i, hi, rfl, mo, ho, hHt, hEt⟩ := hrel
    obtain ⟨Ao, co, rfl, _⟩ := SlR.form ho
    rw [csAll_length] at ho ⊢
    have Ho := hid ho
    have HHt := hid hHt
    have HEt := hid hEt
    clear ho hHt hEt
    by_cases hlt : i < l.length
    · have hA1 := HA.out (by omega)
      subst hA1
      have Hlt := hid hlt
      have hltI : (i : Int) < l.length := by omega
      have Hei := hid (Hcell.out i hlt)
      clear hlt
      go_wp2_with (refine wpList_make_sl rfl (.tmp 18) (.tmp 18) 69 rfl 4 _ 1 1 Try.underlying69 info4 .i64 .i64 l.length rfl rfl (by omega) (by simp only [maxLen]; omega) (mo + F) HHt.out ?_; intro v' w1 m1 j1 j2 j3 _; have h1' := made_bools j1; obtain ⟨Ar, cr, rfl, _⟩ := j1.form; obtain ⟨br, obr, rfl⟩ := bools_some h1' (by rw [List.length_replicate]; have := Hlt.out; omega); have J1 := hid h1'; clear h1'; have J2 := hid j2; have J3 := hid (HEt.out.trans j3); clear j1 j2 j3)
      obtain ⟨F1, hF1⟩ : ∃ F1, F1 = m1 + (mo + F) := ⟨_, rfl⟩
      have HF1 := hid hF1
      rw [← hF1] at J2
      have Hat := hid (show ∀ (W : World), Has W F1 → ∀ (b o : Nat) (u : Value), F.at b o u → W.cell? ⟨b, o, none⟩ = some u from fun W h b o u hu => ((hu.more mo).more m1).c0 (by rw [← HF1.out]; exact h))
      clear hF1
      go_loopw [6, 7] (fun vk v wq => ∃ j : Nat, j ≤ i ∧ v = .int .i64 j ∧ vk = .int .i64 (rcN l i j) ∧ Has wq F1 ∧ Ext w wq) (fun _ v _ => i - (intOf v).toNat)
      case atStart => exact ⟨0, Nat.zero_le _, rfl, rfl, J2.out, J3.out⟩
      case round =>
        obtain ⟨j, hj, rfl, rfl, hHj, hEj⟩ := hrel
        have HHj := hid hHj
        have HEj := hid hEj
        clear hHj hEj
        by_cases hlj : j < i
        · have Hej := Hcell.out j (by have := Hlt.out; omega)
          have f0 := Hat.out wr HHj.out _ _ _ Hej.c0
          have f1 := Hat.out wr HHj.out _ _ _ Hej.c1
          have f2 := Hat.out wr HHj.out _ _ _ Hej.c2
          have g0 := Hat.out wr HHj.out _ _ _ Hei.out.c0
          have g2 := Hat.out wr HHj.out _ _ _ Hei.out.c2
          have hjI : (j : Int) < i := by omega
          have hjl : (j : Int) < l.length := by omega
          have hj0 : (0 : Int) ≤ (j : Int) := by omega
          have hi0 : (0 : Int) ≤ (i : Int) := by omega
          obtain ⟨kb1, kb2⟩ := rcN_bound l i j
          have hw1 : IntKind.i64.wrap (rcN l i j + 1) = rcN l i j + 1 := by rw [IntKind.wrap_i64]; omega
          have Hn := hid (show rcN l i (j + 1) = if rcB l i j then rcN l i j + 1 else rcN l i j from rfl)
          have Hb := hid (show rcB l i j = ((l.getD j dfEv).what == 3 && ((l.getD j dfEv).station == (l.getD i dfEv).station && (l.getD j dfEv).other == (l.getD i dfEv).other)) from rfl)
          generalize rcB l i j = rb at *
          generalize rcN l i j = kn at *
          generalize (l.getD j dfEv).what = wj at *
          generalize (l.getD j dfEv).station = sj at *
          generalize (l.getD j dfEv).other = oj at *
          generalize (l.getD i dfEv).station = si at *
          generalize (l.getD i dfEv).other = oi at *
          have Hlj := hid hlj
          clear hlj Hej
          cases h1 : (wj == 3) with
          | false =>
            go_wp2
            go_quiet (fail)
            go_wp2
            go_roundw
            case rel => exact ⟨j + 1, Hlj.out, by go_num, by rw [Hn.out, Hb.out, h1]; rfl, HHj.out.drewN _, HEj.out.trans (Ext.drewN _ _)⟩
            case measure => have := Hlj.out; simp [intOf]; omega
          | true =>
            obtain rfl := eq_of_beq h1
            cases h2 : (sj == si) with
            | false =>
              go_wp2
              go_quiet (fail)
              go_wp2
              go_roundw
              case rel => exact ⟨j + 1, Hlj.out, by go_num, by rw [Hn.out, Hb.out, h2]; rfl, HHj.out.drewN _, HEj.out.trans (Ext.drewN _ _)⟩
              case measure => have := Hlj.out; simp [intOf]; omega
            | true =>
              obtain rfl := eq_of_beq h2
              cases h3 : (oj == oi) with
              | false =>
                go_wp2
                go_quiet (fail)
                go_wp2
                go_roundw
                case rel => exact ⟨j + 1, Hlj.out, by go_num, by rw [Hn.out, Hb.out, h3, beq_self_eq_true, Bool.and_false, Bool.and_false]; rfl, HHj.out.drewN _, HEj.out.trans (Ext.drewN _ _)⟩
                case measure => have := Hlj.out; simp [intOf]; omega
              | true =>
                obtain rfl := eq_of_beq h3
                go_wp2
                go_quiet (fail)
                go_wp2
                go_roundw
                case rel => exact ⟨j + 1, Hlj.out, by go_num, by rw [Hn.out, Hb.out, beq_self_eq_true, beq_self_eq_true, beq_self_eq_true]; simp [hw1], HHj.out.drewN _, HEj.out.trans (Ext.drewN _ _)⟩
                case measure => have := Hlj.out; simp [intOf]; omega
        · have hje : j = i := by omega
          subst hje
          clear Hei
          go_wp2
          obtain ⟨mr0, hmr0⟩ : ∃ x, x = m1 := ⟨_, rfl⟩
          go_loopw [6, 8] (fun vk v wq => ∃ k : Nat, k ≤ j ∧ v = .int .i64 k ∧ vk = .int .i64 (csK l j k) ∧ ∃ mr, Bools (csRow l (csAll l j) j k) (.slice (some ⟨br, obr, none⟩) l.length cr) mr ∧ Has wq (mr + (mo + F)) ∧ Ext w wq) (fun _ v _ => j - (intOf v).toNat)
          case atStart => exact ⟨0, Nat.zero_le _, rfl, rfl, m1, J1.out, by rw [← HF1.out]; exact HHj.out, HEj.out⟩
          case round =>
            obtain ⟨k, hk, rfl, rfl, mr, hro, hHk, hEk⟩ := hrel
            have Hro := hid hro
            have HHk := hid hHk
            have HEk := hid hEk
            clear hro hHk hEk
            by_cases hlk : k < j
            · have Hej := Hcell.out j Hlt.out
              have Hek := Hcell.out k (by have := Hlt.out; omega)
              have hAt : ∀ (W : World) (X : MS), Has W (X + (mo + F)) → ∀ (b o : Nat) (u : Value), F.at b o u → W.cell? ⟨b, o, none⟩ = some u := fun W X h b o u hu => ((hu.more mo).more X).c0 h
              have f0 := hAt wr _ HHk.out _ _ _ Hek.c0
              have f1 := hAt wr _ HHk.out _ _ _ Hek.c1
              have f2 := hAt wr _ HHk.out _ _ _ Hek.c2
              have g0 := hAt wr _ HHk.out _ _ _ Hej.c0
              have g1 := hAt wr _ HHk.out _ _ _ Hej.c1
              have g2 := hAt wr _ HHk.out _ _ _ Hej.c2
              have hkI : (k : Int) < j := by omega
              have hkl : (k : Int) < l.length := by omega
              have hk0 : (0 : Int) ≤ (k : Int) := by omega
              have hj0 : (0 : Int) ≤ (j : Int) := by omega
              obtain ⟨kb1, kb2⟩ := csK_bound l j k
              have hw1 : IntKind.i64.wrap (csK l j k - 1) = csK l j k - 1 := by rw [IntKind.wrap_i64]; omega
              have Hn := hid (show csK l j (k + 1) = if mtB l j k then csK l j k - 1 else csK l j k from rfl)
              have Hb := hid (show mtB l j k = ((l.getD j dfEv).what == 3 && ((l.getD k dfEv).what == 2 && ((l.getD k dfEv).station == (l.getD j dfEv).other && (l.getD k dfEv).other == (l.getD j dfEv).station))) from rfl)
              have Hd := hid (show csDir l j k = ((l.getD k dfEv).station == (l.getD j dfEv).station || (mtB l j k && csK l j k == 0)) from rfl)
              have Hs := hid (show csRow l (csAll l j) j (k + 1) = if csDir l j k then orUp ((csRow l (csAll l j) j k).set k true) ((csAll l j).getD k []) k else csRow l (csAll l j) j k from rfl)
              have Hlk := hid hlk
              clear hlk Hej Hek hAt
              generalize csDir l j k = dr at *
              generalize mtB l j k = mt at *
              generalize csK l j k = ck at *
              generalize (l.getD k dfEv).what = wk at *
              generalize (l.getD k dfEv).station = sk at *
              generalize (l.getD k dfEv).other = ok at *
              generalize (l.getD j dfEv).what = wj at *
              generalize (l.getD j dfEv).station = sj at *
              generalize (l.getD j dfEv).other = oj at *
              have f3 : ∀ (W : World) (X : MS), Has W (X + (mo + F)) → ∀ (b o : Nat) (u : Value), mo.at b o u → W.cell? ⟨b, o, none⟩ = some u := fun W X h b o u hu => ((hu.more F).more X).c0 (by rw [MS.add_comm F mo]; exact h)
              have Hf3 := hid f3
              obtain ⟨oj0, hoj0⟩ : ∃ oj0, oj0 = (csAll l j).getD k [] := ⟨_, rfl⟩
              rw [← hoj0] at Hs
              have hoj1 : (csAll l j)[k]? = some oj0 := by rw [hoj0]; exact get_getD [] (by rw [csAll_length]; exact Hlk.out)
              have hoj2 : oj0.length = l.length := csAll_rows l j oj0 (List.mem_of_getElem? hoj1)
              obtain ⟨b1, o1, A1, c1, hA1, e1, kr, _⟩ := (Bools2.rdS Ho.out).getSl hoj1
              have HA1 := hid hA1
              have He1 := hid e1
              have Hkr := hid kr
              have Hoj2 := hid hoj2
              obtain ⟨ro, hroe⟩ : ∃ ro, ro = csRow l (csAll l j) j k := ⟨_, rfl⟩
              have Hrol := hid (show ro.length = l.length by rw [hroe]; exact csRow_length _ _ _ _)
              rw [← hroe] at Hs Hro
              clear f3 hoj0 hoj1 hoj2 hA1 e1 kr hroe
              obtain ⟨cur, hcur, hcs, _, hput⟩ := bools_at Hro.out (j := k) (by rw [Hrol.out]; have := Hlk.out; have := Hlt.out; omega)
              have Hcs := hid hcs
              have Hput := hid hput
              rw [hcur] at HHk
              clear hcs hput
              have hb0 : 0 ≤ obr := Nat.zero_le _
              cases h0 : (sk == sj) with
              | false =>
                cases h1 : (wj == 3) with
                | false =>
                  have hmt : mt = false := by rw [Hb.out, h1]; simp
                  have hdr : dr = false := by rw [Hd.out, h0, hmt]; rfl
                  go_wp2
                  go_quiet (fail)
                  go_wp2
                  go_quiet (fail)
                  go_wp2
                  go_roundw
                  case rel => exact ⟨k + 1, Hlk.out, by go_num, by rw [Hn.out, hmt]; simp [hw1], mr, by rw [Hs.out, hdr]; exact Hro.out, by rw [hcur]; exact HHk.out.drewN _, HEk.out.trans (Ext.drewN _ _)⟩
                  case measure => have := Hlk.out; simp [intOf]; omega
                | true =>
                  cases h2 : (wk == 2) with
                  | false =>
                    have hmt : mt = false := by rw [Hb.out, h1, h2]; simp
                    have hdr : dr = false := by rw [Hd.out, h0, hmt]; rfl
                    go_wp2
                    go_quiet (fail)
                    go_wp2
                    go_quiet (fail)
                    go_wp2
                    go_roundw
                    case rel => exact ⟨k + 1, Hlk.out, by go_num, by rw [Hn.out, hmt]; simp [hw1], mr, by rw [Hs.out, hdr]; exact Hro.out, by rw [hcur]; exact HHk.out.drewN _, HEk.out.trans (Ext.drewN _ _)⟩
                    case measure => have := Hlk.out; simp [intOf]; omega
                  | true =>
                    cases h3 : (sk == oj) with
                    | false =>
                      have hmt : mt = false := by rw [Hb.out, h1, h2, h3]; simp
                      have hdr : dr = false := by rw [Hd.out, h0, hmt]; rfl
                      go_wp2
                      go_quiet (fail)
                      go_wp2
                      go_quiet (fail)
                      go_wp2
                      go_roundw
                      case rel => exact ⟨k + 1, Hlk.out, by go_num, by rw [Hn.out, hmt]; simp [hw1], mr, by rw [Hs.out, hdr]; exact Hro.out, by rw [hcur]; exact HHk.out.drewN _, HEk.out.trans (Ext.drewN _ _)⟩
                      case measure => have := Hlk.out; simp [intOf]; omega
                    | true =>
                      cases h4 : (ok == sj) with
                      | false =>
                        have hmt : mt = false := by rw [Hb.out, h1, h2, h3, h4]; simp
                        have hdr : dr = false := by rw [Hd.out, h0, hmt]; rfl
                        go_wp2
                        go_quiet (fail)
                        go_wp2
                        go_quiet (fail)
                        go_wp2
                        go_roundw
                        case rel => exact ⟨k + 1, Hlk.out, by go_num, by rw [Hn.out, hmt]; simp [hw1], mr, by rw [Hs.out, hdr]; exact Hro.out, by rw [hcur]; exact HHk.out.drewN _, HEk.out.trans (Ext.drewN _ _)⟩
                        case measure => have := Hlk.out; simp [intOf]; omega
                      | true =>
                        have hmt : mt = true := by rw [Hb.out, h1, h2, h3, h4]; rfl
                        cases h5 : (ck == 0) with
                        | false =>
                          have hdr : dr = false := by rw [Hd.out, h0, hmt, h5]; rfl
                          go_wp2
                          go_quiet (fail)
                          go_wp2
                          go_quiet (fail)
                          go_wp2
                          go_roundw
                          case rel => exact ⟨k + 1, Hlk.out, by go_num, by rw [Hn.out, hmt]; simp [hw1], mr, by rw [Hs.out, hdr]; exact Hro.out, by rw [hcur]; exact HHk.out.drewN _, HEk.out.trans (Ext.drewN _ _)⟩
                          case measure => have := Hlk.out; simp [intOf]; omega
                        | true =>
                          have hdr : dr = true := by rw [Hd.out, h0, hmt, h5]; rfl
                          go_wp2
                          go_quiet (fail)
                          go_wp2
                          go_quiet (fail)
                          go_wp2_with (refine wpList_store_blk rfl (.tmp 126) (.const (.bool true)) 4 rfl size4 br (obr + k) (.bool true) rfl rfl rfl cur 4 _ (HHk.out.drewN _) Hcs.out ?_; intro w2 H2 E2; have HH2 := hid H2; have EE2 := hid ((HEk.out.trans (Ext.drewN _ _)).trans E2); clear H2 E2)
                          clear HHk HEk Hcs f0 f1 f2 g0 g1 g2
                          go_loopw [10] (fun v wx => ∃ t : Nat, t ≤ k ∧ v = .int .i64 t ∧ ∃ mx, Bools (orUp (ro.set k true) oj0 t) (.slice (some ⟨br, obr, none⟩) l.length cr) mx ∧ Has wx (mx + (mo + F)) ∧ Ext w wx) (fun v _ => k - (intOf v).toNat)
                          case atStart => exact ⟨0, Nat.zero_le _, rfl, _, Hput.out true, HH2.out, EE2.out⟩
                          case round =>
                            obtain ⟨t, ht, rfl, mx, hx, hHx, hEx⟩ := hrel
                            have Hx := hid hx
                            have HHx := hid hHx
                            have HEx := hid hEx
                            clear hx hHx hEx HH2 EE2
                            by_cases hlt2 : t < k
                            · obtain ⟨cur2, hcur2, hcs2, hg2, hput2⟩ := bools_at Hx.out (j := t) (by rw [orUp_length, List.length_set, Hrol.out]; have := Hlk.out; have := Hlt.out; omega)
                              rw [hcur2] at HHx
                              have f7 := HHx.out.at_ hg2
                              obtain ⟨b9, o9, hA9, e9⟩ := Hkr.out.getBool (get_getD (l := oj0) (j := t) false (by rw [Hoj2.out]; have := Hlk.out; have := Hlt.out; omega))
                              have hA1' := HA1.out
                              subst hA1'
                              subst hA9
                              have f9 := Hf3.out wr _ HHx.out _ _ _ e9
                              have f8 := Hf3.out wr _ HHx.out _ _ _ He1.out
                              have Hcs2 := hid hcs2
                              have Hput2 := hid hput2
                              have Hlt2 := hid hlt2
                              have htI : (t : Int) < k := by omega
                              have htl : (t : Int) < l.length := by omega
                              have ht0 : (0 : Int) ≤ (t : Int) := by omega
                              have hol : (t : Int) < oj0.length := by rw [Hoj2.out]; exact htl
                              have Hsx := hid (show orUp (ro.set k true) oj0 (t + 1) = (orUp (ro.set k true) oj0 t).set t ((orUp (ro.set k true) oj0 t).getD t false || oj0.getD t false) from rfl)
                              clear hcs2 hput2 hg2 e9 hcur2
                              generalize (orUp (ro.set k true) oj0 t).getD t false = q at *
                              generalize oj0.getD t false = pb at *
                              cases q with
                              | true =>
                                go_wp2_with (refine wpList_store_blk rfl (.tmp 147) (.tmp 146) 4 rfl size4 br (obr + t) (.bool true) rfl rfl rfl cur2 4 _ HHx.out Hcs2.out ?_; intro w3 H3 E3; have HH3 := hid H3; have EE3 := hid (HEx.out.trans E3); clear H3 E3)
                                go_roundw
                                case rel => exact ⟨t + 1, Hlt2.out, by go_num, _, by rw [Hsx.out]; exact Hput2.out true, HH3.out, EE3.out⟩
                                case measure => have := Hlt2.out; simp [intOf]; omega
                              | false =>
                                go_wp2_with (refine wpList_store_blk rfl (.tmp 147) (.tmp 146) 4 rfl size4 br (obr + t) (.bool pb) rfl rfl rfl cur2 4 _ HHx.out Hcs2.out ?_; intro w3 H3 E3; have HH3 := hid H3; have EE3 := hid (HEx.out.trans E3); clear H3 E3)
                                go_roundw
                                case rel => exact ⟨t + 1, Hlt2.out, by go_num, _, by rw [Hsx.out, Bool.false_or]; exact Hput2.out pb, HH3.out, EE3.out⟩
                                case measure => have := Hlt2.out; simp [intOf]; omega
                            · have hte : t = k := by omega
                              subst hte
                              go_wp2
                              go_roundw
                              case rel => exact ⟨t + 1, Hlk.out, by go_num, by rw [Hn.out, hmt]; simp [hw1], mx, by rw [Hs.out, hdr]; exact Hx.out, HHx.out, HEx.out⟩
                              case measure => have := Hlk.out; simp [intOf]; omega
              | true =>
                cases h1 : (wj == 3) with
                | false =>
                  have hmt : mt = false := by rw [Hb.out, h1]; simp
                  have hdr : dr = true := by rw [Hd.out, h0]; rfl
                  go_wp2
                  go_quiet (fail)
                  go_wp2
                  go_quiet (fail)
                  go_wp2_with (refine wpList_store_blk rfl (.tmp 126) (.const (.bool true)) 4 rfl size4 br (obr + k) (.bool true) rfl rfl rfl cur 4 _ (HHk.out.drewN _) Hcs.out ?_; intro w2 H2 E2; have HH2 := hid H2; have EE2 := hid ((HEk.out.trans (Ext.drewN _ _)).trans E2); clear H2 E2)
                  clear HHk HEk Hcs f0 f1 f2 g0 g1 g2
                  go_loopw [10] (fun v wx => ∃ t : Nat, t ≤ k ∧ v = .int .i64 t ∧ ∃ mx, Bools (orUp (ro.set k true) oj0 t) (.slice (some ⟨br, obr, none⟩) l.length cr) mx ∧ Has wx (mx + (mo + F)) ∧ Ext w wx) (fun v _ => k - (intOf v).toNat)
                  case atStart => exact ⟨0, Nat.zero_le _, rfl, _, Hput.out true, HH2.out, EE2.out⟩
                  case round =>
                    obtain ⟨t, ht, rfl, mx, hx, hHx, hEx⟩ := hrel
                    have Hx := hid hx
                    have HHx := hid hHx
                    have HEx := hid hEx
                    clear hx hHx hEx HH2 EE2
                    by_cases hlt2 : t < k
                    · obtain ⟨cur2, hcur2, hcs2, hg2, hput2⟩ := bools_at Hx.out (j := t) (by rw [orUp_length, List.length_set, Hrol.out]; have := Hlk.out; have := Hlt.out; omega)
                      rw [hcur2] at HHx
                      have f7 := HHx.out.at_ hg2
                      obtain ⟨b9, o9, hA9, e9⟩ := Hkr.out.getBool (get_getD (l := oj0) (j := t) false (by rw [Hoj2.out]; have := Hlk.out; have := Hlt.out; omega))
                      have hA1' := HA1.out
                      subst hA1'
                      subst hA9
                      have f9 := Hf3.out wr _ HHx.out _ _ _ e9
                      have f8 := Hf3.out wr _ HHx.out _ _ _ He1.out
                      have Hcs2 := hid hcs2
                      have Hput2 := hid hput2
                      have Hlt2 := hid hlt2
                      have htI : (t : Int) < k := by omega
                      have htl : (t : Int) < l.length := by omega
                      have ht0 : (0 : Int) ≤ (t : Int) := by omega
                      have hol : (t : Int) < oj0.length := by rw [Hoj2.out]; exact htl
                      have Hsx := hid (show orUp (ro.set k true) oj0 (t + 1) = (orUp (ro.set k true) oj0 t).set t ((orUp (ro.set k true) oj0 t).getD t false || oj0.getD t false) from rfl)
                      clear hcs2 hput2 hg2 e9 hcur2
                      generalize (orUp (ro.set k true) oj0 t).getD t false = q at *
                      generalize oj0.getD t false = pb at *
                      cases q with
                      | true =>
                        go_wp2_with (refine wpList_store_blk rfl (.tmp 147) (.tmp 146) 4 rfl size4 br (obr + t) (.bool true) rfl rfl rfl cur2 4 _ HHx.out Hcs2.out ?_; intro w3 H3 E3; have HH3 := hid H3; have EE3 := hid (HEx.out.trans E3); clear H3 E3)
                        go_roundw
                        case rel => exact ⟨t + 1, Hlt2.out, by go_num, _, by rw [Hsx.out]; exact Hput2.out true, HH3.out, EE3.out⟩
                        case measure => have := Hlt2.out; simp [intOf]; omega
                      | false =>
                        go_wp2_with (refine wpList_store_blk rfl (.tmp 147) (.tmp 146) 4 rfl size4 br (obr + t) (.bool pb) rfl rfl rfl cur2 4 _ HHx.out Hcs2.out ?_; intro w3 H3 E3; have HH3 := hid H3; have EE3 := hid (HEx.out.trans E3); clear H3 E3)
                        go_roundw
                        case rel => exact ⟨t + 1, Hlt2.out, by go_num, _, by rw [Hsx.out, Bool.false_or]; exact Hput2.out pb, HH3.out, EE3.out⟩
                        case measure => have := Hlt2.out; simp [intOf]; omega
                    · have hte : t = k := by omega
                      subst hte
                      go_wp2
                      go_roundw
                      case rel => exact ⟨t + 1, Hlk.out, by go_num, by rw [Hn.out, hmt]; simp [hw1], mx, by rw [Hs.out, hdr]; exact Hx.out, HHx.out, HEx.out⟩
                      case measure => have := Hlk.out; simp [intOf]; omega
                | true =>
                  cases h2 : (wk == 2) with
                  | false =>
                    have hmt : mt = false := by rw [Hb.out, h1, h2]; simp
                    have hdr : dr = true := by rw [Hd.out, h0]; rfl
                    go_wp2
                    go_quiet (fail)
                    go_wp2
                    go_quiet (fail)
                    go_wp2_with (refine wpList_store_blk rfl (.tmp 126) (.const (.bool true)) 4 rfl size4 br (obr + k) (.bool true) rfl rfl rfl cur 4 _ (HHk.out.drewN _) Hcs.out ?_; intro w2 H2 E2; have HH2 := hid H2; have EE2 := hid ((HEk.out.trans (Ext.drewN _ _)).trans E2); clear H2 E2)
                    clear HHk HEk Hcs f0 f1 f2 g0 g1 g2
                    go_loopw [10] (fun v wx => ∃ t : Nat, t ≤ k ∧ v = .int .i64 t ∧ ∃ mx, Bools (orUp (ro.set k true) oj0 t) (.slice (some ⟨br, obr, none⟩) l.length cr) mx ∧ Has wx (mx + (mo + F)) ∧ Ext w wx) (fun v _ => k - (intOf v).toNat)
                    case atStart => exact ⟨0, Nat.zero_le _, rfl, _, Hput.out true, HH2.out, EE2.out⟩
                    case round =>
                      obtain ⟨t, ht, rfl, mx, hx, hHx, hEx⟩ := hrel
                      have Hx := hid hx
                      have HHx := hid hHx
                      have HEx := hid hEx
                      clear hx hHx hEx HH2 EE2
                      by_cases hlt2 : t < k
                      · obtain ⟨cur2, hcur2, hcs2, hg2, hput2⟩ := bools_at Hx.out (j := t) (by rw [orUp_length, List.length_set, Hrol.out]; have := Hlk.out; have := Hlt.out; omega)
                        rw [hcur2] at HHx
                        have f7 := HHx.out.at_ hg2
                        obtain ⟨b9, o9, hA9, e9⟩ := Hkr.out.getBool (get_getD (l := oj0) (j := t) false (by rw [Hoj2.out]; have := Hlk.out; have := Hlt.out; omega))
                        have hA1' := HA1.out
                        subst hA1'
                        subst hA9
                        have f9 := Hf3.out wr _ HHx.out _ _ _ e9
                        have f8 := Hf3.out wr _ HHx.out _ _ _ He1.out
                        have Hcs2 := hid hcs2
                        have Hput2 := hid hput2
                        have Hlt2 := hid hlt2
                        have htI : (t : Int) < k := by omega
                        have htl : (t : Int) < l.length := by omega
                        have ht0 : (0 : Int) ≤ (t : Int) := by omega
                        have hol : (t : Int) < oj0.length := by rw [Hoj2.out]; exact htl
                        have Hsx := hid (show orUp (ro.set k true) oj0 (t + 1) = (orUp (ro.set k true) oj0 t).set t ((orUp (ro.set k true) oj0 t).getD t false || oj0.getD t false) from rfl)
                        clear hcs2 hput2 hg2 e9 hcur2
                        generalize (orUp (ro.set k true) oj0 t).getD t false = q at *
                        generalize oj0.getD t false = pb at *
                        cases q with
                        | true =>
                          go_wp2_with (refine wpList_store_blk rfl (.tmp 147) (.tmp 146) 4 rfl size4 br (obr + t) (.bool true) rfl rfl rfl cur2 4 _ HHx.out Hcs2.out ?_; intro w3 H3 E3; have HH3 := hid H3; have EE3 := hid (HEx.out.trans E3); clear H3 E3)
                          go_roundw
                          case rel => exact ⟨t + 1, Hlt2.out, by go_num, _, by rw [Hsx.out]; exact Hput2.out true, HH3.out, EE3.out⟩
                          case measure => have := Hlt2.out; simp [intOf]; omega
                        | false =>
                          go_wp2_with (refine wpList_store_blk rfl (.tmp 147) (.tmp 146) 4 rfl size4 br (obr + t) (.bool pb) rfl rfl rfl cur2 4 _ HHx.out Hcs2.out ?_; intro w3 H3 E3; have HH3 := hid H3; have EE3 := hid (HEx.out.trans E3); clear H3 E3)
                          go_roundw
                          case rel => exact ⟨t + 1, Hlt2.out, by go_num, _, by rw [Hsx.out, Bool.false_or]; exact Hput2.out pb, HH3.out, EE3.out⟩
                          case measure => have := Hlt2.out; simp [intOf]; omega
                      · have hte : t = k := by omega
                        subst hte
                        go_wp2
                        go_roundw
                        case rel => exact ⟨t + 1, Hlk.out, by go_num, by rw [Hn.out, hmt]; simp [hw1], mx, by rw [Hs.out, hdr]; exact Hx.out, HHx.out, HEx.out⟩
                        case measure => have := Hlk.out; simp [intOf]; omega
                  | true =>
                    cases h3 : (sk == oj) with
                    | false =>
                      have hmt : mt = false := by rw [Hb.out, h1, h2, h3]; simp
                      have hdr : dr = true := by rw [Hd.out, h0]; rfl
                      go_wp2
                      go_quiet (fail)
                      go_wp2
                      go_quiet (fail)
                      go_wp2_with (refine wpList_store_blk rfl (.tmp 126) (.const (.bool true)) 4 rfl size4 br (obr + k) (.bool true) rfl rfl rfl cur 4 _ (HHk.out.drewN _) Hcs.out ?_; intro w2 H2 E2; have HH2 := hid H2; have EE2 := hid ((HEk.out.trans (Ext.drewN _ _)).trans E2); clear H2 E2)
                      clear HHk HEk Hcs f0 f1 f2 g0 g1 g2
                      go_loopw [10] (fun v wx => ∃ t : Nat, t ≤ k ∧ v = .int .i64 t ∧ ∃ mx, Bools (orUp (ro.set k true) oj0 t) (.slice (some ⟨br, obr, none⟩) l.length cr) mx ∧ Has wx (mx + (mo + F)) ∧ Ext w wx) (fun v _ => k - (intOf v).toNat)
                      case atStart => exact ⟨0, Nat.zero_le _, rfl, _, Hput.out true, HH2.out, EE2.out⟩
                      case round =>
                        obtain ⟨t, ht, rfl, mx, hx, hHx, hEx⟩ := hrel
                        have Hx := hid hx
                        have HHx := hid hHx
                        have HEx := hid hEx
                        clear hx hHx hEx HH2 EE2
                        by_cases hlt2 : t < k
                        · obtain ⟨cur2, hcur2, hcs2, hg2, hput2⟩ := bools_at Hx.out (j := t) (by rw [orUp_length, List.length_set, Hrol.out]; have := Hlk.out; have := Hlt.out; omega)
                          rw [hcur2] at HHx
                          have f7 := HHx.out.at_ hg2
                          obtain ⟨b9, o9, hA9, e9⟩ := Hkr.out.getBool (get_getD (l := oj0) (j := t) false (by rw [Hoj2.out]; have := Hlk.out; have := Hlt.out; omega))
                          have hA1' := HA1.out
                          subst hA1'
                          subst hA9
                          have f9 := Hf3.out wr _ HHx.out _ _ _ e9
                          have f8 := Hf3.out wr _ HHx.out _ _ _ He1.out
                          have Hcs2 := hid hcs2
                          have Hput2 := hid hput2
                          have Hlt2 := hid hlt2
                          have htI : (t : Int) < k := by omega
                          have htl : (t : Int) < l.length := by omega
                          have ht0 : (0 : Int) ≤ (t : Int) := by omega
                          have hol : (t : Int) < oj0.length := by rw [Hoj2.out]; exact htl
                          have Hsx := hid (show orUp (ro.set k true) oj0 (t + 1) = (orUp (ro.set k true) oj0 t).set t ((orUp (ro.set k true) oj0 t).getD t false || oj0.getD t false) from rfl)
                          clear hcs2 hput2 hg2 e9 hcur2
                          generalize (orUp (ro.set k true) oj0 t).getD t false = q at *
                          generalize oj0.getD t false = pb at *
                          cases q with
                          | true =>
                            go_wp2_with (refine wpList_store_blk rfl (.tmp 147) (.tmp 146) 4 rfl size4 br (obr + t) (.bool true) rfl rfl rfl cur2 4 _ HHx.out Hcs2.out ?_; intro w3 H3 E3; have HH3 := hid H3; have EE3 := hid (HEx.out.trans E3); clear H3 E3)
                            go_roundw
                            case rel => exact ⟨t + 1, Hlt2.out, by go_num, _, by rw [Hsx.out]; exact Hput2.out true, HH3.out, EE3.out⟩
                            case measure => have := Hlt2.out; simp [intOf]; omega
                          | false =>
                            go_wp2_with (refine wpList_store_blk rfl (.tmp 147) (.tmp 146) 4 rfl size4 br (obr + t) (.bool pb) rfl rfl rfl cur2 4 _ HHx.out Hcs2.out ?_; intro w3 H3 E3; have HH3 := hid H3; have EE3 := hid (HEx.out.trans E3); clear H3 E3)
                            go_roundw
                            case rel => exact ⟨t + 1, Hlt2.out, by go_num, _, by rw [Hsx.out, Bool.false_or]; exact Hput2.out pb, HH3.out, EE3.out⟩
                            case measure => have := Hlt2.out; simp [intOf]; omega
                        · have hte : t = k := by omega
                          subst hte
                          go_wp2
                          go_roundw
                          case rel => exact ⟨t + 1, Hlk.out, by go_num, by rw [Hn.out, hmt]; simp [hw1], mx, by rw [Hs.out, hdr]; exact Hx.out, HHx.out, HEx.out⟩
                          case measure => have := Hlk.out; simp [intOf]; omega
                    | true =>
                      cases h4 : (ok == sj) with
                      | false =>
                        have hmt : mt = false := by rw [Hb.out, h1, h2, h3, h4]; simp
                        have hdr : dr = true := by rw [Hd.out, h0]; rfl
                        go_wp2
                        go_quiet (fail)
                        go_wp2
                        go_quiet (fail)
                        go_wp2_with (refine wpList_store_blk rfl (.tmp 126) (.const (.bool true)) 4 rfl size4 br (obr + k) (.bool true) rfl rfl rfl cur 4 _ (HHk.out.drewN _) Hcs.out ?_; intro w2 H2 E2; have HH2 := hid H2; have EE2 := hid ((HEk.out.trans (Ext.drewN _ _)).trans E2); clear H2 E2)
                        clear HHk HEk Hcs f0 f1 f2 g0 g1 g2
                        go_loopw [10] (fun v wx => ∃ t : Nat, t ≤ k ∧ v = .int .i64 t ∧ ∃ mx, Bools (orUp (ro.set k true) oj0 t) (.slice (some ⟨br, obr, none⟩) l.length cr) mx ∧ Has wx (mx + (mo + F)) ∧ Ext w wx) (fun v _ => k - (intOf v).toNat)
                        case atStart => exact ⟨0, Nat.zero_le _, rfl, _, Hput.out true, HH2.out, EE2.out⟩
                        case round =>
                          obtain ⟨t, ht, rfl, mx, hx, hHx, hEx⟩ := hrel
                          have Hx := hid hx
                          have HHx := hid hHx
                          have HEx := hid hEx
                          clear hx hHx hEx HH2 EE2
                          by_cases hlt2 : t < k
                          · obtain ⟨cur2, hcur2, hcs2, hg2, hput2⟩ := bools_at Hx.out (j := t) (by rw [orUp_length, List.length_set, Hrol.out]; have := Hlk.out; have := Hlt.out; omega)
                            rw [hcur2] at HHx
                            have f7 := HHx.out.at_ hg2
                            obtain ⟨b9, o9, hA9, e9⟩ := Hkr.out.getBool (get_getD (l := oj0) (j := t) false (by rw [Hoj2.out]; have := Hlk.out; have := Hlt.out; omega))
                            have hA1' := HA1.out
                            subst hA1'
                            subst hA9
                            have f9 := Hf3.out wr _ HHx.out _ _ _ e9
                            have f8 := Hf3.out wr _ HHx.out _ _ _ He1.out
                            have Hcs2 := hid hcs2
                            have Hput2 := hid hput2
                            have Hlt2 := hid hlt2
                            have htI : (t : Int) < k := by omega
                            have htl : (t : Int) < l.length := by omega
                            have ht0 : (0 : Int) ≤ (t : Int) := by omega
                            have hol : (t : Int) < oj0.length := by rw [Hoj2.out]; exact htl
                            have Hsx := hid (show orUp (ro.set k true) oj0 (t + 1) = (orUp (ro.set k true) oj0 t).set t ((orUp (ro.set k true) oj0 t).getD t false || oj0.getD t false) from rfl)
                            clear hcs2 hput2 hg2 e9 hcur2
                            generalize (orUp (ro.set k true) oj0 t).getD t false = q at *
                            generalize oj0.getD t false = pb at *
                            cases q with
                            | true =>
                              go_wp2_with (refine wpList_store_blk rfl (.tmp 147) (.tmp 146) 4 rfl size4 br (obr + t) (.bool true) rfl rfl rfl cur2 4 _ HHx.out Hcs2.out ?_; intro w3 H3 E3; have HH3 := hid H3; have EE3 := hid (HEx.out.trans E3); clear H3 E3)
                              go_roundw
                              case rel => exact ⟨t + 1, Hlt2.out, by go_num, _, by rw [Hsx.out]; exact Hput2.out true, HH3.out, EE3.out⟩
                              case measure => have := Hlt2.out; simp [intOf]; omega
                            | false =>
                              go_wp2_with (refine wpList_store_blk rfl (.tmp 147) (.tmp 146) 4 rfl size4 br (obr + t) (.bool pb) rfl rfl rfl cur2 4 _ HHx.out Hcs2.out ?_; intro w3 H3 E3; have HH3 := hid H3; have EE3 := hid (HEx.out.trans E3); clear H3 E3)
                              go_roundw
                              case rel => exact ⟨t + 1, Hlt2.out, by go_num, _, by rw [Hsx.out, Bool.false_or]; exact Hput2.out pb, HH3.out, EE3.out⟩
                              case measure => have := Hlt2.out; simp [intOf]; omega
                          · have hte : t = k := by omega
                            subst hte
                            go_wp2
                            go_roundw
                            case rel => exact ⟨t + 1, Hlk.out, by go_num, by rw [Hn.out, hmt]; simp [hw1], mx, by rw [Hs.out, hdr]; exact Hx.out, HHx.out, HEx.out⟩
                            case measure => have := Hlk.out; simp [intOf]; omega
                      | true =>
                        have hmt : mt = true := by rw [Hb.out, h1, h2, h3, h4]; rfl
                        have hdr : dr = true := by rw [Hd.out, h0]; rfl
                        go_wp2
                        go_quiet (fail)
                        go_wp2
                        go_quiet (fail)
                        go_wp2_with (refine wpList_store_blk rfl (.tmp 126) (.const (.bool true)) 4 rfl size4 br (obr + k) (.bool true) rfl rfl rfl cur 4 _ (HHk.out.drewN _) Hcs.out ?_; intro w2 H2 E2; have HH2 := hid H2; have EE2 := hid ((HEk.out.trans (Ext.drewN _ _)).trans E2); clear H2 E2)
                        clear HHk HEk Hcs f0 f1 f2 g0 g1 g2
                        go_loopw [10] (fun v wx => ∃ t : Nat, t ≤ k ∧ v = .int .i64 t ∧ ∃ mx, Bools (orUp (ro.set k true) oj0 t) (.slice (some ⟨br, obr, none⟩) l.length cr) mx ∧ Has wx (mx + (mo + F)) ∧ Ext w wx) (fun v _ => k - (intOf v).toNat)
                        case atStart => exact ⟨0, Nat.zero_le _, rfl, _, Hput.out true, HH2.out, EE2.out⟩
                        case round =>
                          obtain ⟨t, ht, rfl, mx, hx, hHx, hEx⟩ := hrel
                          have Hx := hid hx
                          have HHx := hid hHx
                          have HEx := hid hEx
                          clear hx hHx hEx HH2 EE2
                          by_cases hlt2 : t < k
                          · obtain ⟨cur2, hcur2, hcs2, hg2, hput2⟩ := bools_at Hx.out (j := t) (by rw [orUp_length, List.length_set, Hrol.out]; have := Hlk.out; have := Hlt.out; omega)
                            rw [hcur2] at HHx
                            have f7 := HHx.out.at_ hg2
                            obtain ⟨b9, o9, hA9, e9⟩ := Hkr.out.getBool (get_getD (l := oj0) (j := t) false (by rw [Hoj2.out]; have := Hlk.out; have := Hlt.out; omega))
                            have hA1' := HA1.out
                            subst hA1'
                            subst hA9
                            have f9 := Hf3.out wr _ HHx.out _ _ _ e9
                            have f8 := Hf3.out wr _ HHx.out _ _ _ He1.out
                            have Hcs2 := hid hcs2
                            have Hput2 := hid hput2
                            have Hlt2 := hid hlt2
                            have htI : (t : Int) < k := by omega
                            have htl : (t : Int) < l.length := by omega
                            have ht0 : (0 : Int) ≤ (t : Int) := by omega
                            have hol : (t : Int) < oj0.length := by rw [Hoj2.out]; exact htl
                            have Hsx := hid (show orUp (ro.set k true) oj0 (t + 1) = (orUp (ro.set k true) oj0 t).set t ((orUp (ro.set k true) oj0 t).getD t false || oj0.getD t false) from rfl)
                            clear hcs2 hput2 hg2 e9 hcur2
                            generalize (orUp (ro.set k true) oj0 t).getD t false = q at *
                            generalize oj0.getD t false = pb at *
                            cases q with
                            | true =>
                              go_wp2_with (refine wpList_store_blk rfl (.tmp 147) (.tmp 146) 4 rfl size4 br (obr + t) (.bool true) rfl rfl rfl cur2 4 _ HHx.out Hcs2.out ?_; intro w3 H3 E3; have HH3 := hid H3; have EE3 := hid (HEx.out.trans E3); clear H3 E3)
                              go_roundw
                              case rel => exact ⟨t + 1, Hlt2.out, by go_num, _, by rw [Hsx.out]; exact Hput2.out true, HH3.out, EE3.out⟩
                              case measure => have := Hlt2.out; simp [intOf]; omega
                            | false =>
                              go_wp2_with (refine wpList_store_blk rfl (.tmp 147) (.tmp 146) 4 rfl size4 br (obr + t) (.bool pb) rfl rfl rfl cur2 4 _ HHx.out Hcs2.out ?_; intro w3 H3 E3; have HH3 := hid H3; have EE3 := hid (HEx.out.trans E3); clear H3 E3)
                              go_roundw
                              case rel => exact ⟨t + 1, Hlt2.out, by go_num, _, by rw [Hsx.out, Bool.false_or]; exact Hput2.out pb, HH3.out, EE3.out⟩
                              case measure => have := Hlt2.out; simp [intOf]; omega
                          · have hte : t = k := by omega
                            subst hte
                            go_wp2
                            go_roundw
                            case rel => exact ⟨t + 1, Hlk.out, by go_num, by rw [Hn.out, hmt]; simp [hw1], mx, by rw [Hs.out, hdr]; exact Hx.out, HHx.out, HEx.out⟩
                            case measure => have := Hlk.out; simp [intOf]; omega
            · have hke : k = j := by omega
              subst hke
              have hkl : (k : Int) < l.length := by have := Hlt.out; omega
              go_wp2_with (at_builtin; refine wpList_push rfl (.tmp 148) (.tmp 150) row64c rfl _ rfl _ rfl rfl (El Bools) El.one El.len (csAll l k) (csRow l (csAll l k) k k) mo mr F Ho.out ⟨_, rfl, Hro.out, rfl⟩ (HHk.out.eq (by ac_rfl)) k (csAll_length l k) (by omega) (by omega) ?_; intro A8 c8 w8 m8 j4 j5 j6; have J4 := hid j4; have J5 := hid j5; have J6 := hid (HEk.out.trans j6); clear j4 j5 j6)
              go_roundw
              case rel => exact ⟨k + 1, Hlt.out, by go_num, m8, J4.out, J5.out, J6.out⟩
              case measure => have := Hlt.out; simp [intOf]; omega
    · have hie : i = l.length := by omega
      subst hie
      go_wp2
      go_ret
      exact ⟨Ao, co, mo, rfl, Ho.out, HHt.out, HEt.out⟩
end Go.Proofs.Ytnkgfgkgepadhaa

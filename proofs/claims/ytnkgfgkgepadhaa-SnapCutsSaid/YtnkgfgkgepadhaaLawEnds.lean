/-
  The walk of SnapEnds.
-/
import Derived.Test.YtnkgfgkgepadhaaAlive
import Derived.Test.YtnkgfgkgepadhaaEnds
namespace Go.Proofs.Ytnkgfgkgepadhaa
open Go.RowKit
set_option linter.unusedVariables false
set_option linter.unusedSimpArgs false

def quietN (σ : Net) (n : Nat) : Prop := ∀ i j, i < n → j < n → i ≠ j → σ.lineAt i j = []
/-- The net in the loops of SnapEnds. -/
structure EndsNet (F : MS) (w : World) (b n : Nat) (σ : Net) (wr : World) : Prop where
  at_ : NetAt 0 F σ b wr
  ext : Ext w wr
  ei : EI σ 200
  n : σ.n = n
def OutInv (F : MS) (w : World) (b n : Nat) (va vr : Value) (wr : World) : Prop :=
  ∃ (r : Nat) (q : Bool) (σ : Net), r ≤ 2000 ∧ va = .bool q ∧ vr = .int .i64 r ∧ EndsNet F w b n σ wr ∧ (q = true → σ.phi + r ≤ 392) ∧ (q = false → quietN σ n)
def In1Inv (F : MS) (w : World) (b n phi : Nat) (va vi : Value) (wr : World) : Prop :=
  ∃ (i : Nat) (q : Bool) (σ : Net), i ≤ n * n ∧ va = .bool q ∧ vi = .int .i64 i ∧ EndsNet F w b n σ wr ∧ σ.phi ≤ phi ∧ (q = true → σ.phi + 1 ≤ phi)
def In2Inv (F : MS) (w : World) (b n phi : Nat) (va vi : Value) (wr : World) : Prop :=
  ∃ (i : Nat) (q : Bool) (σ : Net), i ≤ n ∧ va = .bool q ∧ vi = .int .i64 i ∧ EndsNet F w b n σ wr ∧ σ.phi ≤ phi ∧ (q = true → σ.phi + 1 ≤ phi) ∧ (q = false → ∀ a c : Nat, a < i → c < n → (σ.recv a c).1 ≠ 0)
def In3Inv (F : MS) (w : World) (b n phi i : Nat) (va vi : Value) (wr : World) : Prop :=
  ∃ (j : Nat) (q : Bool) (σ : Net), j ≤ n ∧ va = .bool q ∧ vi = .int .i64 j ∧ EndsNet F w b n σ wr ∧ σ.phi ≤ phi ∧ (q = true → σ.phi + 1 ≤ phi) ∧ (q = false → (∀ a c : Nat, a < i → c < n → (σ.recv a c).1 ≠ 0) ∧ ∀ c : Nat, c < j → (σ.recv i c).1 ≠ 0)

/-- One call of Receive. -/
theorem ends_recv {F : MS} {w : World} {b n : Nat} {σ : Net} {wr : World} (h : EndsNet F w b n σ wr) (x y : Int) :
    Calls Try.prog 16 #[.pointer (some ⟨b, 0, none⟩), .int .i64 x, .int .i64 y] wr fun e w' => e = .returned (.int .i64 (σ.recv x y).1) ∧ EndsNet F w b n (σ.recv x y).2 w' ∧ (σ.recv x y).2.phi ≤ σ.phi ∧ ((σ.recv x y).1 = 0 → (σ.recv x y).2.phi + 1 ≤ σ.phi) ∧ ((σ.recv x y).1 ≠ 0 → (σ.recv x y).2 = σ) := by
  obtain ⟨e1, e2, e3⟩ := h.ei.recv x y
  have e4 : (σ.recv x y).1 ≠ 0 → (σ.recv x y).2 = σ := fun h0 => by
    rcases recv_cases h.ei.ok x y with ⟨_, h2, _⟩ | ⟨h1, _⟩
    · exact h2
    · exact absurd h1 h0
  refine (recv_net h.at_ x y).mono ?_
  rintro e w' ⟨rfl, k1, k2⟩
  refine ⟨rfl, ⟨k1, h.ext.trans k2, e1, e3.trans h.n⟩, ?_, e2, e4⟩
  by_cases h0 : (σ.recv x y).1 = 0
  · have := e2 h0; omega
  · rw [e4 h0]; exact Nat.le_refl _
theorem ends_quiet {σ : Net} {n : Nat} (h : EI σ 200) (hn : σ.n = n) (hq : ∀ a c : Nat, a < n → c < n → (σ.recv a c).1 ≠ 0) : quietN σ n := fun i j hi hj hij => by
  subst hn
  rcases recv_cases h.ok i j with ⟨_, _, h2⟩ | ⟨h1, _⟩
  · refine h2 i j rfl rfl hi hj hij ?_
    have := h.b
    have := h.ok.shots
    omega
  · exact absurd h1 (hq i j hi hj)

set_option maxHeartbeats 4000000 in
set_option maxRecDepth 100000 in
theorem ends_any {F : MS} {l : List Int} {A : Option Addr} {c : Nat} {w : World} {L : List ActD} {A2 : Option Addr} {c2 : Nat} (h : RdS F RT.int l (.slice A l.length c)) (hL : RdS F RT.act L (.slice A2 L.length c2)) (hH : Has w F) (u : Int) (hu0 : 0 ≤ u) (hu1 : u < 256)
    (hl : l.length ≤ 20) (hLl : L.length ≤ 100) (hn : newOk l) :
    Calls Try.prog 3 #[.slice A l.length c, .slice A2 L.length c2, .int .u8 u] w fun e w' => e = .returned (.bool true) ∧ Has w' F ∧ Ext w w' := by
  obtain ⟨n2, n5, _⟩ := id hn
  have Ha := hid (after_net h hH hn hL (by omega))
  obtain ⟨e1, e2⟩ := EI.new hn
  obtain ⟨e3, e4⟩ := e1.acts L
  have He := hid (show EI ((Net.new l).acts L) 200 from e3.le (by omega))
  have Hn := hid (show ((Net.new l).acts L).n = l.length by rw [e4, e2])
  have t1 : ¬ (20 : Int) < l.length := by omega
  have t2 : ¬ (100 : Int) < L.length := by omega
  have t3 : (2 : Int) ≤ l.length := by omega
  have t4 : (l.length : Int) ≤ 5 := by omega
  clear h hL hH hl hLl hn e1 e2 e3 e4
  generalize (Net.new l).acts L = σ0 at *
  generalize hnl : l.length = n at *
  clear hnl
  go_enter Try.func3, Try.ntmps3
  go_wp2_with (go_at_call 15; refine Ha.out.mono ?_; rintro e w' ⟨b, rfl, k1, k2⟩; have K1 := hid k1; have K2 := hid k2; clear k1 k2)
  go_loopw [9, 10] (fun va vr wr => OutInv F w b n va vr wr) (fun _ v _ => 2000 - (intOf v).toNat)
  case atStart =>
    refine ⟨0, true, σ0, by omega, rfl, rfl, ⟨K1.out, K2.out, He.out, Hn.out⟩, fun _ => ?_, fun h => by cases h⟩
    have := He.out.b
    have := He.out.ok.shots
    omega
  case round =>
    obtain ⟨r, q, σ, hr, rfl, rfl, hN, hq1, hq2⟩ := hrel
    cases q with
    | true =>
      have hphi := hq1 rfl
      have hr2 : (r : Int) < 2000 := by omega
      have Hphi := hid hphi
      have HN := hid hN
      clear hq1 hq2 hN hphi
      go_wp2
      go_loopw [9, 11] (fun va vi wr => In1Inv F w b n σ.phi va vi wr) (fun _ v _ => n * n - (intOf v).toNat)
      case atStart => exact ⟨0, false, σ, Nat.zero_le _, rfl, rfl, HN.out, Nat.le_refl _, fun h => by cases h⟩
      case round =>
        obtain ⟨i, q, σ', hi, rfl, rfl, hN, hp, hp2⟩ := hrel
        have m1 : (n : Int) * (n : Int) = ((n * n : Nat) : Int) := by simp
        have m2 : 4 ≤ n * n := Nat.mul_le_mul n2 n2
        have m3 : n * n ≤ 25 := Nat.mul_le_mul n5 n5
        generalize hNN : n * n = N at *
        have HNN := hid hNN
        clear hNN
        by_cases hlt : i < N
        · have hltI : (i : Int) < N := by omega
          have HN' := hid hN
          have Hp := hid (And.intro hp hp2)
          clear hN hp hp2
          go_wp2
          generalize (wrap64 (wrap64 (↑i * (2 * (u % 8) + 1)) + u)).tmod ↑N = k at *
          have hS : True := trivial
          refine wp_region_txt (fun _ => True) none [(0, true), (1, true), (2, true), (3, true), (4, true), (5, true), (6, true), (7, false), (8, true)]
            (by kernel_rfl) rfl (by kernel_rfl) (by kernel_rfl) (by repeat (first | exact PanicOk.body _ _ _ | refine PanicOk.thn ?_ | refine PanicOk.blk ?_)) ?_
          have n0 : ¬ n = 0 := by omega
          repeat
            (refine txt_quiet ?_ hS rfl rfl (fun W hW => ?_) ?_
             rotate_left 1
             · obtain hW1 := hW
               go_simp
               exact rfl
             simp only [Act.put, List.setIfInBounds_toArray, List.set_cons_zero, List.set_cons_succ])
          refine txt_op rfl rfl ?_
          have HR := hid (show EndsNet F w b n σ' wr.drew from ⟨⟨HN'.out.at_.1, HN'.out.at_.2⟩, HN'.out.ext.trans (Ext.drew _), HN'.out.ei, HN'.out.n⟩)
          refine op_call 16 _ _ (by go_simp) _ (ends_recv HR.out (IntKind.i64.wrap (k.tdiv n)) (k.tmod n)) ?_
          rintro e w1 ⟨rfl, k1, k2, k3, k4⟩
          refine ⟨_, rfl, fun _ => trivial, ?_⟩
          have K3 := hid (And.intro k1 (And.intro k2 (And.intro k3 k4)))
          clear k1 k2 k3 k4 HR
          simp only [Act.put, List.setIfInBounds_toArray, List.set_cons_zero, List.set_cons_succ]
          generalize (IntKind.i64.wrap (k.tdiv n)) = x1 at *
          generalize (k.tmod n) = x2 at *
          generalize hrr : σ'.recv x1 x2 = rr at *
          obtain ⟨code, σ2⟩ := rr
          simp only at K3
          clear hrr
          cases hR : (code == 0) with
          | true =>
            repeat
              (refine txt_quiet ?_ hS rfl rfl (fun W hW => ?_) ?_
               rotate_left 1
               · obtain hW1 := hW
                 go_simp
                 exact rfl
               simp only [Act.put, List.setIfInBounds_toArray, List.set_cons_zero, List.set_cons_succ])
            refine txt_done ?_
            have hc : code = 0 := by simpa using hR
            have Hc := hid hc
            have Hlt := hid hlt
            clear hc
            go_wp2
            go_roundw
            case rel => exact ⟨i + 1, true, σ2, by rw [HNN.out]; exact Hlt.out, rfl, by go_num, K3.out.1, by have := K3.out.2.1; have := Hp.out.1; omega, fun _ => by have := K3.out.2.2.1 Hc.out; have := Hp.out.1; omega⟩
            case measure => have := Hlt.out; simp [intOf]; omega
          | false =>
            repeat
              (refine txt_quiet ?_ hS rfl rfl (fun W hW => ?_) ?_
               rotate_left 1
               · obtain hW1 := hW
                 go_simp
                 exact rfl
               simp only [Act.put, List.setIfInBounds_toArray, List.set_cons_zero, List.set_cons_succ])
            refine txt_done ?_
            have hc : code ≠ 0 := by simpa using hR
            have Hc := hid hc
            have Hlt := hid hlt
            clear hc
            go_wp2
            go_roundw
            case rel => exact ⟨i + 1, q, σ2, by rw [HNN.out]; exact Hlt.out, rfl, by go_num, K3.out.1, by have := K3.out.2.1; have := Hp.out.1; omega, fun hq => by have := K3.out.2.1; have := Hp.out.2 hq; omega⟩
            case measure => have := Hlt.out; simp [intOf]; omega
        · obtain rfl : i = N := by omega
          have HN' := hid hN
          have Hp := hid (And.intro hp hp2)
          clear hN hp hp2
          go_wp2
          go_loopw [9, 13] (fun va vi wr => In2Inv F w b n σ.phi va vi wr) (fun _ v _ => n - (intOf v).toNat)
          case atStart => exact ⟨0, q, σ', Nat.zero_le _, rfl, rfl, HN'.out, Hp.out.1, Hp.out.2, fun _ a c ha => by omega⟩
          case round =>
            obtain ⟨i, q, σ', hi, rfl, rfl, hN, hp, hp2, hp3⟩ := hrel
            by_cases hlt : i < n
            · cases q with
              | false =>
                have hltI : (i : Int) < n := by omega
                have HN' := hid hN
                have Hp := hid (And.intro hp (And.intro hp2 hp3))
                have Hlt := hid hlt
                clear hN hp hp2 hp3
                go_wp2
                go_loopw [9, 14] (fun va vi wr => In3Inv F w b n σ.phi i va vi wr) (fun _ v _ => n - (intOf v).toNat)
                case atStart => exact ⟨0, false, σ', Nat.zero_le _, rfl, rfl, HN'.out, Hp.out.1, (fun h => by cases h), fun _ => ⟨Hp.out.2.2 (by first | rfl | trivial), fun c hc => by omega⟩⟩
                case round =>
                  obtain ⟨j, q, σ', hj, rfl, rfl, hN, hp, hp2, hp3⟩ := hrel
                  by_cases hls : j < n
                  · have hlsI : (j : Int) < n := by omega
                    have HN' := hid hN
                    have Hp := hid (And.intro hp (And.intro hp2 hp3))
                    have Hls := hid hls
                    clear hN hp hp2 hp3
                    have HR := hid (ends_recv HN'.out i j)
                    generalize hrr : σ'.recv i j = rr at *
                    obtain ⟨code, σ2⟩ := rr
                    simp only at HR
                    have Hrr := hid hrr
                    clear hrr
                    cases hR : (code == 0) with
                    | true =>
                      have hc : code = 0 := by simpa using hR
                      subst hc
                      clear hR
                      go_wp2_with (go_at_call 16; refine HR.out.mono ?_; rintro e w1 ⟨rfl, k1, k2, k3, k4⟩; have K3 := hid (And.intro k1 (And.intro k2 (And.intro k3 k4))); clear k1 k2 k3 k4)
                      go_roundw
                      case rel => exact ⟨j + 1, true, σ2, Hls.out, rfl, by go_num, K3.out.1, by have := K3.out.2.1; have := Hp.out.1; omega, fun _ => by have := K3.out.2.2.1 (by first | rfl | trivial); have := Hp.out.1; omega, fun h => by cases h⟩
                      case measure => have := Hls.out; simp [intOf]; omega
                    | false =>
                      have Hc := hid (show code ≠ 0 by simpa using hR)
                      go_wp2_with (go_at_call 16; refine HR.out.mono ?_; rintro e w1 ⟨rfl, k1, k2, k3, k4⟩; have K3 := hid (And.intro k1 (And.intro k2 (And.intro k3 k4))); clear k1 k2 k3 k4)
                      go_roundw
                      case rel =>
                        have hs : σ2 = σ' := K3.out.2.2.2 Hc.out
                        refine ⟨j + 1, q, σ2, Hls.out, rfl, by go_num, K3.out.1, by have := K3.out.2.1; have := Hp.out.1; omega, fun hq => by have := K3.out.2.1; have := Hp.out.2.1 hq; omega, fun hq => ?_⟩
                        obtain ⟨g1, g2⟩ := Hp.out.2.2 hq
                        rw [hs]
                        refine ⟨g1, fun c hc => ?_⟩
                        by_cases hcj : c = j
                        · rw [hcj, Hrr.out]; exact Hc.out
                        · exact g2 c (by omega)
                      case measure => have := Hls.out; simp [intOf]; omega
                  · obtain rfl : j = n := by omega
                    have HN' := hid hN
                    have Hp := hid (And.intro hp (And.intro hp2 hp3))
                    clear hN hp hp2 hp3
                    go_wp2
                    go_roundw
                    case rel =>
                      refine ⟨i + 1, q, σ', Hlt.out, rfl, by go_num, HN'.out, Hp.out.1, Hp.out.2.1, fun hq a c ha hc => ?_⟩
                      obtain ⟨g1, g2⟩ := Hp.out.2.2 hq
                      by_cases hai : a = i
                      · rw [hai]; exact g2 c hc
                      · exact g1 a c (by omega) hc
                    case measure => have := Hlt.out; simp [intOf]; omega
              | true =>
                have hltI : (i : Int) < n := by omega
                have HN' := hid hN
                have Hp := hid (And.intro hp hp2)
                clear hN hp hp2 hp3
                go_wp2
                go_roundw
                case rel =>
                  exact ⟨r + 1, true, σ', by omega, rfl, by go_num, HN'.out, fun _ => by have := Hp.out.2 (by first | rfl | trivial); have := Hphi.out; omega, fun h => by cases h⟩
                case measure => simp [intOf]; omega
            · obtain rfl : i = n := by omega
              have HN' := hid hN
              have Hp := hid (And.intro hp (And.intro hp2 hp3))
              clear hN hp hp2 hp3
              go_wp2
              go_roundw
              case rel =>
                exact ⟨r + 1, q, σ', by omega, rfl, by go_num, HN'.out, fun hq => by have := Hp.out.2.1 hq; have := Hphi.out; omega, fun hq => ends_quiet HN'.out.ei HN'.out.n (Hp.out.2.2 hq)⟩
              case measure => simp [intOf]; omega
    | false =>
      have HN := hid hN
      have Hdone := hid (fun k (hk : k < σ.shots.length) => hN.ei.done (by rw [hN.n]; exact hq2 rfl) k hk)
      have Hb := hid hN.ei.ok.shots
      clear hq1 hq2 hN
      go_wp2
      go_loopw [15] (fun v wr => ∃ t : Nat, t ≤ 8 ∧ v = .int .i64 (t + 1) ∧ NetAt 0 F σ b wr ∧ Ext w wr) (fun v _ => 9 - (intOf v).toNat)
      case atStart => exact ⟨0, by omega, rfl, HN.out.at_, HN.out.ext⟩
      case round =>
        obtain ⟨t, ht, rfl, hA, hE⟩ := hrel
        have HA := hid hA
        have HE := hid hE
        by_cases hlt : t < 8
        · have Hlt := hid hlt
          have HD := hid (show Calls Try.prog 17 #[.pointer (some ⟨b, 0, none⟩), .int .i64 (t + 1)] wr fun e w' => e = .returned (.tuple #[.bool (σ.doneR (t + 1)).1, .int .i64 (σ.doneR (t + 1)).2]) ∧ wr = w' from by
            obtain ⟨h0, Pl, ps, m, h1, h2⟩ := hA
            exact Done_any (Pl + 0) ((Pl + 0) + F) σ ps b m wr h0 h1 h2 (t + 1))
          clear hA hE
          have hdc : σ.doneR (t + 1) = (true, 0) ∨ σ.doneR (t + 1) = (false, 6) := by
            unfold Net.doneR
            rcases atErr_cases σ (t + 1) with h | ⟨h, k, hk, hkl⟩
            · rw [if_neg (by rw [h]; decide)]; exact .inr rfl
            · rw [if_pos h, show ((t : Int) + 1 - 1).toNat = k by omega, Net.X_some hkl]
              exact .inl (by simp only; rw [show σ.sta.length = σ.n from rfl, Hdone.out k hkl])
          rcases hdc with hd | hd
          · rw [hd] at HD
            clear hd
            go_wp2_with (go_at_call 17; refine HD.out.mono ?_; rintro e w1 ⟨rfl, rfl⟩)
            go_roundw
            case rel => exact ⟨t + 1, Hlt.out, by go_num, HA.out, HE.out⟩
            case measure => have := Hlt.out; simp [intOf]; omega
          · rw [hd] at HD
            clear hd
            go_wp2_with (go_at_call 17; refine HD.out.mono ?_; rintro e w1 ⟨rfl, rfl⟩)
            go_roundw
            case rel => exact ⟨t + 1, Hlt.out, by go_num, HA.out, HE.out⟩
            case measure => have := Hlt.out; simp [intOf]; omega
        · obtain rfl : t = 8 := by omega
          clear hA hE
          go_wp2_with (go_at_call 14; refine (alive_any _).mono ?_; rintro e w1 ⟨rfl, k1, k2⟩)
          go_ret
          exact ⟨rfl, k1 _ HA.out.has, HE.out.trans k2⟩

theorem ends_all {F : MS} {l : List Int} {A : Option Addr} {n c : Nat} {w : World} {L : List ActD} {A2 : Option Addr} {n2 c2 : Nat} (h : RdS F RT.int l (.slice A n c)) (hL : RdS F RT.act L (.slice A2 n2 c2)) (hH : Has w F) (u : Int) (hu0 : 0 ≤ u) (hu1 : u < 256) :
    Calls Try.prog 3 #[.slice A n c, .slice A2 n2 c2, .int .u8 u] w (LawPost w F) := by
  obtain ⟨rfl, hc1, hc2, _⟩ := h.cells
  obtain ⟨rfl, hc3, hc4, _⟩ := hL.cells
  by_cases h1 : (20 : Int) < l.length
  · have HH := hid hH
    have q1 : (l.length : Int) ≤ 9223372036854775807 := by unfold maxLen at hc2; omega
    clear h hL hH hc1 hc2 hc3 hc4
    go_enter Try.func3, Try.ntmps3
    go_wp2_with (go_at_call 14; refine (alive_any _).mono ?_; rintro e w1 ⟨rfl, k1, k2⟩)
    go_ret
    exact ⟨rfl, k1 _ HH.out, k2⟩
  · by_cases h2 : (100 : Int) < L.length
    · have HH := hid hH
      have q1 : (L.length : Int) ≤ 9223372036854775807 := by unfold maxLen at hc4; omega
      clear h hL hH hc1 hc2 hc3 hc4
      go_enter Try.func3, Try.ntmps3
      go_wp2_with (go_at_call 14; refine (alive_any _).mono ?_; rintro e w1 ⟨rfl, k1, k2⟩)
      go_ret
      exact ⟨rfl, k1 _ HH.out, k2⟩
    · by_cases hn : newOk l
      · exact ends_any h hL hH u hu0 hu1 (by omega) (by omega) hn
      · have HH := hid hH
        have Ha := hid (after_none (v := .slice A2 L.length c2) h hH hn)
        clear h hL hH hc1 hc2 hc3 hc4 hn
        go_enter Try.func3, Try.ntmps3
        go_wp2_with (first
          | (go_at_call 15; refine Ha.out.mono ?_; rintro e w' ⟨rfl, rfl⟩)
          | (go_at_call 14; refine (alive_any _).mono ?_; rintro e w1 ⟨rfl, k1, k2⟩))
        go_ret
        exact ⟨rfl, k1 _ HH.out, k2⟩
end Go.Proofs.Ytnkgfgkgepadhaa

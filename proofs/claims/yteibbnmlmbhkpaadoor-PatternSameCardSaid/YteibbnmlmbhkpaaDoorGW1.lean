/-
  The walk of the law's floored.
-/
import Derived.Test.YteibbnmlmbhkpaaDoorGPlain
namespace Go.Proofs.YteibbnmlmbhkpaaDoor
open Go.RowKit
set_option linter.unusedVariables false
set_option linter.unusedSimpArgs false
set_option maxHeartbeats 4000000
set_option maxRecDepth 100000

theorem floored_any {F : MS} {p q : List ByteArray} {A B : Option Addr} {c d : Nat} {w : World} (hr : RdS F RT.str p (.slice A p.length c)) (hr2 : RdS F RT.str q (.slice B q.length d)) (hp : PatOk p) (hq : isPat q = true) (hH : Has w F) (hcol : ∀ x y, col q x y = col p x y) :
    Calls Tryd.prog 25 #[.slice A p.length c, .slice B q.length d] w fun e w' => e = .returned (.bool true) ∧ ∃ n, w' = w.drewN n := by
  have hqo := (isPat.ok hq).1
  have hq6 := hqo.h6
  have Hof := hid (pattern_any hr2 (by omega) (fun s hs => by have := hqo.rows s hs; have := hqo.w6; omega) hH)
  rw [hq] at Hof
  have Hpa := hid (fun (W : World) (hW : Has W F) (u v : Int) => show Calls Tryd.prog 49 #[.slice A p.length c, .int .i64 u, .int .i64 v] W fun e w' => e = .returned (.int .u8 ((col8 p u v).toNat : Int)) ∧ ∃ q, w' = W.drewN q from at_any hr hp hW u v)
  have Hqa := hid (fun (W : World) (hW : Has W F) (u v : Int) => show Calls Tryd.prog 49 #[.slice B q.length d, .int .i64 u, .int .i64 v] W fun e w' => e = .returned (.int .u8 ((col8 p u v).toNat : Int)) ∧ ∃ q, w' = W.drewN q from by
    have h1 := at_any hr2 hqo hW u v
    rw [hcol u v] at h1
    exact h1)
  have HF := hid (fun n => hH.drewN n)
  clear hr hr2 hp hq hH hcol hqo hq6
  go_enter Tryd.func25, Tryd.ntmps25
  go_wp2_with (go_at_call 20; refine Hof.out.mono ?_; rintro e1 w1 ⟨rfl, q1, rfl⟩)
  go_loopw [5] (fun v wr => ∃ y : Nat, y ≤ 36 ∧ v = .int .i64 y ∧ ∃ n, wr = w.drewN n) (fun v _ => 36 - (intOf v).toNat)
  case atStart => exact ⟨0, Nat.zero_le _, rfl, _, rfl⟩
  case round =>
    obtain ⟨y, hy, rfl, n1, rfl⟩ := hrel
    by_cases hlt : y < 36
    · have hltI : (y : Int) < 36 := by omega
      have Hlt := hid hlt
      clear hlt hy
      go_wp2
      go_loopw [6] (fun v wr => ∃ x : Nat, x ≤ 36 ∧ v = .int .i64 x ∧ ∃ n, wr = w.drewN n) (fun v _ => 36 - (intOf v).toNat)
      case atStart => exact ⟨0, Nat.zero_le _, rfl, _, rfl⟩
      case round =>
        obtain ⟨x, hx, rfl, n2, rfl⟩ := hrel
        by_cases hlx : x < 36
        · have hlxI : (x : Int) < 36 := by omega
          have Hlx := hid hlx
          have Hpx := hid (fun (W : World) (hW : Has W F) => Hpa.out W hW x y)
          have Hqx := hid (fun (W : World) (hW : Has W F) => Hqa.out W hW x y)
          obtain ⟨cl, hcl⟩ : ∃ cl : Int, cl = ((col8 p x y).toNat : Int) := ⟨_, rfl⟩
          rw [← hcl] at Hpx Hqx
          clear hlx hx hcl
          go_wp2_with (first
            | (go_at_call 49; have kk := K1; clear kk; refine (Hqx.out _ (HF.out _)).mono ?_; rintro e2 w2 ⟨rfl, q2, rfl⟩)
            | (go_at_call 49; refine (Hpx.out _ (HF.out n2)).mono ?_; rintro e1 w1 ⟨rfl, q1, rfl⟩; have K1 := hid True.intro))
          go_roundw
          case rel => exact ⟨x + 1, Hlx.out, by go_num, _, rfl⟩
          case measure => have := Hlx.out; simp [intOf]; omega
        · have hxe : x = 36 := by omega
          subst hxe
          clear hlx hx
          go_wp2
          go_roundw
          case rel => exact ⟨y + 1, Hlt.out, by go_num, _, rfl⟩
          case measure => have := Hlt.out; simp [intOf]; omega
    · have hye : y = 36 := by omega
      subst hye
      clear hlt hy
      go_wp2
      go_ret
      exact ⟨rfl, _, rfl⟩
end Go.Proofs.YteibbnmlmbhkpaaDoor

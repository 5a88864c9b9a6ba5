/- SnapNobody: for every call and every flag the law returns true and leaves its arguments as they were. No condition. -/
import Derived.Test.YtnkgfgkgepadhaaLawNobody
import Derived.Test.YtnkgfgkgepadhaaEntry
import Derived.Lib.SmallJoins
namespace Go.Proofs.Ytnkgfgkgepadhaa
open Go.ChangeShapes Go.WideShapes Go.ChangeAt Go.RowKit Go.Joins
set_option linter.unusedVariables false

set_option maxRecDepth 100000 in
theorem snapNobody_lifted (os : Os) (started : os.Started) (H : Type) (enc : TypeId × Value → H) :
    ReturnsInHanded {} Try.checked os 11 .any (Rows.snapNobodySpec.pre6 enc Try.prog Try.f11 Rows.snapNobodyRow.domain false) (Rows.snapNobodySpec.post enc Try.prog Try.f11 false true false false) := by
  refine returnsInHanded_of_change (C := Try.checked) own started (by kernel_rfl) Try.func11
    (ChangeSpec.witness6 (enc := enc) (C := Try.checked) false ⟨#[], #[.agg #[.int .u8 0, .int .i64 0, .int .i64 0, .int .i64 0], .bool false], []⟩ 8 (by kernel_rfl) (by kernel_rfl) (by kernel_rfl) (by kernel_rfl)) ?_
  intro W base args ds gs before hval0 hW hcnd _
  have hval : ∀ (j : Nat) t v, Try.f11.params[j]? = some t → args[j]? = some v → Value.okWide Try.prog W .any base t v := hval0
  have hW' := hW
  obtain ⟨p, q, hA0, hV, rfl, hfz, hnd⟩ := hW
  have hA : DataW.TrodAll enc Try.prog W 0 (fun _ => true) true Try.f11.params.toList args.toList ds p := hA0
  rw [Try.params11] at hA hval
  obtain ⟨v0, vs0, d0, ds0, p0, q0, hargs, rfl, rfl, h0, r0⟩ := trodAll_cons hA
  obtain ⟨v1, vs1, d1, ds1, p1, q1, rfl, rfl, rfl, h1, r1⟩ := trodAll_cons r0
  obtain ⟨rfl, rfl, rfl⟩ := trodAll_nil r1
  obtain rfl : args = #[v0, v1] := by cases args; simp_all
  obtain ⟨rfl, rfl⟩ := trodVars_none hV
  have k0 := h0
  have lt0 : ∀ x ∈ p0, x.block < W.heap.size := by obtain ⟨m, hm⟩ := k0; exact DataW.trod_lt m _ _ _ hm
  obtain ⟨e0, e1, e2, e3, y0, y1, y2, y3, m, rfl, _, _, g0, g1, g2, g3⟩ := open_agg4 Try.underlying60 (by kernel_rfl) cells60 (hval 0 60 v0 rfl rfl) h0
  obtain ⟨z0, rfl, w0⟩ := intOfField Try.underlying5 g0
  obtain ⟨z1, rfl, w1⟩ := intOfField Try.underlying3 g1
  obtain ⟨z2, rfl, w2⟩ := intOfField Try.underlying3 g2
  obtain ⟨z3, rfl, w3⟩ := intOfField Try.underlying3 g3
  obtain ⟨u1, hv1, hd1, hp1⟩ := open_bool Try.underlying4 (hval 1 4 v1 rfl rfl) h1
  subst hv1; subst hd1; subst hp1
  clear hA0 hval0
  refine (nobody_all  (Has.all W) z0 z1 z2 z3 u1).mono fun e W' hp => ?_
  obtain ⟨he, bel⟩ := LawPost.bel hp
  subst he
  exact ⟨_, rfl, _, _, _, [], _, [], hW', trodAll_mk1 (shut_bool Try.underlying4 _), (trodAll_cons_mk (Below.trod laidOut (by kernel_rfl) (of_decide_eq_true (by kernel_rfl)) k0 bel lt0) (trodAll_cons_mk (shut_bool Try.underlying4 u1) trodAll_mk0)), rfl, bel.frame _, fun h => by cases h⟩

theorem snapNobody_holds : Rows.SnapNobodySaid :=
  OpenClaim.holds_of_wide 11 Try.f11 rfl rfl rfl rfl rfl rfl rfl ⟨rfl, rfl, rfl, rfl, rfl⟩ rfl rfl rfl rfl rfl (by kernel_rfl) Try.func11 (by kernel_rfl)
    (of_decide_eq_true (by kernel_rfl)) (by unfold Func.isWrapper; first | (rw [if_pos (by decide +kernel)]; kernel_rfl) | (rw [if_neg (by decide +kernel)]; exact ⟨rfl, rfl⟩))
    (fun os started H enc _ => snapNobody_lifted os started H enc)
#print axioms snapNobody_holds
end Go.Proofs.Ytnkgfgkgepadhaa

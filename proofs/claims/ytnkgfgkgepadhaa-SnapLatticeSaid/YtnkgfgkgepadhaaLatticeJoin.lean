/-
  SnapLattice: the walk and the plain law.
-/
import Derived.Test.YtnkgfgkgepadhaaLawLattice
import Derived.Test.YtnkgfgkgepadhaaClocksJoin
namespace Go.Proofs.Ytnkgfgkgepadhaa
open Go.RowKit
set_option linter.unusedVariables false

theorem mnI_min (x y : Int) : mnI x y = min x y := by unfold mnI; split <;> omega
theorem mxI_max (x y : Int) : mxI x y = max x y := by unfold mxI; split <;> omega
theorem lowC_get (a b : List Int) {n s : Nat} (h : s < n) : (lowC a b n).getD s 0 = min (a.getD s 0) (b.getD s 0) := by rw [← mnI_min]; simp [lowC, List.getD, h]
theorem highC_get (a b : List Int) {n s : Nat} (h : s < n) : (highC a b n).getD s 0 = max (a.getD s 0) (b.getD s 0) := by rw [← mxI_max]; simp [highC, List.getD, h]
theorem Good.con' {n : Nat} {l : List Ev} (hg : Good n l) (n2 : 2 ≤ n) (n5 : n ≤ 5) (h60 : l.length ≤ 60) {h : Hist} (hr : Hist.run n (Hist.zero n) l = some h) (cut : List Int) : conR n l cut = if cut.length = n then (cutOk h.needs cut, 0) else (false, 2) := by
  unfold conR
  rw [if_neg (by rw [hg.recErr n2 n5 h60]; decide), Int.toNat_natCast, hr]
  by_cases hc : cut.length = n
  · rw [if_neg (by omega), if_pos hc]
  · rw [if_pos (by omega), if_neg hc]
theorem Good.lattice {n : Nat} {l : List Ev} (hg : Good n l) (n2 : 2 ≤ n) (n5 : n ≤ 5) (h60 : l.length ≤ 60) : LatLaw n l := by
  obtain ⟨h, hr, hv⟩ := hg.hist
  have hc := hg.con' n2 n5 h60 hr
  have hok := hist_ok (by omega) (HistOk.zero n) hr
  have hrow : ∀ r ∈ h.needs, ∀ x ∈ r, 0 ≤ x.1 ∧ x.1 < n := fun r hrr x hx => by
    obtain ⟨_, x2⟩ := hok.row r hrr
    exact ⟨(x2 x hx).1, (x2 x hx).2.1⟩
  have hcut : ∀ a : List Int, conR n l a = (true, 0) → cutOk h.needs a = true := fun a ha => by
    rw [hc] at ha
    split at ha
    · exact (Prod.mk.inj ha).1
    · cases (Prod.mk.inj ha).1
  refine ⟨⟨h, hr, fun S hS => hg.many n5 hv hS⟩, fun cut hn => by rw [hc, if_neg hn], fun cut hn => ⟨_, by rw [hc, if_pos hn]⟩, fun a b ha hb => ⟨?_, ?_⟩⟩
  · rw [hc, if_pos (lowC_len _ _ _), cut_min hok.len hrow (hcut a ha) (hcut b hb) fun s hs => lowC_get a b hs]
  · rw [hc, if_pos (highC_len _ _ _), cut_max hok.len hrow (hcut a ha) (hcut b hb) fun s hs => highC_get a b hs]
theorem lattice_said {F : MS} {l : List Int} {A : Option Addr} {n c : Nat} {w : World} {L : List ActD} {A2 : Option Addr} {n2 c2 : Nat} {ua ub : List Int} {A3 A4 : Option Addr} {n3 c3 n4 c4 : Nat} (h : RdS F RT.int l (.slice A n c)) (hL : RdS F RT.act L (.slice A2 n2 c2)) (ha : RdS F RT.int ua (.slice A3 n3 c3)) (hb : RdS F RT.int ub (.slice A4 n4 c4)) (hH : Has w F) :
    Calls Try.prog 12 #[.slice A n c, .slice A2 n2 c2, .slice A3 n3 c3, .slice A4 n4 c4] w (LawPost w F) :=
  lattice_all h hL ha hb hH fun hn hl => by
    have hg := acts_good hn L
    have hle := acts_len hn L
    exact ⟨hg.lattice hn.1 hn.2.1 (by omega), by omega⟩
end Go.Proofs.Ytnkgfgkgepadhaa

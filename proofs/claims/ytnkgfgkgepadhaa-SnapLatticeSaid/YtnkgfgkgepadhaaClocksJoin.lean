/-
  SnapClocks: the walk and the plain law.
-/
import Derived.Test.YtnkgfgkgepadhaaLawClocks
import Derived.Test.YtnkgfgkgepadhaaClk3
namespace Go.Proofs.Ytnkgfgkgepadhaa
open Go.RowKit
set_option linter.unusedVariables false

/-- The events of a net after calls. -/
theorem acts_good {l : List Int} (hn : newOk l) (L : List ActD) : Good l.length ((Net.new l).acts L).evs := by
  have h := ((NetGood.new hn).acts L (NetOk.new hn)).good
  rwa [show ((Net.new l).acts L).n = l.length by rw [((EI.new hn).1.acts L).2, (EI.new hn).2]] at h
theorem acts_len {l : List Int} (hn : newOk l) (L : List ActD) : ((Net.new l).acts L).evs.length ≤ L.length := by
  have := acts_few L (NetOk.new hn)
  simpa [Net.new] using this
theorem clocks_said {F : MS} {l : List Int} {A : Option Addr} {n c : Nat} {w : World} {L : List ActD} {A2 : Option Addr} {n2 c2 : Nat} {cut : List Int} {A3 : Option Addr} {n3 c3 : Nat} (h : RdS F RT.int l (.slice A n c)) (hL : RdS F RT.act L (.slice A2 n2 c2)) (hcut : RdS F RT.int cut (.slice A3 n3 c3)) (hH : Has w F) :
    Calls Try.prog 8 #[.slice A n c, .slice A2 n2 c2, .slice A3 n3 c3] w (LawPost w F) :=
  clocks_all h hL hcut hH fun hn hl => by
    have hg := acts_good hn L
    have hle := acts_len hn L
    exact ⟨⟨fun i k hi hk => hg.before hi hk, fun cut => hg.con hn.1 hn.2.1 (by omega) cut⟩, by omega⟩
end Go.Proofs.Ytnkgfgkgepadhaa

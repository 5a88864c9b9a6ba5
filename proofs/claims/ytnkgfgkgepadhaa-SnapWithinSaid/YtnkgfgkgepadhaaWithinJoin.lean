/-
  SnapWithin: the walk and the plain law.
-/
import Derived.Test.YtnkgfgkgepadhaaLawWithin
namespace Go.Proofs.Ytnkgfgkgepadhaa
open Go.RowKit
set_option linter.unusedVariables false

theorem within_law {l : List Int} (hn : newOk l) (L : List ActD) (hL : L.length ≤ 60) : ∀ t, t < ((Net.new l).acts L).shots.length → (((Net.new l).acts L).X t).fin ((Net.new l).acts L).n = true → Done (Net.new l) ((Net.new l).acts L) t ∧ conR l.length ((Net.new l).acts L).evs (((Net.new l).acts L).X t).cut = (true, 0) := fun t ht hf => by
  have hN : ((Net.new l).acts L).n = l.length := by rw [((EI.new hn).1.acts L).2, (EI.new hn).2]
  have hG := (NetGood.new hn).acts L (NetOk.new hn)
  have hW := WI.acts L (WI.new hn)
  have hD := hW.done hG ht hf
  have hle : ((Net.new l).acts L).evs.length ≤ L.length := by simpa [Net.new] using acts_few L (NetOk.new hn)
  have hgood := hG.good
  have d := hW.ki.ok.dim ht
  have hcut := hD.cut
  rw [hN] at hgood hcut
  obtain ⟨h, hr, hv⟩ := hgood.hist
  refine ⟨hD, ?_⟩
  rw [hgood.con hn.1 hn.2.1 (by omega), if_pos (by rw [d.t, hN]), ← hgood.whole (by have := hn.1; omega) hv, hcut h hv]
theorem within_said {F : MS} {l : List Int} {A : Option Addr} {n c : Nat} {w : World} {L : List ActD} {A2 : Option Addr} {n2 c2 : Nat} (h : RdS F RT.int l (.slice A n c)) (hL : RdS F RT.act L (.slice A2 n2 c2)) (hH : Has w F) :
    Calls Try.prog 13 #[.slice A n c, .slice A2 n2 c2] w (LawPost w F) :=
  within_all h hL hH fun hn hl => within_law hn L hl
end Go.Proofs.Ytnkgfgkgepadhaa

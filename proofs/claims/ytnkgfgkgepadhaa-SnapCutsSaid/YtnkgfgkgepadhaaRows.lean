/-
  No cell of these rows narrows 'for every input' (looked for: loops, veiled, ifaces, maps, wideKeys, modest, calm, conditions, laid).
  DERIVED. THE GIVEN ROWS OF THIS SEAT. 11 by the template 'for every input the law returns true; each argument reads behind the call as it read before'; 0 by the template 'total and deterministic' (their statements: YtnkgfgkgepadhaaTotals.lean).
  GIVEN WITH THE SEED: the statements are not yours to turn. If you find one false, say at which input.
  Laid BY PROGRAM, IN A SANDBOX (cutbox-rows.mjs): the forced cells as the released guide's own fill.sh prints them over the translation d14d3238ed28924d… (all of the seat's roots in one cut). By AI agents, Wed Nov 11 2026. No macro, syntax, notation, axiom, sorry.
-/
import Derived.Test.YtnkgfgkgepadhaaChecked
import GoSem.Claim
import GoSem.ClaimJoined
import GoSem.ClaimMapViews
import Derived.JoinedTies
import Derived.KernelRfl
namespace Go.Proofs.Ytnkgfgkgepadhaa
/- THE CELL 'sum', in the pinned program and in every row, IS THE sha256 OF THE DUMP (.gsa) THAT YtnkgfgkgepadhaaProg.lean LOADS. Nothing in Lean hashes anything: it is a label: what it is worth is what the hold of that sum in a sandbox is worth. -/
noncomputable def Try.pinned : Pinned := { name := "ytnkgfgkgepadhaa", sum := "d14d3238ed28924de6209abd8299115ae5d788a11f465ce0b35545389485cca6", checked := Try.checked }
namespace Rows
def none {H : Type} : Left H := { results := [], args := [] }

/-- 'encausticlaw09.SnapEnds': WHATEVER THE INPUT: true; the input reads as it did. -/
def snapEndsSpec : ChangeSpec := { name := "snapEnds", fn := fun _ => fun
  | [d1, d2, d3] => { results := [.lit (.bool true)], args := [d1, d2, d3] }
  | _ => none }
def snapEndsRow : OpenClaim := { program := "ytnkgfgkgepadhaa", sum := "d14d3238ed28924de6209abd8299115ae5d788a11f465ce0b35545389485cca6", func := "encaustic/encausticlaw09.SnapEnds", spec := "snapEnds", unfollowed := true, recurses := true, plainKeys := false, apart := false }
def SnapEndsSaid : Prop := snapEndsRow.holds Try.pinned (OpenSpec.ofChange snapEndsSpec)

/-- ITS FALSE NEIGHBOUR: 'it returns false'. Refute it at one input. -/
def snapEndsWrong : ChangeSpec := { name := "snapEnds", fn := fun _ => fun
  | [d1, d2, d3] => { results := [.lit (.bool false)], args := [d1, d2, d3] }
  | _ => none }
def SnapEndsWrongFalsely : Prop := snapEndsRow.holds Try.pinned (OpenSpec.ofChange snapEndsWrong)

/-- 'encausticlaw09.SnapKeeps': WHATEVER THE INPUT: true; the input reads as it did. -/
def snapKeepsSpec : ChangeSpec := { name := "snapKeeps", fn := fun _ => fun
  | [d1, d2] => { results := [.lit (.bool true)], args := [d1, d2] }
  | _ => none }
def snapKeepsRow : OpenClaim := { program := "ytnkgfgkgepadhaa", sum := "d14d3238ed28924de6209abd8299115ae5d788a11f465ce0b35545389485cca6", func := "encaustic/encausticlaw09.SnapKeeps", spec := "snapKeeps", unfollowed := true, recurses := true, plainKeys := false, apart := false }
def SnapKeepsSaid : Prop := snapKeepsRow.holds Try.pinned (OpenSpec.ofChange snapKeepsSpec)

/-- ITS FALSE NEIGHBOUR: 'it returns false'. Refute it at one input. -/
def snapKeepsWrong : ChangeSpec := { name := "snapKeeps", fn := fun _ => fun
  | [d1, d2] => { results := [.lit (.bool false)], args := [d1, d2] }
  | _ => none }
def SnapKeepsWrongFalsely : Prop := snapKeepsRow.holds Try.pinned (OpenSpec.ofChange snapKeepsWrong)

/-- 'encausticlaw09.SnapLimit': WHATEVER THE INPUT: true; the input reads as it did. -/
def snapLimitSpec : ChangeSpec := { name := "snapLimit", fn := fun _ => fun
  | [d] => { results := [.lit (.bool true)], args := [d] }
  | _ => none }
def snapLimitRow : OpenClaim := { program := "ytnkgfgkgepadhaa", sum := "d14d3238ed28924de6209abd8299115ae5d788a11f465ce0b35545389485cca6", func := "encaustic/encausticlaw09.SnapLimit", spec := "snapLimit", unfollowed := true, recurses := true, plainKeys := false, apart := false }
def SnapLimitSaid : Prop := snapLimitRow.holds Try.pinned (OpenSpec.ofChange snapLimitSpec)

/-- ITS FALSE NEIGHBOUR: 'it returns false'. Refute it at one input. -/
def snapLimitWrong : ChangeSpec := { name := "snapLimit", fn := fun _ => fun
  | [d] => { results := [.lit (.bool false)], args := [d] }
  | _ => none }
def SnapLimitWrongFalsely : Prop := snapLimitRow.holds Try.pinned (OpenSpec.ofChange snapLimitWrong)

/-- 'encausticlaw09.SnapPlays': WHATEVER THE INPUT: true; the input reads as it did. -/
def snapPlaysSpec : ChangeSpec := { name := "snapPlays", fn := fun _ => fun
  | [d1, d2] => { results := [.lit (.bool true)], args := [d1, d2] }
  | _ => none }
def snapPlaysRow : OpenClaim := { program := "ytnkgfgkgepadhaa", sum := "d14d3238ed28924de6209abd8299115ae5d788a11f465ce0b35545389485cca6", func := "encaustic/encausticlaw09.SnapPlays", spec := "snapPlays", unfollowed := true, recurses := true, plainKeys := false, apart := false }
def SnapPlaysSaid : Prop := snapPlaysRow.holds Try.pinned (OpenSpec.ofChange snapPlaysSpec)

/-- ITS FALSE NEIGHBOUR: 'it returns false'. Refute it at one input. -/
def snapPlaysWrong : ChangeSpec := { name := "snapPlays", fn := fun _ => fun
  | [d1, d2] => { results := [.lit (.bool false)], args := [d1, d2] }
  | _ => none }
def SnapPlaysWrongFalsely : Prop := snapPlaysRow.holds Try.pinned (OpenSpec.ofChange snapPlaysWrong)

/-- 'encausticlaw09.SnapLooks': WHATEVER THE INPUT: true; the input reads as it did. -/
def snapLooksSpec : ChangeSpec := { name := "snapLooks", fn := fun _ => fun
  | [d1, d2, d3, d4, d5] => { results := [.lit (.bool true)], args := [d1, d2, d3, d4, d5] }
  | _ => none }
def snapLooksRow : OpenClaim := { program := "ytnkgfgkgepadhaa", sum := "d14d3238ed28924de6209abd8299115ae5d788a11f465ce0b35545389485cca6", func := "encaustic/encausticlaw09.SnapLooks", spec := "snapLooks", unfollowed := true, recurses := true, plainKeys := false, apart := false }
def SnapLooksSaid : Prop := snapLooksRow.holds Try.pinned (OpenSpec.ofChange snapLooksSpec)

/-- ITS FALSE NEIGHBOUR: 'it returns false'. Refute it at one input. -/
def snapLooksWrong : ChangeSpec := { name := "snapLooks", fn := fun _ => fun
  | [d1, d2, d3, d4, d5] => { results := [.lit (.bool false)], args := [d1, d2, d3, d4, d5] }
  | _ => none }
def SnapLooksWrongFalsely : Prop := snapLooksRow.holds Try.pinned (OpenSpec.ofChange snapLooksWrong)

/-- 'encausticlaw09.SnapClocks': WHATEVER THE INPUT: true; the input reads as it did. -/
def snapClocksSpec : ChangeSpec := { name := "snapClocks", fn := fun _ => fun
  | [d1, d2, d3] => { results := [.lit (.bool true)], args := [d1, d2, d3] }
  | _ => none }
def snapClocksRow : OpenClaim := { program := "ytnkgfgkgepadhaa", sum := "d14d3238ed28924de6209abd8299115ae5d788a11f465ce0b35545389485cca6", func := "encaustic/encausticlaw09.SnapClocks", spec := "snapClocks", unfollowed := true, recurses := true, plainKeys := false, apart := false }
def SnapClocksSaid : Prop := snapClocksRow.holds Try.pinned (OpenSpec.ofChange snapClocksSpec)

/-- ITS FALSE NEIGHBOUR: 'it returns false'. Refute it at one input. -/
def snapClocksWrong : ChangeSpec := { name := "snapClocks", fn := fun _ => fun
  | [d1, d2, d3] => { results := [.lit (.bool false)], args := [d1, d2, d3] }
  | _ => none }
def SnapClocksWrongFalsely : Prop := snapClocksRow.holds Try.pinned (OpenSpec.ofChange snapClocksWrong)

/-- 'encausticlaw09.SnapCuts': WHATEVER THE INPUT: true; the input reads as it did. -/
def snapCutsSpec : ChangeSpec := { name := "snapCuts", fn := fun _ => fun
  | [d1, d2, d3] => { results := [.lit (.bool true)], args := [d1, d2, d3] }
  | _ => none }
def snapCutsRow : OpenClaim := { program := "ytnkgfgkgepadhaa", sum := "d14d3238ed28924de6209abd8299115ae5d788a11f465ce0b35545389485cca6", func := "encaustic/encausticlaw09.SnapCuts", spec := "snapCuts", unfollowed := true, recurses := true, plainKeys := false, apart := false }
def SnapCutsSaid : Prop := snapCutsRow.holds Try.pinned (OpenSpec.ofChange snapCutsSpec)

/-- ITS FALSE NEIGHBOUR: 'it returns false'. Refute it at one input. -/
def snapCutsWrong : ChangeSpec := { name := "snapCuts", fn := fun _ => fun
  | [d1, d2, d3] => { results := [.lit (.bool false)], args := [d1, d2, d3] }
  | _ => none }
def SnapCutsWrongFalsely : Prop := snapCutsRow.holds Try.pinned (OpenSpec.ofChange snapCutsWrong)

/-- 'encausticlaw09.SnapCopies': WHATEVER THE INPUT: true; the input reads as it did. -/
def snapCopiesSpec : ChangeSpec := { name := "snapCopies", fn := fun _ => fun
  | [d1, d2, d3, d4] => { results := [.lit (.bool true)], args := [d1, d2, d3, d4] }
  | _ => none }
def snapCopiesRow : OpenClaim := { program := "ytnkgfgkgepadhaa", sum := "d14d3238ed28924de6209abd8299115ae5d788a11f465ce0b35545389485cca6", func := "encaustic/encausticlaw09.SnapCopies", spec := "snapCopies", unfollowed := true, recurses := true, plainKeys := false, apart := false }
def SnapCopiesSaid : Prop := snapCopiesRow.holds Try.pinned (OpenSpec.ofChange snapCopiesSpec)

/-- ITS FALSE NEIGHBOUR: 'it returns false'. Refute it at one input. -/
def snapCopiesWrong : ChangeSpec := { name := "snapCopies", fn := fun _ => fun
  | [d1, d2, d3, d4] => { results := [.lit (.bool false)], args := [d1, d2, d3, d4] }
  | _ => none }
def SnapCopiesWrongFalsely : Prop := snapCopiesRow.holds Try.pinned (OpenSpec.ofChange snapCopiesWrong)

/-- 'encausticlaw09.SnapNobody': WHATEVER THE INPUT: true; the input reads as it did. -/
def snapNobodySpec : ChangeSpec := { name := "snapNobody", fn := fun _ => fun
  | [d1, d2] => { results := [.lit (.bool true)], args := [d1, d2] }
  | _ => none }
def snapNobodyRow : OpenClaim := { program := "ytnkgfgkgepadhaa", sum := "d14d3238ed28924de6209abd8299115ae5d788a11f465ce0b35545389485cca6", func := "encaustic/encausticlaw09.SnapNobody", spec := "snapNobody", unfollowed := true, recurses := true, plainKeys := false, apart := false }
def SnapNobodySaid : Prop := snapNobodyRow.holds Try.pinned (OpenSpec.ofChange snapNobodySpec)

/-- ITS FALSE NEIGHBOUR: 'it returns false'. Refute it at one input. -/
def snapNobodyWrong : ChangeSpec := { name := "snapNobody", fn := fun _ => fun
  | [d1, d2] => { results := [.lit (.bool false)], args := [d1, d2] }
  | _ => none }
def SnapNobodyWrongFalsely : Prop := snapNobodyRow.holds Try.pinned (OpenSpec.ofChange snapNobodyWrong)

/-- 'encausticlaw09.SnapLattice': WHATEVER THE INPUT: true; the input reads as it did. -/
def snapLatticeSpec : ChangeSpec := { name := "snapLattice", fn := fun _ => fun
  | [d1, d2, d3, d4] => { results := [.lit (.bool true)], args := [d1, d2, d3, d4] }
  | _ => none }
def snapLatticeRow : OpenClaim := { program := "ytnkgfgkgepadhaa", sum := "d14d3238ed28924de6209abd8299115ae5d788a11f465ce0b35545389485cca6", func := "encaustic/encausticlaw09.SnapLattice", spec := "snapLattice", unfollowed := true, recurses := true, plainKeys := false, apart := false }
def SnapLatticeSaid : Prop := snapLatticeRow.holds Try.pinned (OpenSpec.ofChange snapLatticeSpec)

/-- ITS FALSE NEIGHBOUR: 'it returns false'. Refute it at one input. -/
def snapLatticeWrong : ChangeSpec := { name := "snapLattice", fn := fun _ => fun
  | [d1, d2, d3, d4] => { results := [.lit (.bool false)], args := [d1, d2, d3, d4] }
  | _ => none }
def SnapLatticeWrongFalsely : Prop := snapLatticeRow.holds Try.pinned (OpenSpec.ofChange snapLatticeWrong)

/-- 'encausticlaw09.SnapWithin': WHATEVER THE INPUT: true; the input reads as it did. -/
def snapWithinSpec : ChangeSpec := { name := "snapWithin", fn := fun _ => fun
  | [d1, d2] => { results := [.lit (.bool true)], args := [d1, d2] }
  | _ => none }
def snapWithinRow : OpenClaim := { program := "ytnkgfgkgepadhaa", sum := "d14d3238ed28924de6209abd8299115ae5d788a11f465ce0b35545389485cca6", func := "encaustic/encausticlaw09.SnapWithin", spec := "snapWithin", unfollowed := true, recurses := true, plainKeys := false, apart := false }
def SnapWithinSaid : Prop := snapWithinRow.holds Try.pinned (OpenSpec.ofChange snapWithinSpec)

/-- ITS FALSE NEIGHBOUR: 'it returns false'. Refute it at one input. -/
def snapWithinWrong : ChangeSpec := { name := "snapWithin", fn := fun _ => fun
  | [d1, d2] => { results := [.lit (.bool false)], args := [d1, d2] }
  | _ => none }
def SnapWithinWrongFalsely : Prop := snapWithinRow.holds Try.pinned (OpenSpec.ofChange snapWithinWrong)

/- THE SECOND FORM. 'bulk': how many values and letters a reading holds, each counted each time it is reached (what is shared counts as often as it is met; a slice's spare places count too). A statement '..UptoSaid' is the law's where the arguments, and the package variables that the reading takes, are together of bulk at most 1048576: NARROWER than '..Said'. Prove '..Said' where nothing that the law and all that it calls make is longer than what came in: it says more and counts as full. Else prove '..UptoSaid'. A law counts once. -/
mutual
def uptoBulk {H : Type} : DataW H → Nat
  | .lit (.string bytes) => bytes.length + 1
  | .lit _ => 1
  | .nil => 1
  | .ptr d => uptoBulk d + 1
  | .slice elems spare => uptoBulkAll elems + uptoBulkAll spare + 1
  | .agg parts => uptoBulkAll parts + 1
  | .iface _ d => uptoBulk d + 1
  | .map entries => uptoBulkEntries entries + 1
  | .held _ => 1
def uptoBulkAll {H : Type} : List (DataW H) → Nat
  | [] => 0
  | d :: r => uptoBulk d + uptoBulkAll r
def uptoBulkEntries {H : Type} : List (Lit × DataW H) → Nat
  | [] => 0
  | x :: r => uptoBulkEntry x + uptoBulkEntries r
def uptoBulkEntry {H : Type} : Lit × DataW H → Nat
  | (.string bytes, d) => bytes.length + uptoBulk d + 1
  | (_, d) => uptoBulk d + 1
 end
def uptoSmall : (H : Type) → List (DataW H) → Bool := fun _ ds => decide (uptoBulkAll ds ≤ 1048576)
def OpenSpec.upto (s : _root_.Go.ChangeSpec) : _root_.Go.OpenSpec := { _root_.Go.OpenSpec.ofChange s with cond := some uptoSmall }

/-- 'encausticlaw09.SnapEnds', WHERE WHAT IT READS IS OF BULK AT MOST 1048576: true; the input reads as it did. -/
def snapEndsUptoRow : OpenClaim := { program := "ytnkgfgkgepadhaa", sum := "d14d3238ed28924de6209abd8299115ae5d788a11f465ce0b35545389485cca6", func := "encaustic/encausticlaw09.SnapEnds", spec := "snapEnds", unfollowed := true, recurses := true, plainKeys := false, apart := false, narrowed := true }
def SnapEndsUptoSaid : Prop := snapEndsUptoRow.holds Try.pinned (OpenSpec.upto snapEndsSpec)

/-- 'encausticlaw09.SnapKeeps', WHERE WHAT IT READS IS OF BULK AT MOST 1048576: true; the input reads as it did. -/
def snapKeepsUptoRow : OpenClaim := { program := "ytnkgfgkgepadhaa", sum := "d14d3238ed28924de6209abd8299115ae5d788a11f465ce0b35545389485cca6", func := "encaustic/encausticlaw09.SnapKeeps", spec := "snapKeeps", unfollowed := true, recurses := true, plainKeys := false, apart := false, narrowed := true }
def SnapKeepsUptoSaid : Prop := snapKeepsUptoRow.holds Try.pinned (OpenSpec.upto snapKeepsSpec)

/-- 'encausticlaw09.SnapLimit', WHERE WHAT IT READS IS OF BULK AT MOST 1048576: true; the input reads as it did. -/
def snapLimitUptoRow : OpenClaim := { program := "ytnkgfgkgepadhaa", sum := "d14d3238ed28924de6209abd8299115ae5d788a11f465ce0b35545389485cca6", func := "encaustic/encausticlaw09.SnapLimit", spec := "snapLimit", unfollowed := true, recurses := true, plainKeys := false, apart := false, narrowed := true }
def SnapLimitUptoSaid : Prop := snapLimitUptoRow.holds Try.pinned (OpenSpec.upto snapLimitSpec)

/-- 'encausticlaw09.SnapPlays', WHERE WHAT IT READS IS OF BULK AT MOST 1048576: true; the input reads as it did. -/
def snapPlaysUptoRow : OpenClaim := { program := "ytnkgfgkgepadhaa", sum := "d14d3238ed28924de6209abd8299115ae5d788a11f465ce0b35545389485cca6", func := "encaustic/encausticlaw09.SnapPlays", spec := "snapPlays", unfollowed := true, recurses := true, plainKeys := false, apart := false, narrowed := true }
def SnapPlaysUptoSaid : Prop := snapPlaysUptoRow.holds Try.pinned (OpenSpec.upto snapPlaysSpec)

/-- 'encausticlaw09.SnapLooks', WHERE WHAT IT READS IS OF BULK AT MOST 1048576: true; the input reads as it did. -/
def snapLooksUptoRow : OpenClaim := { program := "ytnkgfgkgepadhaa", sum := "d14d3238ed28924de6209abd8299115ae5d788a11f465ce0b35545389485cca6", func := "encaustic/encausticlaw09.SnapLooks", spec := "snapLooks", unfollowed := true, recurses := true, plainKeys := false, apart := false, narrowed := true }
def SnapLooksUptoSaid : Prop := snapLooksUptoRow.holds Try.pinned (OpenSpec.upto snapLooksSpec)

/-- 'encausticlaw09.SnapClocks', WHERE WHAT IT READS IS OF BULK AT MOST 1048576: true; the input reads as it did. -/
def snapClocksUptoRow : OpenClaim := { program := "ytnkgfgkgepadhaa", sum := "d14d3238ed28924de6209abd8299115ae5d788a11f465ce0b35545389485cca6", func := "encaustic/encausticlaw09.SnapClocks", spec := "snapClocks", unfollowed := true, recurses := true, plainKeys := false, apart := false, narrowed := true }
def SnapClocksUptoSaid : Prop := snapClocksUptoRow.holds Try.pinned (OpenSpec.upto snapClocksSpec)

/-- 'encausticlaw09.SnapCuts', WHERE WHAT IT READS IS OF BULK AT MOST 1048576: true; the input reads as it did. -/
def snapCutsUptoRow : OpenClaim := { program := "ytnkgfgkgepadhaa", sum := "d14d3238ed28924de6209abd8299115ae5d788a11f465ce0b35545389485cca6", func := "encaustic/encausticlaw09.SnapCuts", spec := "snapCuts", unfollowed := true, recurses := true, plainKeys := false, apart := false, narrowed := true }
def SnapCutsUptoSaid : Prop := snapCutsUptoRow.holds Try.pinned (OpenSpec.upto snapCutsSpec)

/-- 'encausticlaw09.SnapCopies', WHERE WHAT IT READS IS OF BULK AT MOST 1048576: true; the input reads as it did. -/
def snapCopiesUptoRow : OpenClaim := { program := "ytnkgfgkgepadhaa", sum := "d14d3238ed28924de6209abd8299115ae5d788a11f465ce0b35545389485cca6", func := "encaustic/encausticlaw09.SnapCopies", spec := "snapCopies", unfollowed := true, recurses := true, plainKeys := false, apart := false, narrowed := true }
def SnapCopiesUptoSaid : Prop := snapCopiesUptoRow.holds Try.pinned (OpenSpec.upto snapCopiesSpec)

/-- 'encausticlaw09.SnapNobody', WHERE WHAT IT READS IS OF BULK AT MOST 1048576: true; the input reads as it did. -/
def snapNobodyUptoRow : OpenClaim := { program := "ytnkgfgkgepadhaa", sum := "d14d3238ed28924de6209abd8299115ae5d788a11f465ce0b35545389485cca6", func := "encaustic/encausticlaw09.SnapNobody", spec := "snapNobody", unfollowed := true, recurses := true, plainKeys := false, apart := false, narrowed := true }
def SnapNobodyUptoSaid : Prop := snapNobodyUptoRow.holds Try.pinned (OpenSpec.upto snapNobodySpec)

/-- 'encausticlaw09.SnapLattice', WHERE WHAT IT READS IS OF BULK AT MOST 1048576: true; the input reads as it did. -/
def snapLatticeUptoRow : OpenClaim := { program := "ytnkgfgkgepadhaa", sum := "d14d3238ed28924de6209abd8299115ae5d788a11f465ce0b35545389485cca6", func := "encaustic/encausticlaw09.SnapLattice", spec := "snapLattice", unfollowed := true, recurses := true, plainKeys := false, apart := false, narrowed := true }
def SnapLatticeUptoSaid : Prop := snapLatticeUptoRow.holds Try.pinned (OpenSpec.upto snapLatticeSpec)

/-- 'encausticlaw09.SnapWithin', WHERE WHAT IT READS IS OF BULK AT MOST 1048576: true; the input reads as it did. -/
def snapWithinUptoRow : OpenClaim := { program := "ytnkgfgkgepadhaa", sum := "d14d3238ed28924de6209abd8299115ae5d788a11f465ce0b35545389485cca6", func := "encaustic/encausticlaw09.SnapWithin", spec := "snapWithin", unfollowed := true, recurses := true, plainKeys := false, apart := false, narrowed := true }
def SnapWithinUptoSaid : Prop := snapWithinUptoRow.holds Try.pinned (OpenSpec.upto snapWithinSpec)

end Rows
end Go.Proofs.Ytnkgfgkgepadhaa

/-
  No cell of these rows narrows 'for every input' (looked for: loops, veiled, ifaces, maps, wideKeys, modest, calm, conditions, laid).
  DERIVED. THE GIVEN ROWS OF THIS SEAT. 10 by the template 'for every input the law returns true; each argument reads behind the call as it read before'; 0 by the template 'total and deterministic' (their statements: YtejchboadljglaaTotals.lean).
  GIVEN WITH THE SEED: the statements are not yours to turn. If you find one false, say at which input.
  Laid BY PROGRAM, IN A SANDBOX (cutbox-rows.mjs): the forced cells as the released guide's own fill.sh prints them over the translation 9ad6b69079653bbb… (all of the seat's roots in one cut). By AI agents, Wed Nov 11 2026. No macro, syntax, notation, axiom, sorry.
-/
import Derived.Test.YtejchboadljglaaChecked
import GoSem.Claim
import GoSem.ClaimJoined
import GoSem.ClaimMapViews
import Derived.JoinedTies
import Derived.KernelRfl
namespace Go.Proofs.Ytejchboadljglaa
/- THE CELL 'sum', in the pinned program and in every row, IS THE sha256 OF THE DUMP (.gsa) THAT YtejchboadljglaaProg.lean LOADS. Nothing in Lean hashes anything: it is a label: what it is worth is what the hold of that sum in a sandbox is worth. -/
noncomputable def Try.pinned : Pinned := { name := "ytejchboadljglaa", sum := "9ad6b69079653bbb2ed01fac216429bde72b65152394f7da380c9b1b5e0654cb", checked := Try.checked }
namespace Rows
def none {H : Type} : Left H := { results := [], args := [] }

/-- 'forethoughtlaw10.MarkLists': WHATEVER THE INPUT: true; the input reads as it did. -/
def markListsSpec : ChangeSpec := { name := "markLists", fn := fun _ => fun
  | [d1, d2] => { results := [.lit (.bool true)], args := [d1, d2] }
  | _ => none }
def markListsRow : OpenClaim := { program := "ytejchboadljglaa", sum := "9ad6b69079653bbb2ed01fac216429bde72b65152394f7da380c9b1b5e0654cb", func := "forethought/forethoughtlaw10.MarkLists", spec := "markLists", inPlace := ["internal/bytealg.IndexByteString"], unfollowed := true, recurses := true, apart := false }
def MarkListsSaid : Prop := markListsRow.holds Try.pinned (OpenSpec.ofChange markListsSpec)

/-- ITS FALSE NEIGHBOUR: 'it returns false'. Refute it at one input. -/
def markListsWrong : ChangeSpec := { name := "markLists", fn := fun _ => fun
  | [d1, d2] => { results := [.lit (.bool false)], args := [d1, d2] }
  | _ => none }
def MarkListsWrongFalsely : Prop := markListsRow.holds Try.pinned (OpenSpec.ofChange markListsWrong)

/-- 'forethoughtlaw10.MarkPlans': WHATEVER THE INPUT: true; the input reads as it did. -/
def markPlansSpec : ChangeSpec := { name := "markPlans", fn := fun _ => fun
  | [d1, d2, d3] => { results := [.lit (.bool true)], args := [d1, d2, d3] }
  | _ => none }
def markPlansRow : OpenClaim := { program := "ytejchboadljglaa", sum := "9ad6b69079653bbb2ed01fac216429bde72b65152394f7da380c9b1b5e0654cb", func := "forethought/forethoughtlaw10.MarkPlans", spec := "markPlans", inPlace := ["internal/bytealg.IndexByteString"], unfollowed := true, recurses := true, apart := false }
def MarkPlansSaid : Prop := markPlansRow.holds Try.pinned (OpenSpec.ofChange markPlansSpec)

/-- ITS FALSE NEIGHBOUR: 'it returns false'. Refute it at one input. -/
def markPlansWrong : ChangeSpec := { name := "markPlans", fn := fun _ => fun
  | [d1, d2, d3] => { results := [.lit (.bool false)], args := [d1, d2, d3] }
  | _ => none }
def MarkPlansWrongFalsely : Prop := markPlansRow.holds Try.pinned (OpenSpec.ofChange markPlansWrong)

/-- 'forethoughtlaw10.MarkCuts': WHATEVER THE INPUT: true; the input reads as it did. -/
def markCutsSpec : ChangeSpec := { name := "markCuts", fn := fun _ => fun
  | [d1, d2] => { results := [.lit (.bool true)], args := [d1, d2] }
  | _ => none }
def markCutsRow : OpenClaim := { program := "ytejchboadljglaa", sum := "9ad6b69079653bbb2ed01fac216429bde72b65152394f7da380c9b1b5e0654cb", func := "forethought/forethoughtlaw10.MarkCuts", spec := "markCuts", inPlace := ["internal/bytealg.IndexByteString"], unfollowed := true, recurses := true, apart := false }
def MarkCutsSaid : Prop := markCutsRow.holds Try.pinned (OpenSpec.ofChange markCutsSpec)

/-- ITS FALSE NEIGHBOUR: 'it returns false'. Refute it at one input. -/
def markCutsWrong : ChangeSpec := { name := "markCuts", fn := fun _ => fun
  | [d1, d2] => { results := [.lit (.bool false)], args := [d1, d2] }
  | _ => none }
def MarkCutsWrongFalsely : Prop := markCutsRow.holds Try.pinned (OpenSpec.ofChange markCutsWrong)

/-- 'forethoughtlaw10.MarkChecks': WHATEVER THE INPUT: true; the input reads as it did. -/
def markChecksSpec : ChangeSpec := { name := "markChecks", fn := fun _ => fun
  | [d1, d2, d3] => { results := [.lit (.bool true)], args := [d1, d2, d3] }
  | _ => none }
def markChecksRow : OpenClaim := { program := "ytejchboadljglaa", sum := "9ad6b69079653bbb2ed01fac216429bde72b65152394f7da380c9b1b5e0654cb", func := "forethought/forethoughtlaw10.MarkChecks", spec := "markChecks", inPlace := ["internal/bytealg.IndexByteString"], unfollowed := true, recurses := true, apart := false }
def MarkChecksSaid : Prop := markChecksRow.holds Try.pinned (OpenSpec.ofChange markChecksSpec)

/-- ITS FALSE NEIGHBOUR: 'it returns false'. Refute it at one input. -/
def markChecksWrong : ChangeSpec := { name := "markChecks", fn := fun _ => fun
  | [d1, d2, d3] => { results := [.lit (.bool false)], args := [d1, d2, d3] }
  | _ => none }
def MarkChecksWrongFalsely : Prop := markChecksRow.holds Try.pinned (OpenSpec.ofChange markChecksWrong)

/-- 'forethoughtlaw10.MarkReaches': WHATEVER THE INPUT: true; the input reads as it did. -/
def markReachesSpec : ChangeSpec := { name := "markReaches", fn := fun _ => fun
  | [d1, d2, d3] => { results := [.lit (.bool true)], args := [d1, d2, d3] }
  | _ => none }
def markReachesRow : OpenClaim := { program := "ytejchboadljglaa", sum := "9ad6b69079653bbb2ed01fac216429bde72b65152394f7da380c9b1b5e0654cb", func := "forethought/forethoughtlaw10.MarkReaches", spec := "markReaches", inPlace := ["internal/bytealg.IndexByteString"], unfollowed := true, recurses := true, apart := false }
def MarkReachesSaid : Prop := markReachesRow.holds Try.pinned (OpenSpec.ofChange markReachesSpec)

/-- ITS FALSE NEIGHBOUR: 'it returns false'. Refute it at one input. -/
def markReachesWrong : ChangeSpec := { name := "markReaches", fn := fun _ => fun
  | [d1, d2, d3] => { results := [.lit (.bool false)], args := [d1, d2, d3] }
  | _ => none }
def MarkReachesWrongFalsely : Prop := markReachesRow.holds Try.pinned (OpenSpec.ofChange markReachesWrong)

/-- 'forethoughtlaw02.StepApplies': WHATEVER THE INPUT: true; the input reads as it did. -/
def stepAppliesSpec : ChangeSpec := { name := "stepApplies", fn := fun _ => fun
  | [d1, d2, d3] => { results := [.lit (.bool true)], args := [d1, d2, d3] }
  | _ => none }
def stepAppliesRow : OpenClaim := { program := "ytejchboadljglaa", sum := "9ad6b69079653bbb2ed01fac216429bde72b65152394f7da380c9b1b5e0654cb", func := "forethought/forethoughtlaw02.StepApplies", spec := "stepApplies", inPlace := ["internal/bytealg.IndexByteString"], unfollowed := true, recurses := true, apart := false }
def StepAppliesSaid : Prop := stepAppliesRow.holds Try.pinned (OpenSpec.ofChange stepAppliesSpec)

/-- ITS FALSE NEIGHBOUR: 'it returns false'. Refute it at one input. -/
def stepAppliesWrong : ChangeSpec := { name := "stepApplies", fn := fun _ => fun
  | [d1, d2, d3] => { results := [.lit (.bool false)], args := [d1, d2, d3] }
  | _ => none }
def StepAppliesWrongFalsely : Prop := stepAppliesRow.holds Try.pinned (OpenSpec.ofChange stepAppliesWrong)

/-- 'forethoughtlaw02.StepExecutes': WHATEVER THE INPUT: true; the input reads as it did. -/
def stepExecutesSpec : ChangeSpec := { name := "stepExecutes", fn := fun _ => fun
  | [d1, d2, d3, d4] => { results := [.lit (.bool true)], args := [d1, d2, d3, d4] }
  | _ => none }
def stepExecutesRow : OpenClaim := { program := "ytejchboadljglaa", sum := "9ad6b69079653bbb2ed01fac216429bde72b65152394f7da380c9b1b5e0654cb", func := "forethought/forethoughtlaw02.StepExecutes", spec := "stepExecutes", inPlace := ["internal/bytealg.IndexByteString"], unfollowed := true, recurses := true, apart := false }
def StepExecutesSaid : Prop := stepExecutesRow.holds Try.pinned (OpenSpec.ofChange stepExecutesSpec)

/-- ITS FALSE NEIGHBOUR: 'it returns false'. Refute it at one input. -/
def stepExecutesWrong : ChangeSpec := { name := "stepExecutes", fn := fun _ => fun
  | [d1, d2, d3, d4] => { results := [.lit (.bool false)], args := [d1, d2, d3, d4] }
  | _ => none }
def StepExecutesWrongFalsely : Prop := stepExecutesRow.holds Try.pinned (OpenSpec.ofChange stepExecutesWrong)

/-- 'forethoughtlaw02.StepParts': WHATEVER THE INPUT: true; the input reads as it did. -/
def stepPartsSpec : ChangeSpec := { name := "stepParts", fn := fun _ => fun
  | [d1, d2, d3, d4] => { results := [.lit (.bool true)], args := [d1, d2, d3, d4] }
  | _ => none }
def stepPartsRow : OpenClaim := { program := "ytejchboadljglaa", sum := "9ad6b69079653bbb2ed01fac216429bde72b65152394f7da380c9b1b5e0654cb", func := "forethought/forethoughtlaw02.StepParts", spec := "stepParts", inPlace := ["internal/bytealg.IndexByteString"], unfollowed := true, recurses := true, apart := false }
def StepPartsSaid : Prop := stepPartsRow.holds Try.pinned (OpenSpec.ofChange stepPartsSpec)

/-- ITS FALSE NEIGHBOUR: 'it returns false'. Refute it at one input. -/
def stepPartsWrong : ChangeSpec := { name := "stepParts", fn := fun _ => fun
  | [d1, d2, d3, d4] => { results := [.lit (.bool false)], args := [d1, d2, d3, d4] }
  | _ => none }
def StepPartsWrongFalsely : Prop := stepPartsRow.holds Try.pinned (OpenSpec.ofChange stepPartsWrong)

/-- 'forethoughtlaw02.StepOwn': WHATEVER THE INPUT: true; the input reads as it did. -/
def stepOwnSpec : ChangeSpec := { name := "stepOwn", fn := fun _ => fun
  | [d1, d2, d3] => { results := [.lit (.bool true)], args := [d1, d2, d3] }
  | _ => none }
def stepOwnRow : OpenClaim := { program := "ytejchboadljglaa", sum := "9ad6b69079653bbb2ed01fac216429bde72b65152394f7da380c9b1b5e0654cb", func := "forethought/forethoughtlaw02.StepOwn", spec := "stepOwn", inPlace := ["internal/bytealg.IndexByteString"], unfollowed := true, recurses := true, apart := false }
def StepOwnSaid : Prop := stepOwnRow.holds Try.pinned (OpenSpec.ofChange stepOwnSpec)

/-- ITS FALSE NEIGHBOUR: 'it returns false'. Refute it at one input. -/
def stepOwnWrong : ChangeSpec := { name := "stepOwn", fn := fun _ => fun
  | [d1, d2, d3] => { results := [.lit (.bool false)], args := [d1, d2, d3] }
  | _ => none }
def StepOwnWrongFalsely : Prop := stepOwnRow.holds Try.pinned (OpenSpec.ofChange stepOwnWrong)

/-- 'forethoughtlaw02.StepStates': WHATEVER THE INPUT: true; the input reads as it did. -/
def stepStatesSpec : ChangeSpec := { name := "stepStates", fn := fun _ => fun
  | [d1, d2, d3] => { results := [.lit (.bool true)], args := [d1, d2, d3] }
  | _ => none }
def stepStatesRow : OpenClaim := { program := "ytejchboadljglaa", sum := "9ad6b69079653bbb2ed01fac216429bde72b65152394f7da380c9b1b5e0654cb", func := "forethought/forethoughtlaw02.StepStates", spec := "stepStates", inPlace := ["internal/bytealg.IndexByteString"], unfollowed := true, recurses := true, apart := false }
def StepStatesSaid : Prop := stepStatesRow.holds Try.pinned (OpenSpec.ofChange stepStatesSpec)

/-- ITS FALSE NEIGHBOUR: 'it returns false'. Refute it at one input. -/
def stepStatesWrong : ChangeSpec := { name := "stepStates", fn := fun _ => fun
  | [d1, d2, d3] => { results := [.lit (.bool false)], args := [d1, d2, d3] }
  | _ => none }
def StepStatesWrongFalsely : Prop := stepStatesRow.holds Try.pinned (OpenSpec.ofChange stepStatesWrong)

/- THE SECOND FORM. 'bulk': how many values and letters a reading holds, each counted each time it is reached (what is shared counts as often as it is met; a slice's spare places count too). A statement '..UptoSaid' is the law's where the arguments, and the package variables that the reading takes, are together of bulk at most 1048576: NARROWER than '..Said'. Prove '..Said' where nothing that the law and all that it calls make is longer than what came in: it says more and counts as full. Else prove '..UptoSaid'. A law counts once. -/
mutual
def uptoBulk {H : Type} : DataW H → Nat
  | .lit (.string bytes) => bytes.length + 1
  | .lit _ => 1
  | .nil => 1
  | .ptr d => uptoBulk d + 1
  | .slice elems spare => uptoBulkAll elems + uptoBulkAll spare + 1
  | .agg parts => uptoBulkAll parts + 1
  | .iface _ d => uptoBulk d + 1
  | .map entries => uptoBulkEntries entries + 1
  | .held _ => 1
def uptoBulkAll {H : Type} : List (DataW H) → Nat
  | [] => 0
  | d :: r => uptoBulk d + uptoBulkAll r
def uptoBulkEntries {H : Type} : List (Lit × DataW H) → Nat
  | [] => 0
  | x :: r => uptoBulkEntry x + uptoBulkEntries r
def uptoBulkEntry {H : Type} : Lit × DataW H → Nat
  | (.string bytes, d) => bytes.length + uptoBulk d + 1
  | (_, d) => uptoBulk d + 1
 end
def uptoSmall : (H : Type) → List (DataW H) → Bool := fun _ ds => decide (uptoBulkAll ds ≤ 1048576)
def OpenSpec.upto (s : _root_.Go.ChangeSpec) : _root_.Go.OpenSpec := { _root_.Go.OpenSpec.ofChange s with cond := some uptoSmall }

/-- 'forethoughtlaw10.MarkLists', WHERE WHAT IT READS IS OF BULK AT MOST 1048576: true; the input reads as it did. -/
def markListsUptoRow : OpenClaim := { program := "ytejchboadljglaa", sum := "9ad6b69079653bbb2ed01fac216429bde72b65152394f7da380c9b1b5e0654cb", func := "forethought/forethoughtlaw10.MarkLists", spec := "markLists", inPlace := ["internal/bytealg.IndexByteString"], unfollowed := true, recurses := true, apart := false, narrowed := true }
def MarkListsUptoSaid : Prop := markListsUptoRow.holds Try.pinned (OpenSpec.upto markListsSpec)

/-- 'forethoughtlaw10.MarkPlans', WHERE WHAT IT READS IS OF BULK AT MOST 1048576: true; the input reads as it did. -/
def markPlansUptoRow : OpenClaim := { program := "ytejchboadljglaa", sum := "9ad6b69079653bbb2ed01fac216429bde72b65152394f7da380c9b1b5e0654cb", func := "forethought/forethoughtlaw10.MarkPlans", spec := "markPlans", inPlace := ["internal/bytealg.IndexByteString"], unfollowed := true, recurses := true, apart := false, narrowed := true }
def MarkPlansUptoSaid : Prop := markPlansUptoRow.holds Try.pinned (OpenSpec.upto markPlansSpec)

/-- 'forethoughtlaw10.MarkCuts', WHERE WHAT IT READS IS OF BULK AT MOST 1048576: true; the input reads as it did. -/
def markCutsUptoRow : OpenClaim := { program := "ytejchboadljglaa", sum := "9ad6b69079653bbb2ed01fac216429bde72b65152394f7da380c9b1b5e0654cb", func := "forethought/forethoughtlaw10.MarkCuts", spec := "markCuts", inPlace := ["internal/bytealg.IndexByteString"], unfollowed := true, recurses := true, apart := false, narrowed := true }
def MarkCutsUptoSaid : Prop := markCutsUptoRow.holds Try.pinned (OpenSpec.upto markCutsSpec)

/-- 'forethoughtlaw10.MarkChecks', WHERE WHAT IT READS IS OF BULK AT MOST 1048576: true; the input reads as it did. -/
def markChecksUptoRow : OpenClaim := { program := "ytejchboadljglaa", sum := "9ad6b69079653bbb2ed01fac216429bde72b65152394f7da380c9b1b5e0654cb", func := "forethought/forethoughtlaw10.MarkChecks", spec := "markChecks", inPlace := ["internal/bytealg.IndexByteString"], unfollowed := true, recurses := true, apart := false, narrowed := true }
def MarkChecksUptoSaid : Prop := markChecksUptoRow.holds Try.pinned (OpenSpec.upto markChecksSpec)

/-- 'forethoughtlaw10.MarkReaches', WHERE WHAT IT READS IS OF BULK AT MOST 1048576: true; the input reads as it did. -/
def markReachesUptoRow : OpenClaim := { program := "ytejchboadljglaa", sum := "9ad6b69079653bbb2ed01fac216429bde72b65152394f7da380c9b1b5e0654cb", func := "forethought/forethoughtlaw10.MarkReaches", spec := "markReaches", inPlace := ["internal/bytealg.IndexByteString"], unfollowed := true, recurses := true, apart := false, narrowed := true }
def MarkReachesUptoSaid : Prop := markReachesUptoRow.holds Try.pinned (OpenSpec.upto markReachesSpec)

/-- 'forethoughtlaw02.StepApplies', WHERE WHAT IT READS IS OF BULK AT MOST 1048576: true; the input reads as it did. -/
def stepAppliesUptoRow : OpenClaim := { program := "ytejchboadljglaa", sum := "9ad6b69079653bbb2ed01fac216429bde72b65152394f7da380c9b1b5e0654cb", func := "forethought/forethoughtlaw02.StepApplies", spec := "stepApplies", inPlace := ["internal/bytealg.IndexByteString"], unfollowed := true, recurses := true, apart := false, narrowed := true }
def StepAppliesUptoSaid : Prop := stepAppliesUptoRow.holds Try.pinned (OpenSpec.upto stepAppliesSpec)

/-- 'forethoughtlaw02.StepExecutes', WHERE WHAT IT READS IS OF BULK AT MOST 1048576: true; the input reads as it did. -/
def stepExecutesUptoRow : OpenClaim := { program := "ytejchboadljglaa", sum := "9ad6b69079653bbb2ed01fac216429bde72b65152394f7da380c9b1b5e0654cb", func := "forethought/forethoughtlaw02.StepExecutes", spec := "stepExecutes", inPlace := ["internal/bytealg.IndexByteString"], unfollowed := true, recurses := true, apart := false, narrowed := true }
def StepExecutesUptoSaid : Prop := stepExecutesUptoRow.holds Try.pinned (OpenSpec.upto stepExecutesSpec)

/-- 'forethoughtlaw02.StepParts', WHERE WHAT IT READS IS OF BULK AT MOST 1048576: true; the input reads as it did. -/
def stepPartsUptoRow : OpenClaim := { program := "ytejchboadljglaa", sum := "9ad6b69079653bbb2ed01fac216429bde72b65152394f7da380c9b1b5e0654cb", func := "forethought/forethoughtlaw02.StepParts", spec := "stepParts", inPlace := ["internal/bytealg.IndexByteString"], unfollowed := true, recurses := true, apart := false, narrowed := true }
def StepPartsUptoSaid : Prop := stepPartsUptoRow.holds Try.pinned (OpenSpec.upto stepPartsSpec)

/-- 'forethoughtlaw02.StepOwn', WHERE WHAT IT READS IS OF BULK AT MOST 1048576: true; the input reads as it did. -/
def stepOwnUptoRow : OpenClaim := { program := "ytejchboadljglaa", sum := "9ad6b69079653bbb2ed01fac216429bde72b65152394f7da380c9b1b5e0654cb", func := "forethought/forethoughtlaw02.StepOwn", spec := "stepOwn", inPlace := ["internal/bytealg.IndexByteString"], unfollowed := true, recurses := true, apart := false, narrowed := true }
def StepOwnUptoSaid : Prop := stepOwnUptoRow.holds Try.pinned (OpenSpec.upto stepOwnSpec)

/-- 'forethoughtlaw02.StepStates', WHERE WHAT IT READS IS OF BULK AT MOST 1048576: true; the input reads as it did. -/
def stepStatesUptoRow : OpenClaim := { program := "ytejchboadljglaa", sum := "9ad6b69079653bbb2ed01fac216429bde72b65152394f7da380c9b1b5e0654cb", func := "forethought/forethoughtlaw02.StepStates", spec := "stepStates", inPlace := ["internal/bytealg.IndexByteString"], unfollowed := true, recurses := true, apart := false, narrowed := true }
def StepStatesUptoSaid : Prop := stepStatesUptoRow.holds Try.pinned (OpenSpec.upto stepStatesSpec)

end Rows
end Go.Proofs.Ytejchboadljglaa

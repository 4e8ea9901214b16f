/-
  No cell of these rows narrows 'for every input' (looked for: loops, veiled, ifaces, maps, wideKeys, modest, calm, conditions, laid).
  DERIVED. THE GIVEN ROWS OF THIS SEAT. 5 by the template 'for every input the law returns true; each argument reads behind the call as it read before'; 0 by the template 'total and deterministic' (their statements: YtmcbncmklopoaaaTotals.lean).
  GIVEN WITH THE SEED: the statements are not yours to turn. If you find one false, say at which input.
  Laid BY PROGRAM, IN A SANDBOX (cutbox-rows.mjs): the forced cells as the released guide's own fill.sh prints them over the translation 01add39aadb96063… (all of the seat's roots in one cut). By AI agents, Wed Nov 11 2026. No macro, syntax, notation, axiom, sorry.
-/
import Derived.Test.YtmcbncmklopoaaaChecked
import GoSem.Claim
import GoSem.ClaimJoined
import GoSem.ClaimMapViews
import Derived.JoinedTies
import Derived.KernelRfl
namespace Go.Proofs.Ytmcbncmklopoaaa
/- THE CELL 'sum', in the pinned program and in every row, IS THE sha256 OF THE DUMP (.gsa) THAT YtmcbncmklopoaaaProg.lean LOADS. Nothing in Lean hashes anything: it is a label: what it is worth is what the hold of that sum in a sandbox is worth. -/
noncomputable def Try.pinned : Pinned := { name := "ytmcbncmklopoaaa", sum := "01add39aadb96063da76a7b0cdc5385a7044bfc601499adeb29f53b8fc25d833", checked := Try.checked }
namespace Rows
def none {H : Type} : Left H := { results := [], args := [] }

/-- 'forethoughtlaw12.PotentVerdicts': WHATEVER THE INPUT: true; the input reads as it did. -/
def potentVerdictsSpec : ChangeSpec := { name := "potentVerdicts", fn := fun _ => fun
  | [d1, d2] => { results := [.lit (.bool true)], args := [d1, d2] }
  | _ => none }
def potentVerdictsRow : OpenClaim := { program := "ytmcbncmklopoaaa", sum := "01add39aadb96063da76a7b0cdc5385a7044bfc601499adeb29f53b8fc25d833", func := "forethought/forethoughtlaw12.PotentVerdicts", spec := "potentVerdicts", inPlace := ["internal/bytealg.IndexByteString", "math/bits.Add64", "math/bits.Sub64"], unfollowed := true, recurses := true, named := ["math/bits.divideError", "math/bits.overflowError"], apart := false }
def PotentVerdictsSaid : Prop := potentVerdictsRow.holds Try.pinned (OpenSpec.ofChange potentVerdictsSpec)

/-- ITS FALSE NEIGHBOUR: 'it returns false'. Refute it at one input. -/
def potentVerdictsWrong : ChangeSpec := { name := "potentVerdicts", fn := fun _ => fun
  | [d1, d2] => { results := [.lit (.bool false)], args := [d1, d2] }
  | _ => none }
def PotentVerdictsWrongFalsely : Prop := potentVerdictsRow.holds Try.pinned (OpenSpec.ofChange potentVerdictsWrong)

/-- 'forethoughtlaw12.PotentChecks': WHATEVER THE INPUT: true; the input reads as it did. -/
def potentChecksSpec : ChangeSpec := { name := "potentChecks", fn := fun _ => fun
  | [d1, d2, d3] => { results := [.lit (.bool true)], args := [d1, d2, d3] }
  | _ => none }
def potentChecksRow : OpenClaim := { program := "ytmcbncmklopoaaa", sum := "01add39aadb96063da76a7b0cdc5385a7044bfc601499adeb29f53b8fc25d833", func := "forethought/forethoughtlaw12.PotentChecks", spec := "potentChecks", inPlace := ["internal/bytealg.IndexByteString", "math/bits.Add64", "math/bits.Sub64"], unfollowed := true, recurses := true, named := ["math/bits.divideError", "math/bits.overflowError"], apart := false }
def PotentChecksSaid : Prop := potentChecksRow.holds Try.pinned (OpenSpec.ofChange potentChecksSpec)

/-- ITS FALSE NEIGHBOUR: 'it returns false'. Refute it at one input. -/
def potentChecksWrong : ChangeSpec := { name := "potentChecks", fn := fun _ => fun
  | [d1, d2, d3] => { results := [.lit (.bool false)], args := [d1, d2, d3] }
  | _ => none }
def PotentChecksWrongFalsely : Prop := potentChecksRow.holds Try.pinned (OpenSpec.ofChange potentChecksWrong)

/-- 'forethoughtlaw12.PotentFlows': WHATEVER THE INPUT: true; the input reads as it did. -/
def potentFlowsSpec : ChangeSpec := { name := "potentFlows", fn := fun _ => fun
  | [d1, d2, d3, d4] => { results := [.lit (.bool true)], args := [d1, d2, d3, d4] }
  | _ => none }
def potentFlowsRow : OpenClaim := { program := "ytmcbncmklopoaaa", sum := "01add39aadb96063da76a7b0cdc5385a7044bfc601499adeb29f53b8fc25d833", func := "forethought/forethoughtlaw12.PotentFlows", spec := "potentFlows", inPlace := ["internal/bytealg.IndexByteString", "math/bits.Add64", "math/bits.Sub64"], unfollowed := true, recurses := true, named := ["math/bits.divideError", "math/bits.overflowError"], apart := false }
def PotentFlowsSaid : Prop := potentFlowsRow.holds Try.pinned (OpenSpec.ofChange potentFlowsSpec)

/-- ITS FALSE NEIGHBOUR: 'it returns false'. Refute it at one input. -/
def potentFlowsWrong : ChangeSpec := { name := "potentFlows", fn := fun _ => fun
  | [d1, d2, d3, d4] => { results := [.lit (.bool false)], args := [d1, d2, d3, d4] }
  | _ => none }
def PotentFlowsWrongFalsely : Prop := potentFlowsRow.holds Try.pinned (OpenSpec.ofChange potentFlowsWrong)

/-- 'forethoughtlaw12.PotentNumbers': WHATEVER THE INPUT: true; the input reads as it did. -/
def potentNumbersSpec : ChangeSpec := { name := "potentNumbers", fn := fun _ => fun
  | [d1, d2, d3] => { results := [.lit (.bool true)], args := [d1, d2, d3] }
  | _ => none }
def potentNumbersRow : OpenClaim := { program := "ytmcbncmklopoaaa", sum := "01add39aadb96063da76a7b0cdc5385a7044bfc601499adeb29f53b8fc25d833", func := "forethought/forethoughtlaw12.PotentNumbers", spec := "potentNumbers", inPlace := ["internal/bytealg.IndexByteString", "math/bits.Add64", "math/bits.Sub64"], unfollowed := true, recurses := true, named := ["math/bits.divideError", "math/bits.overflowError"], apart := false }
def PotentNumbersSaid : Prop := potentNumbersRow.holds Try.pinned (OpenSpec.ofChange potentNumbersSpec)

/-- ITS FALSE NEIGHBOUR: 'it returns false'. Refute it at one input. -/
def potentNumbersWrong : ChangeSpec := { name := "potentNumbers", fn := fun _ => fun
  | [d1, d2, d3] => { results := [.lit (.bool false)], args := [d1, d2, d3] }
  | _ => none }
def PotentNumbersWrongFalsely : Prop := potentNumbersRow.holds Try.pinned (OpenSpec.ofChange potentNumbersWrong)

/-- 'forethoughtlaw12.PotentBounds': WHATEVER THE INPUT: true; the input reads as it did. -/
def potentBoundsSpec : ChangeSpec := { name := "potentBounds", fn := fun _ => fun
  | [d1, d2, d3, d4] => { results := [.lit (.bool true)], args := [d1, d2, d3, d4] }
  | _ => none }
def potentBoundsRow : OpenClaim := { program := "ytmcbncmklopoaaa", sum := "01add39aadb96063da76a7b0cdc5385a7044bfc601499adeb29f53b8fc25d833", func := "forethought/forethoughtlaw12.PotentBounds", spec := "potentBounds", inPlace := ["internal/bytealg.IndexByteString", "math/bits.Add64", "math/bits.Sub64"], unfollowed := true, recurses := true, named := ["math/bits.divideError", "math/bits.overflowError"], apart := false }
def PotentBoundsSaid : Prop := potentBoundsRow.holds Try.pinned (OpenSpec.ofChange potentBoundsSpec)

/-- ITS FALSE NEIGHBOUR: 'it returns false'. Refute it at one input. -/
def potentBoundsWrong : ChangeSpec := { name := "potentBounds", fn := fun _ => fun
  | [d1, d2, d3, d4] => { results := [.lit (.bool false)], args := [d1, d2, d3, d4] }
  | _ => none }
def PotentBoundsWrongFalsely : Prop := potentBoundsRow.holds Try.pinned (OpenSpec.ofChange potentBoundsWrong)

/- THE SECOND FORM. 'bulk': how many values and letters a reading holds, each counted each time it is reached (what is shared counts as often as it is met; a slice's spare places count too). A statement '..UptoSaid' is the law's where the arguments, and the package variables that the reading takes, are together of bulk at most 1048576: NARROWER than '..Said'. Prove '..Said' where nothing that the law and all that it calls make is longer than what came in: it says more and counts as full. Else prove '..UptoSaid'. A law counts once. -/
mutual
def uptoBulk {H : Type} : DataW H → Nat
  | .lit (.string bytes) => bytes.length + 1
  | .lit _ => 1
  | .nil => 1
  | .ptr d => uptoBulk d + 1
  | .slice elems spare => uptoBulkAll elems + uptoBulkAll spare + 1
  | .agg parts => uptoBulkAll parts + 1
  | .iface _ d => uptoBulk d + 1
  | .map entries => uptoBulkEntries entries + 1
  | .held _ => 1
def uptoBulkAll {H : Type} : List (DataW H) → Nat
  | [] => 0
  | d :: r => uptoBulk d + uptoBulkAll r
def uptoBulkEntries {H : Type} : List (Lit × DataW H) → Nat
  | [] => 0
  | x :: r => uptoBulkEntry x + uptoBulkEntries r
def uptoBulkEntry {H : Type} : Lit × DataW H → Nat
  | (.string bytes, d) => bytes.length + uptoBulk d + 1
  | (_, d) => uptoBulk d + 1
 end
def uptoSmall : (H : Type) → List (DataW H) → Bool := fun _ ds => decide (uptoBulkAll ds ≤ 1048576)
def OpenSpec.upto (s : _root_.Go.ChangeSpec) : _root_.Go.OpenSpec := { _root_.Go.OpenSpec.ofChange s with cond := some uptoSmall }

/-- 'forethoughtlaw12.PotentVerdicts', WHERE WHAT IT READS IS OF BULK AT MOST 1048576: true; the input reads as it did. -/
def potentVerdictsUptoRow : OpenClaim := { program := "ytmcbncmklopoaaa", sum := "01add39aadb96063da76a7b0cdc5385a7044bfc601499adeb29f53b8fc25d833", func := "forethought/forethoughtlaw12.PotentVerdicts", spec := "potentVerdicts", inPlace := ["internal/bytealg.IndexByteString", "math/bits.Add64", "math/bits.Sub64"], unfollowed := true, recurses := true, named := ["math/bits.divideError", "math/bits.overflowError"], apart := false, narrowed := true }
def PotentVerdictsUptoSaid : Prop := potentVerdictsUptoRow.holds Try.pinned (OpenSpec.upto potentVerdictsSpec)

/-- 'forethoughtlaw12.PotentChecks', WHERE WHAT IT READS IS OF BULK AT MOST 1048576: true; the input reads as it did. -/
def potentChecksUptoRow : OpenClaim := { program := "ytmcbncmklopoaaa", sum := "01add39aadb96063da76a7b0cdc5385a7044bfc601499adeb29f53b8fc25d833", func := "forethought/forethoughtlaw12.PotentChecks", spec := "potentChecks", inPlace := ["internal/bytealg.IndexByteString", "math/bits.Add64", "math/bits.Sub64"], unfollowed := true, recurses := true, named := ["math/bits.divideError", "math/bits.overflowError"], apart := false, narrowed := true }
def PotentChecksUptoSaid : Prop := potentChecksUptoRow.holds Try.pinned (OpenSpec.upto potentChecksSpec)

/-- 'forethoughtlaw12.PotentFlows', WHERE WHAT IT READS IS OF BULK AT MOST 1048576: true; the input reads as it did. -/
def potentFlowsUptoRow : OpenClaim := { program := "ytmcbncmklopoaaa", sum := "01add39aadb96063da76a7b0cdc5385a7044bfc601499adeb29f53b8fc25d833", func := "forethought/forethoughtlaw12.PotentFlows", spec := "potentFlows", inPlace := ["internal/bytealg.IndexByteString", "math/bits.Add64", "math/bits.Sub64"], unfollowed := true, recurses := true, named := ["math/bits.divideError", "math/bits.overflowError"], apart := false, narrowed := true }
def PotentFlowsUptoSaid : Prop := potentFlowsUptoRow.holds Try.pinned (OpenSpec.upto potentFlowsSpec)

/-- 'forethoughtlaw12.PotentNumbers', WHERE WHAT IT READS IS OF BULK AT MOST 1048576: true; the input reads as it did. -/
def potentNumbersUptoRow : OpenClaim := { program := "ytmcbncmklopoaaa", sum := "01add39aadb96063da76a7b0cdc5385a7044bfc601499adeb29f53b8fc25d833", func := "forethought/forethoughtlaw12.PotentNumbers", spec := "potentNumbers", inPlace := ["internal/bytealg.IndexByteString", "math/bits.Add64", "math/bits.Sub64"], unfollowed := true, recurses := true, named := ["math/bits.divideError", "math/bits.overflowError"], apart := false, narrowed := true }
def PotentNumbersUptoSaid : Prop := potentNumbersUptoRow.holds Try.pinned (OpenSpec.upto potentNumbersSpec)

/-- 'forethoughtlaw12.PotentBounds', WHERE WHAT IT READS IS OF BULK AT MOST 1048576: true; the input reads as it did. -/
def potentBoundsUptoRow : OpenClaim := { program := "ytmcbncmklopoaaa", sum := "01add39aadb96063da76a7b0cdc5385a7044bfc601499adeb29f53b8fc25d833", func := "forethought/forethoughtlaw12.PotentBounds", spec := "potentBounds", inPlace := ["internal/bytealg.IndexByteString", "math/bits.Add64", "math/bits.Sub64"], unfollowed := true, recurses := true, named := ["math/bits.divideError", "math/bits.overflowError"], apart := false, narrowed := true }
def PotentBoundsUptoSaid : Prop := potentBoundsUptoRow.holds Try.pinned (OpenSpec.upto potentBoundsSpec)

end Rows
end Go.Proofs.Ytmcbncmklopoaaa

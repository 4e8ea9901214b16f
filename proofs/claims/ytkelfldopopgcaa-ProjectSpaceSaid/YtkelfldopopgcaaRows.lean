/-
  No cell of these rows narrows 'for every input' (looked for: loops, veiled, ifaces, maps, wideKeys, modest, calm, conditions, laid).
  DERIVED. THE GIVEN ROWS OF THIS SEAT. 4 by the template 'for every input the law returns true; each argument reads behind the call as it read before'; 0 by the template 'total and deterministic' (their statements: YtkelfldopopgcaaTotals.lean).
  GIVEN WITH THE SEED: the statements are not yours to turn. If you find one false, say at which input.
  Laid BY PROGRAM, IN A SANDBOX (cutbox-rows.mjs): the forced cells as the released guide's own fill.sh prints them over the translation c0c8fd66c6201bce… (all of the seat's roots in one cut). By AI agents, Wed Nov 11 2026. No macro, syntax, notation, axiom, sorry.
-/
import Derived.Test.YtkelfldopopgcaaChecked
import GoSem.Claim
import GoSem.ClaimJoined
import GoSem.ClaimMapViews
import Derived.JoinedTies
import Derived.KernelRfl
namespace Go.Proofs.Ytkelfldopopgcaa
/- THE CELL 'sum', in the pinned program and in every row, IS THE sha256 OF THE DUMP (.gsa) THAT YtkelfldopopgcaaProg.lean LOADS. Nothing in Lean hashes anything: it is a label: what it is worth is what the hold of that sum in a sandbox is worth. -/
noncomputable def Try.pinned : Pinned := { name := "ytkelfldopopgcaa", sum := "c0c8fd66c6201bce38b97cd3a0a57f81245b97423e4490d84a21f23cfdfa0d12", checked := Try.checked }
namespace Rows
def none {H : Type} : Left H := { results := [], args := [] }

/-- 'forethoughtlaw11.ProjectSpace': WHATEVER THE INPUT: true; the input reads as it did. -/
def projectSpaceSpec : ChangeSpec := { name := "projectSpace", fn := fun _ => fun
  | [d1, d2] => { results := [.lit (.bool true)], args := [d1, d2] }
  | _ => none }
def projectSpaceRow : OpenClaim := { program := "ytkelfldopopgcaa", sum := "c0c8fd66c6201bce38b97cd3a0a57f81245b97423e4490d84a21f23cfdfa0d12", func := "forethought/forethoughtlaw11.ProjectSpace", spec := "projectSpace", inPlace := ["internal/bytealg.IndexByteString"], unfollowed := true, recurses := true, apart := false }
def ProjectSpaceSaid : Prop := projectSpaceRow.holds Try.pinned (OpenSpec.ofChange projectSpaceSpec)

/-- ITS FALSE NEIGHBOUR: 'it returns false'. Refute it at one input. -/
def projectSpaceWrong : ChangeSpec := { name := "projectSpace", fn := fun _ => fun
  | [d1, d2] => { results := [.lit (.bool false)], args := [d1, d2] }
  | _ => none }
def ProjectSpaceWrongFalsely : Prop := projectSpaceRow.holds Try.pinned (OpenSpec.ofChange projectSpaceWrong)

/-- 'forethoughtlaw11.ProjectTasks': WHATEVER THE INPUT: true; the input reads as it did. -/
def projectTasksSpec : ChangeSpec := { name := "projectTasks", fn := fun _ => fun
  | [d1, d2, d3] => { results := [.lit (.bool true)], args := [d1, d2, d3] }
  | _ => none }
def projectTasksRow : OpenClaim := { program := "ytkelfldopopgcaa", sum := "c0c8fd66c6201bce38b97cd3a0a57f81245b97423e4490d84a21f23cfdfa0d12", func := "forethought/forethoughtlaw11.ProjectTasks", spec := "projectTasks", inPlace := ["internal/bytealg.IndexByteString"], unfollowed := true, recurses := true, apart := false }
def ProjectTasksSaid : Prop := projectTasksRow.holds Try.pinned (OpenSpec.ofChange projectTasksSpec)

/-- ITS FALSE NEIGHBOUR: 'it returns false'. Refute it at one input. -/
def projectTasksWrong : ChangeSpec := { name := "projectTasks", fn := fun _ => fun
  | [d1, d2, d3] => { results := [.lit (.bool false)], args := [d1, d2, d3] }
  | _ => none }
def ProjectTasksWrongFalsely : Prop := projectTasksRow.holds Try.pinned (OpenSpec.ofChange projectTasksWrong)

/-- 'forethoughtlaw11.ProjectPlans': WHATEVER THE INPUT: true; the input reads as it did. -/
def projectPlansSpec : ChangeSpec := { name := "projectPlans", fn := fun _ => fun
  | [d1, d2, d3, d4] => { results := [.lit (.bool true)], args := [d1, d2, d3, d4] }
  | _ => none }
def projectPlansRow : OpenClaim := { program := "ytkelfldopopgcaa", sum := "c0c8fd66c6201bce38b97cd3a0a57f81245b97423e4490d84a21f23cfdfa0d12", func := "forethought/forethoughtlaw11.ProjectPlans", spec := "projectPlans", inPlace := ["internal/bytealg.IndexByteString"], unfollowed := true, recurses := true, apart := false }
def ProjectPlansSaid : Prop := projectPlansRow.holds Try.pinned (OpenSpec.ofChange projectPlansSpec)

/-- ITS FALSE NEIGHBOUR: 'it returns false'. Refute it at one input. -/
def projectPlansWrong : ChangeSpec := { name := "projectPlans", fn := fun _ => fun
  | [d1, d2, d3, d4] => { results := [.lit (.bool false)], args := [d1, d2, d3, d4] }
  | _ => none }
def ProjectPlansWrongFalsely : Prop := projectPlansRow.holds Try.pinned (OpenSpec.ofChange projectPlansWrong)

/-- 'forethoughtlaw11.ProjectPatterns': WHATEVER THE INPUT: true; the input reads as it did. -/
def projectPatternsSpec : ChangeSpec := { name := "projectPatterns", fn := fun _ => fun
  | [d1, d2, d3] => { results := [.lit (.bool true)], args := [d1, d2, d3] }
  | _ => none }
def projectPatternsRow : OpenClaim := { program := "ytkelfldopopgcaa", sum := "c0c8fd66c6201bce38b97cd3a0a57f81245b97423e4490d84a21f23cfdfa0d12", func := "forethought/forethoughtlaw11.ProjectPatterns", spec := "projectPatterns", inPlace := ["internal/bytealg.IndexByteString"], unfollowed := true, recurses := true, apart := false }
def ProjectPatternsSaid : Prop := projectPatternsRow.holds Try.pinned (OpenSpec.ofChange projectPatternsSpec)

/-- ITS FALSE NEIGHBOUR: 'it returns false'. Refute it at one input. -/
def projectPatternsWrong : ChangeSpec := { name := "projectPatterns", fn := fun _ => fun
  | [d1, d2, d3] => { results := [.lit (.bool false)], args := [d1, d2, d3] }
  | _ => none }
def ProjectPatternsWrongFalsely : Prop := projectPatternsRow.holds Try.pinned (OpenSpec.ofChange projectPatternsWrong)

/- THE SECOND FORM. 'bulk': how many values and letters a reading holds, each counted each time it is reached (what is shared counts as often as it is met; a slice's spare places count too). A statement '..UptoSaid' is the law's where the arguments, and the package variables that the reading takes, are together of bulk at most 1048576: NARROWER than '..Said'. Prove '..Said' where nothing that the law and all that it calls make is longer than what came in: it says more and counts as full. Else prove '..UptoSaid'. A law counts once. -/
mutual
def uptoBulk {H : Type} : DataW H → Nat
  | .lit (.string bytes) => bytes.length + 1
  | .lit _ => 1
  | .nil => 1
  | .ptr d => uptoBulk d + 1
  | .slice elems spare => uptoBulkAll elems + uptoBulkAll spare + 1
  | .agg parts => uptoBulkAll parts + 1
  | .iface _ d => uptoBulk d + 1
  | .map entries => uptoBulkEntries entries + 1
  | .held _ => 1
def uptoBulkAll {H : Type} : List (DataW H) → Nat
  | [] => 0
  | d :: r => uptoBulk d + uptoBulkAll r
def uptoBulkEntries {H : Type} : List (Lit × DataW H) → Nat
  | [] => 0
  | x :: r => uptoBulkEntry x + uptoBulkEntries r
def uptoBulkEntry {H : Type} : Lit × DataW H → Nat
  | (.string bytes, d) => bytes.length + uptoBulk d + 1
  | (_, d) => uptoBulk d + 1
 end
def uptoSmall : (H : Type) → List (DataW H) → Bool := fun _ ds => decide (uptoBulkAll ds ≤ 1048576)
def OpenSpec.upto (s : _root_.Go.ChangeSpec) : _root_.Go.OpenSpec := { _root_.Go.OpenSpec.ofChange s with cond := some uptoSmall }

/-- 'forethoughtlaw11.ProjectSpace', WHERE WHAT IT READS IS OF BULK AT MOST 1048576: true; the input reads as it did. -/
def projectSpaceUptoRow : OpenClaim := { program := "ytkelfldopopgcaa", sum := "c0c8fd66c6201bce38b97cd3a0a57f81245b97423e4490d84a21f23cfdfa0d12", func := "forethought/forethoughtlaw11.ProjectSpace", spec := "projectSpace", inPlace := ["internal/bytealg.IndexByteString"], unfollowed := true, recurses := true, apart := false, narrowed := true }
def ProjectSpaceUptoSaid : Prop := projectSpaceUptoRow.holds Try.pinned (OpenSpec.upto projectSpaceSpec)

/-- 'forethoughtlaw11.ProjectTasks', WHERE WHAT IT READS IS OF BULK AT MOST 1048576: true; the input reads as it did. -/
def projectTasksUptoRow : OpenClaim := { program := "ytkelfldopopgcaa", sum := "c0c8fd66c6201bce38b97cd3a0a57f81245b97423e4490d84a21f23cfdfa0d12", func := "forethought/forethoughtlaw11.ProjectTasks", spec := "projectTasks", inPlace := ["internal/bytealg.IndexByteString"], unfollowed := true, recurses := true, apart := false, narrowed := true }
def ProjectTasksUptoSaid : Prop := projectTasksUptoRow.holds Try.pinned (OpenSpec.upto projectTasksSpec)

/-- 'forethoughtlaw11.ProjectPlans', WHERE WHAT IT READS IS OF BULK AT MOST 1048576: true; the input reads as it did. -/
def projectPlansUptoRow : OpenClaim := { program := "ytkelfldopopgcaa", sum := "c0c8fd66c6201bce38b97cd3a0a57f81245b97423e4490d84a21f23cfdfa0d12", func := "forethought/forethoughtlaw11.ProjectPlans", spec := "projectPlans", inPlace := ["internal/bytealg.IndexByteString"], unfollowed := true, recurses := true, apart := false, narrowed := true }
def ProjectPlansUptoSaid : Prop := projectPlansUptoRow.holds Try.pinned (OpenSpec.upto projectPlansSpec)

/-- 'forethoughtlaw11.ProjectPatterns', WHERE WHAT IT READS IS OF BULK AT MOST 1048576: true; the input reads as it did. -/
def projectPatternsUptoRow : OpenClaim := { program := "ytkelfldopopgcaa", sum := "c0c8fd66c6201bce38b97cd3a0a57f81245b97423e4490d84a21f23cfdfa0d12", func := "forethought/forethoughtlaw11.ProjectPatterns", spec := "projectPatterns", inPlace := ["internal/bytealg.IndexByteString"], unfollowed := true, recurses := true, apart := false, narrowed := true }
def ProjectPatternsUptoSaid : Prop := projectPatternsUptoRow.holds Try.pinned (OpenSpec.upto projectPatternsSpec)

end Rows
end Go.Proofs.Ytkelfldopopgcaa

/-
  No cell of these rows narrows 'for every input' (looked for: loops, veiled, ifaces, maps, wideKeys, modest, calm, conditions, laid).
  DERIVED. THE GIVEN ROWS OF THIS SEAT. 4 by the template 'for every input the law returns true; each argument reads behind the call as it read before'; 0 by the template 'total and deterministic' (their statements: YtjmekjoomdblfaaTotals.lean).
  GIVEN WITH THE SEED: the statements are not yours to turn. If you find one false, say at which input.
  Laid BY PROGRAM, IN A SANDBOX (cutbox-rows.mjs): the forced cells as the released guide's own fill.sh prints them over the translation 2e4104ba0b2accea… (all of the seat's roots in one cut). By AI agents, Wed Nov 11 2026. No macro, syntax, notation, axiom, sorry.
-/
import Derived.Test.YtjmekjoomdblfaaChecked
import GoSem.Claim
import GoSem.ClaimJoined
import GoSem.ClaimMapViews
import Derived.JoinedTies
import Derived.KernelRfl
namespace Go.Proofs.Ytjmekjoomdblfaa
/- THE CELL 'sum', in the pinned program and in every row, IS THE sha256 OF THE DUMP (.gsa) THAT YtjmekjoomdblfaaProg.lean LOADS. Nothing in Lean hashes anything: it is a label: what it is worth is what the hold of that sum in a sandbox is worth. -/
noncomputable def Try.pinned : Pinned := { name := "ytjmekjoomdblfaa", sum := "2e4104ba0b2accea167a9641d5c5cb2e65419438d9472ebcf384904b37daea7a", checked := Try.checked }
namespace Rows
def none {H : Type} : Left H := { results := [], args := [] }

/-- 'forethoughtlaw05.RelaxEstimates': WHATEVER THE INPUT: true; the input reads as it did. -/
def relaxEstimatesSpec : ChangeSpec := { name := "relaxEstimates", fn := fun _ => fun
  | [d1, d2, d3] => { results := [.lit (.bool true)], args := [d1, d2, d3] }
  | _ => none }
def relaxEstimatesRow : OpenClaim := { program := "ytjmekjoomdblfaa", sum := "2e4104ba0b2accea167a9641d5c5cb2e65419438d9472ebcf384904b37daea7a", func := "forethought/forethoughtlaw05.RelaxEstimates", spec := "relaxEstimates", inPlace := ["internal/bytealg.IndexByteString"], unfollowed := true, recurses := true, apart := false }
def RelaxEstimatesSaid : Prop := relaxEstimatesRow.holds Try.pinned (OpenSpec.ofChange relaxEstimatesSpec)

/-- ITS FALSE NEIGHBOUR: 'it returns false'. Refute it at one input. -/
def relaxEstimatesWrong : ChangeSpec := { name := "relaxEstimates", fn := fun _ => fun
  | [d1, d2, d3] => { results := [.lit (.bool false)], args := [d1, d2, d3] }
  | _ => none }
def RelaxEstimatesWrongFalsely : Prop := relaxEstimatesRow.holds Try.pinned (OpenSpec.ofChange relaxEstimatesWrong)

/-- 'forethoughtlaw05.RelaxPlans': WHATEVER THE INPUT: true; the input reads as it did. -/
def relaxPlansSpec : ChangeSpec := { name := "relaxPlans", fn := fun _ => fun
  | [d1, d2, d3, d4, d5] => { results := [.lit (.bool true)], args := [d1, d2, d3, d4, d5] }
  | _ => none }
def relaxPlansRow : OpenClaim := { program := "ytjmekjoomdblfaa", sum := "2e4104ba0b2accea167a9641d5c5cb2e65419438d9472ebcf384904b37daea7a", func := "forethought/forethoughtlaw05.RelaxPlans", spec := "relaxPlans", inPlace := ["internal/bytealg.IndexByteString"], unfollowed := true, recurses := true, apart := false }
def RelaxPlansSaid : Prop := relaxPlansRow.holds Try.pinned (OpenSpec.ofChange relaxPlansSpec)

/-- ITS FALSE NEIGHBOUR: 'it returns false'. Refute it at one input. -/
def relaxPlansWrong : ChangeSpec := { name := "relaxPlans", fn := fun _ => fun
  | [d1, d2, d3, d4, d5] => { results := [.lit (.bool false)], args := [d1, d2, d3, d4, d5] }
  | _ => none }
def RelaxPlansWrongFalsely : Prop := relaxPlansRow.holds Try.pinned (OpenSpec.ofChange relaxPlansWrong)

/-- 'forethoughtlaw05.RelaxReached': WHATEVER THE INPUT: true; the input reads as it did. -/
def relaxReachedSpec : ChangeSpec := { name := "relaxReached", fn := fun _ => fun
  | [d1, d2, d3] => { results := [.lit (.bool true)], args := [d1, d2, d3] }
  | _ => none }
def relaxReachedRow : OpenClaim := { program := "ytjmekjoomdblfaa", sum := "2e4104ba0b2accea167a9641d5c5cb2e65419438d9472ebcf384904b37daea7a", func := "forethought/forethoughtlaw05.RelaxReached", spec := "relaxReached", inPlace := ["internal/bytealg.IndexByteString"], unfollowed := true, recurses := true, apart := false }
def RelaxReachedSaid : Prop := relaxReachedRow.holds Try.pinned (OpenSpec.ofChange relaxReachedSpec)

/-- ITS FALSE NEIGHBOUR: 'it returns false'. Refute it at one input. -/
def relaxReachedWrong : ChangeSpec := { name := "relaxReached", fn := fun _ => fun
  | [d1, d2, d3] => { results := [.lit (.bool false)], args := [d1, d2, d3] }
  | _ => none }
def RelaxReachedWrongFalsely : Prop := relaxReachedRow.holds Try.pinned (OpenSpec.ofChange relaxReachedWrong)

/-- 'forethoughtlaw05.RelaxOwn': WHATEVER THE INPUT: true; the input reads as it did. -/
def relaxOwnSpec : ChangeSpec := { name := "relaxOwn", fn := fun _ => fun
  | [d1, d2, d3] => { results := [.lit (.bool true)], args := [d1, d2, d3] }
  | _ => none }
def relaxOwnRow : OpenClaim := { program := "ytjmekjoomdblfaa", sum := "2e4104ba0b2accea167a9641d5c5cb2e65419438d9472ebcf384904b37daea7a", func := "forethought/forethoughtlaw05.RelaxOwn", spec := "relaxOwn", inPlace := ["internal/bytealg.IndexByteString"], unfollowed := true, recurses := true, apart := false }
def RelaxOwnSaid : Prop := relaxOwnRow.holds Try.pinned (OpenSpec.ofChange relaxOwnSpec)

/-- ITS FALSE NEIGHBOUR: 'it returns false'. Refute it at one input. -/
def relaxOwnWrong : ChangeSpec := { name := "relaxOwn", fn := fun _ => fun
  | [d1, d2, d3] => { results := [.lit (.bool false)], args := [d1, d2, d3] }
  | _ => none }
def RelaxOwnWrongFalsely : Prop := relaxOwnRow.holds Try.pinned (OpenSpec.ofChange relaxOwnWrong)

/- THE SECOND FORM. 'bulk': how many values and letters a reading holds, each counted each time it is reached (what is shared counts as often as it is met; a slice's spare places count too). A statement '..UptoSaid' is the law's where the arguments, and the package variables that the reading takes, are together of bulk at most 1048576: NARROWER than '..Said'. Prove '..Said' where nothing that the law and all that it calls make is longer than what came in: it says more and counts as full. Else prove '..UptoSaid'. A law counts once. -/
mutual
def uptoBulk {H : Type} : DataW H → Nat
  | .lit (.string bytes) => bytes.length + 1
  | .lit _ => 1
  | .nil => 1
  | .ptr d => uptoBulk d + 1
  | .slice elems spare => uptoBulkAll elems + uptoBulkAll spare + 1
  | .agg parts => uptoBulkAll parts + 1
  | .iface _ d => uptoBulk d + 1
  | .map entries => uptoBulkEntries entries + 1
  | .held _ => 1
def uptoBulkAll {H : Type} : List (DataW H) → Nat
  | [] => 0
  | d :: r => uptoBulk d + uptoBulkAll r
def uptoBulkEntries {H : Type} : List (Lit × DataW H) → Nat
  | [] => 0
  | x :: r => uptoBulkEntry x + uptoBulkEntries r
def uptoBulkEntry {H : Type} : Lit × DataW H → Nat
  | (.string bytes, d) => bytes.length + uptoBulk d + 1
  | (_, d) => uptoBulk d + 1
 end
def uptoSmall : (H : Type) → List (DataW H) → Bool := fun _ ds => decide (uptoBulkAll ds ≤ 1048576)
def OpenSpec.upto (s : _root_.Go.ChangeSpec) : _root_.Go.OpenSpec := { _root_.Go.OpenSpec.ofChange s with cond := some uptoSmall }

/-- 'forethoughtlaw05.RelaxEstimates', WHERE WHAT IT READS IS OF BULK AT MOST 1048576: true; the input reads as it did. -/
def relaxEstimatesUptoRow : OpenClaim := { program := "ytjmekjoomdblfaa", sum := "2e4104ba0b2accea167a9641d5c5cb2e65419438d9472ebcf384904b37daea7a", func := "forethought/forethoughtlaw05.RelaxEstimates", spec := "relaxEstimates", inPlace := ["internal/bytealg.IndexByteString"], unfollowed := true, recurses := true, apart := false, narrowed := true }
def RelaxEstimatesUptoSaid : Prop := relaxEstimatesUptoRow.holds Try.pinned (OpenSpec.upto relaxEstimatesSpec)

/-- 'forethoughtlaw05.RelaxPlans', WHERE WHAT IT READS IS OF BULK AT MOST 1048576: true; the input reads as it did. -/
def relaxPlansUptoRow : OpenClaim := { program := "ytjmekjoomdblfaa", sum := "2e4104ba0b2accea167a9641d5c5cb2e65419438d9472ebcf384904b37daea7a", func := "forethought/forethoughtlaw05.RelaxPlans", spec := "relaxPlans", inPlace := ["internal/bytealg.IndexByteString"], unfollowed := true, recurses := true, apart := false, narrowed := true }
def RelaxPlansUptoSaid : Prop := relaxPlansUptoRow.holds Try.pinned (OpenSpec.upto relaxPlansSpec)

/-- 'forethoughtlaw05.RelaxReached', WHERE WHAT IT READS IS OF BULK AT MOST 1048576: true; the input reads as it did. -/
def relaxReachedUptoRow : OpenClaim := { program := "ytjmekjoomdblfaa", sum := "2e4104ba0b2accea167a9641d5c5cb2e65419438d9472ebcf384904b37daea7a", func := "forethought/forethoughtlaw05.RelaxReached", spec := "relaxReached", inPlace := ["internal/bytealg.IndexByteString"], unfollowed := true, recurses := true, apart := false, narrowed := true }
def RelaxReachedUptoSaid : Prop := relaxReachedUptoRow.holds Try.pinned (OpenSpec.upto relaxReachedSpec)

/-- 'forethoughtlaw05.RelaxOwn', WHERE WHAT IT READS IS OF BULK AT MOST 1048576: true; the input reads as it did. -/
def relaxOwnUptoRow : OpenClaim := { program := "ytjmekjoomdblfaa", sum := "2e4104ba0b2accea167a9641d5c5cb2e65419438d9472ebcf384904b37daea7a", func := "forethought/forethoughtlaw05.RelaxOwn", spec := "relaxOwn", inPlace := ["internal/bytealg.IndexByteString"], unfollowed := true, recurses := true, apart := false, narrowed := true }
def RelaxOwnUptoSaid : Prop := relaxOwnUptoRow.holds Try.pinned (OpenSpec.upto relaxOwnSpec)

end Rows
end Go.Proofs.Ytjmekjoomdblfaa

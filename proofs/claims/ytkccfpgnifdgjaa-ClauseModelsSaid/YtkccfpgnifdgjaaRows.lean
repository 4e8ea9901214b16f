/-
  No cell of these rows narrows 'for every input' (looked for: loops, veiled, ifaces, maps, wideKeys, modest, calm, conditions, laid).
  DERIVED. THE GIVEN ROWS OF THIS SEAT. 4 by the template 'for every input the law returns true; each argument reads behind the call as it read before'; 0 by the template 'total and deterministic' (their statements: YtkccfpgnifdgjaaTotals.lean).
  GIVEN WITH THE SEED: the statements are not yours to turn. If you find one false, say at which input.
  Laid BY PROGRAM, IN A SANDBOX (cutbox-rows.mjs): the forced cells as the released guide's own fill.sh prints them over the translation 0e136e0dde6abcee… (all of the seat's roots in one cut). By AI agents, Wed Nov 11 2026. No macro, syntax, notation, axiom, sorry.
-/
import Derived.Test.YtkccfpgnifdgjaaChecked
import GoSem.Claim
import GoSem.ClaimJoined
import GoSem.ClaimMapViews
import Derived.JoinedTies
import Derived.KernelRfl
namespace Go.Proofs.Ytkccfpgnifdgjaa
/- THE CELL 'sum', in the pinned program and in every row, IS THE sha256 OF THE DUMP (.gsa) THAT YtkccfpgnifdgjaaProg.lean LOADS. Nothing in Lean hashes anything: it is a label: what it is worth is what the hold of that sum in a sandbox is worth. -/
noncomputable def Try.pinned : Pinned := { name := "ytkccfpgnifdgjaa", sum := "0e136e0dde6abcee865e9ec432c1d7c031e2802c4116bfa23d74a8979196dfc2", checked := Try.checked }
namespace Rows
def none {H : Type} : Left H := { results := [], args := [] }

/-- 'forethoughtlaw14.ClauseSolves': WHATEVER THE INPUT: true; the input reads as it did. -/
def clauseSolvesSpec : ChangeSpec := { name := "clauseSolves", fn := fun _ => fun
  | [d1, d2] => { results := [.lit (.bool true)], args := [d1, d2] }
  | _ => none }
def clauseSolvesRow : OpenClaim := { program := "ytkccfpgnifdgjaa", sum := "0e136e0dde6abcee865e9ec432c1d7c031e2802c4116bfa23d74a8979196dfc2", func := "forethought/forethoughtlaw14.ClauseSolves", spec := "clauseSolves", inPlace := ["internal/bytealg.IndexByteString"], unfollowed := true, recurses := true, apart := false }
def ClauseSolvesSaid : Prop := clauseSolvesRow.holds Try.pinned (OpenSpec.ofChange clauseSolvesSpec)

/-- ITS FALSE NEIGHBOUR: 'it returns false'. Refute it at one input. -/
def clauseSolvesWrong : ChangeSpec := { name := "clauseSolves", fn := fun _ => fun
  | [d1, d2] => { results := [.lit (.bool false)], args := [d1, d2] }
  | _ => none }
def ClauseSolvesWrongFalsely : Prop := clauseSolvesRow.holds Try.pinned (OpenSpec.ofChange clauseSolvesWrong)

/-- 'forethoughtlaw14.ClauseModels': WHATEVER THE INPUT: true; the input reads as it did. -/
def clauseModelsSpec : ChangeSpec := { name := "clauseModels", fn := fun _ => fun
  | [d1, d2, d3, d4] => { results := [.lit (.bool true)], args := [d1, d2, d3, d4] }
  | _ => none }
def clauseModelsRow : OpenClaim := { program := "ytkccfpgnifdgjaa", sum := "0e136e0dde6abcee865e9ec432c1d7c031e2802c4116bfa23d74a8979196dfc2", func := "forethought/forethoughtlaw14.ClauseModels", spec := "clauseModels", inPlace := ["internal/bytealg.IndexByteString"], unfollowed := true, recurses := true, apart := false }
def ClauseModelsSaid : Prop := clauseModelsRow.holds Try.pinned (OpenSpec.ofChange clauseModelsSpec)

/-- ITS FALSE NEIGHBOUR: 'it returns false'. Refute it at one input. -/
def clauseModelsWrong : ChangeSpec := { name := "clauseModels", fn := fun _ => fun
  | [d1, d2, d3, d4] => { results := [.lit (.bool false)], args := [d1, d2, d3, d4] }
  | _ => none }
def ClauseModelsWrongFalsely : Prop := clauseModelsRow.holds Try.pinned (OpenSpec.ofChange clauseModelsWrong)

/-- 'forethoughtlaw14.ClauseWorks': WHATEVER THE INPUT: true; the input reads as it did. -/
def clauseWorksSpec : ChangeSpec := { name := "clauseWorks", fn := fun _ => fun
  | [d1, d2] => { results := [.lit (.bool true)], args := [d1, d2] }
  | _ => none }
def clauseWorksRow : OpenClaim := { program := "ytkccfpgnifdgjaa", sum := "0e136e0dde6abcee865e9ec432c1d7c031e2802c4116bfa23d74a8979196dfc2", func := "forethought/forethoughtlaw14.ClauseWorks", spec := "clauseWorks", inPlace := ["internal/bytealg.IndexByteString"], unfollowed := true, recurses := true, apart := false }
def ClauseWorksSaid : Prop := clauseWorksRow.holds Try.pinned (OpenSpec.ofChange clauseWorksSpec)

/-- ITS FALSE NEIGHBOUR: 'it returns false'. Refute it at one input. -/
def clauseWorksWrong : ChangeSpec := { name := "clauseWorks", fn := fun _ => fun
  | [d1, d2] => { results := [.lit (.bool false)], args := [d1, d2] }
  | _ => none }
def ClauseWorksWrongFalsely : Prop := clauseWorksRow.holds Try.pinned (OpenSpec.ofChange clauseWorksWrong)

/-- 'forethoughtlaw14.ClauseFinds': WHATEVER THE INPUT: true; the input reads as it did. -/
def clauseFindsSpec : ChangeSpec := { name := "clauseFinds", fn := fun _ => fun
  | [d1, d2] => { results := [.lit (.bool true)], args := [d1, d2] }
  | _ => none }
def clauseFindsRow : OpenClaim := { program := "ytkccfpgnifdgjaa", sum := "0e136e0dde6abcee865e9ec432c1d7c031e2802c4116bfa23d74a8979196dfc2", func := "forethought/forethoughtlaw14.ClauseFinds", spec := "clauseFinds", inPlace := ["internal/bytealg.IndexByteString"], unfollowed := true, recurses := true, apart := false }
def ClauseFindsSaid : Prop := clauseFindsRow.holds Try.pinned (OpenSpec.ofChange clauseFindsSpec)

/-- ITS FALSE NEIGHBOUR: 'it returns false'. Refute it at one input. -/
def clauseFindsWrong : ChangeSpec := { name := "clauseFinds", fn := fun _ => fun
  | [d1, d2] => { results := [.lit (.bool false)], args := [d1, d2] }
  | _ => none }
def ClauseFindsWrongFalsely : Prop := clauseFindsRow.holds Try.pinned (OpenSpec.ofChange clauseFindsWrong)

/- THE SECOND FORM. 'bulk': how many values and letters a reading holds, each counted each time it is reached (what is shared counts as often as it is met; a slice's spare places count too). A statement '..UptoSaid' is the law's where the arguments, and the package variables that the reading takes, are together of bulk at most 1048576: NARROWER than '..Said'. Prove '..Said' where nothing that the law and all that it calls make is longer than what came in: it says more and counts as full. Else prove '..UptoSaid'. A law counts once. -/
mutual
def uptoBulk {H : Type} : DataW H → Nat
  | .lit (.string bytes) => bytes.length + 1
  | .lit _ => 1
  | .nil => 1
  | .ptr d => uptoBulk d + 1
  | .slice elems spare => uptoBulkAll elems + uptoBulkAll spare + 1
  | .agg parts => uptoBulkAll parts + 1
  | .iface _ d => uptoBulk d + 1
  | .map entries => uptoBulkEntries entries + 1
  | .held _ => 1
def uptoBulkAll {H : Type} : List (DataW H) → Nat
  | [] => 0
  | d :: r => uptoBulk d + uptoBulkAll r
def uptoBulkEntries {H : Type} : List (Lit × DataW H) → Nat
  | [] => 0
  | x :: r => uptoBulkEntry x + uptoBulkEntries r
def uptoBulkEntry {H : Type} : Lit × DataW H → Nat
  | (.string bytes, d) => bytes.length + uptoBulk d + 1
  | (_, d) => uptoBulk d + 1
 end
def uptoSmall : (H : Type) → List (DataW H) → Bool := fun _ ds => decide (uptoBulkAll ds ≤ 1048576)
def OpenSpec.upto (s : _root_.Go.ChangeSpec) : _root_.Go.OpenSpec := { _root_.Go.OpenSpec.ofChange s with cond := some uptoSmall }

/-- 'forethoughtlaw14.ClauseSolves', WHERE WHAT IT READS IS OF BULK AT MOST 1048576: true; the input reads as it did. -/
def clauseSolvesUptoRow : OpenClaim := { program := "ytkccfpgnifdgjaa", sum := "0e136e0dde6abcee865e9ec432c1d7c031e2802c4116bfa23d74a8979196dfc2", func := "forethought/forethoughtlaw14.ClauseSolves", spec := "clauseSolves", inPlace := ["internal/bytealg.IndexByteString"], unfollowed := true, recurses := true, apart := false, narrowed := true }
def ClauseSolvesUptoSaid : Prop := clauseSolvesUptoRow.holds Try.pinned (OpenSpec.upto clauseSolvesSpec)

/-- 'forethoughtlaw14.ClauseModels', WHERE WHAT IT READS IS OF BULK AT MOST 1048576: true; the input reads as it did. -/
def clauseModelsUptoRow : OpenClaim := { program := "ytkccfpgnifdgjaa", sum := "0e136e0dde6abcee865e9ec432c1d7c031e2802c4116bfa23d74a8979196dfc2", func := "forethought/forethoughtlaw14.ClauseModels", spec := "clauseModels", inPlace := ["internal/bytealg.IndexByteString"], unfollowed := true, recurses := true, apart := false, narrowed := true }
def ClauseModelsUptoSaid : Prop := clauseModelsUptoRow.holds Try.pinned (OpenSpec.upto clauseModelsSpec)

/-- 'forethoughtlaw14.ClauseWorks', WHERE WHAT IT READS IS OF BULK AT MOST 1048576: true; the input reads as it did. -/
def clauseWorksUptoRow : OpenClaim := { program := "ytkccfpgnifdgjaa", sum := "0e136e0dde6abcee865e9ec432c1d7c031e2802c4116bfa23d74a8979196dfc2", func := "forethought/forethoughtlaw14.ClauseWorks", spec := "clauseWorks", inPlace := ["internal/bytealg.IndexByteString"], unfollowed := true, recurses := true, apart := false, narrowed := true }
def ClauseWorksUptoSaid : Prop := clauseWorksUptoRow.holds Try.pinned (OpenSpec.upto clauseWorksSpec)

/-- 'forethoughtlaw14.ClauseFinds', WHERE WHAT IT READS IS OF BULK AT MOST 1048576: true; the input reads as it did. -/
def clauseFindsUptoRow : OpenClaim := { program := "ytkccfpgnifdgjaa", sum := "0e136e0dde6abcee865e9ec432c1d7c031e2802c4116bfa23d74a8979196dfc2", func := "forethought/forethoughtlaw14.ClauseFinds", spec := "clauseFinds", inPlace := ["internal/bytealg.IndexByteString"], unfollowed := true, recurses := true, apart := false, narrowed := true }
def ClauseFindsUptoSaid : Prop := clauseFindsUptoRow.holds Try.pinned (OpenSpec.upto clauseFindsSpec)

end Rows
end Go.Proofs.Ytkccfpgnifdgjaa

/-
  No cell of these rows narrows 'for every input' (looked for: loops, veiled, ifaces, maps, wideKeys, modest, calm, conditions, laid).
  DERIVED. THE GIVEN ROWS OF THIS SEAT. 9 by the template 'for every input the law returns true; each argument reads behind the call as it read before'; 0 by the template 'total and deterministic' (their statements: YtllnocffmlagjaaTotals.lean).
  GIVEN WITH THE SEED: the statements are not yours to turn. If you find one false, say at which input.
  Laid BY PROGRAM, IN A SANDBOX (cutbox-rows.mjs): the forced cells as the released guide's own fill.sh prints them over the translation 3cfa9366df9b8423… (all of the seat's roots in one cut). By AI agents, Wed Nov 11 2026. No macro, syntax, notation, axiom, sorry.
-/
import Derived.Test.YtllnocffmlagjaaChecked
import GoSem.Claim
import GoSem.ClaimJoined
import GoSem.ClaimMapViews
import Derived.JoinedTies
import Derived.KernelRfl
namespace Go.Proofs.Ytllnocffmlagjaa
/- THE CELL 'sum', in the pinned program and in every row, IS THE sha256 OF THE DUMP (.gsa) THAT YtllnocffmlagjaaProg.lean LOADS. Nothing in Lean hashes anything: it is a label: what it is worth is what the hold of that sum in a sandbox is worth. -/
noncomputable def Try.pinned : Pinned := { name := "ytllnocffmlagjaa", sum := "3cfa9366df9b8423a0e55a0d256e619acbc86cf6753efc622dd84188861bff88", checked := Try.checked }
namespace Rows
def none {H : Type} : Left H := { results := [], args := [] }

/-- 'largesselaw07.HashSums': WHATEVER THE INPUT: true; the input reads as it did. -/
def hashSumsSpec : ChangeSpec := { name := "hashSums", fn := fun _ => fun
  | [d] => { results := [.lit (.bool true)], args := [d] }
  | _ => none }
def hashSumsRow : OpenClaim := { program := "ytllnocffmlagjaa", sum := "3cfa9366df9b8423a0e55a0d256e619acbc86cf6753efc622dd84188861bff88", func := "largesse/largesselaw07.HashSums", spec := "hashSums", unfollowed := true, recurses := true, apart := false }
def HashSumsSaid : Prop := hashSumsRow.holds Try.pinned (OpenSpec.ofChange hashSumsSpec)

/-- ITS FALSE NEIGHBOUR: 'it returns false'. Refute it at one input. -/
def hashSumsWrong : ChangeSpec := { name := "hashSums", fn := fun _ => fun
  | [d] => { results := [.lit (.bool false)], args := [d] }
  | _ => none }
def HashSumsWrongFalsely : Prop := hashSumsRow.holds Try.pinned (OpenSpec.ofChange hashSumsWrong)

/-- 'largesselaw07.HashParts': WHATEVER THE INPUT: true; the input reads as it did. -/
def hashPartsSpec : ChangeSpec := { name := "hashParts", fn := fun _ => fun
  | [d] => { results := [.lit (.bool true)], args := [d] }
  | _ => none }
def hashPartsRow : OpenClaim := { program := "ytllnocffmlagjaa", sum := "3cfa9366df9b8423a0e55a0d256e619acbc86cf6753efc622dd84188861bff88", func := "largesse/largesselaw07.HashParts", spec := "hashParts", unfollowed := true, recurses := true, apart := false }
def HashPartsSaid : Prop := hashPartsRow.holds Try.pinned (OpenSpec.ofChange hashPartsSpec)

/-- ITS FALSE NEIGHBOUR: 'it returns false'. Refute it at one input. -/
def hashPartsWrong : ChangeSpec := { name := "hashParts", fn := fun _ => fun
  | [d] => { results := [.lit (.bool false)], args := [d] }
  | _ => none }
def HashPartsWrongFalsely : Prop := hashPartsRow.holds Try.pinned (OpenSpec.ofChange hashPartsWrong)

/-- 'largesselaw04.MatrixRules': WHATEVER THE INPUT: true; the input reads as it did. -/
def matrixRulesSpec : ChangeSpec := { name := "matrixRules", fn := fun _ => fun
  | [d1, d2, d3, d4, d5, d6] => { results := [.lit (.bool true)], args := [d1, d2, d3, d4, d5, d6] }
  | _ => none }
def matrixRulesRow : OpenClaim := { program := "ytllnocffmlagjaa", sum := "3cfa9366df9b8423a0e55a0d256e619acbc86cf6753efc622dd84188861bff88", func := "largesse/largesselaw04.MatrixRules", spec := "matrixRules", unfollowed := true, recurses := true, apart := false }
def MatrixRulesSaid : Prop := matrixRulesRow.holds Try.pinned (OpenSpec.ofChange matrixRulesSpec)

/-- ITS FALSE NEIGHBOUR: 'it returns false'. Refute it at one input. -/
def matrixRulesWrong : ChangeSpec := { name := "matrixRules", fn := fun _ => fun
  | [d1, d2, d3, d4, d5, d6] => { results := [.lit (.bool false)], args := [d1, d2, d3, d4, d5, d6] }
  | _ => none }
def MatrixRulesWrongFalsely : Prop := matrixRulesRow.holds Try.pinned (OpenSpec.ofChange matrixRulesWrong)

/-- 'largesselaw32.TallyTrees': WHATEVER THE INPUT: true; the input reads as it did. -/
def tallyTreesSpec : ChangeSpec := { name := "tallyTrees", fn := fun _ => fun
  | [d1, d2] => { results := [.lit (.bool true)], args := [d1, d2] }
  | _ => none }
def tallyTreesRow : OpenClaim := { program := "ytllnocffmlagjaa", sum := "3cfa9366df9b8423a0e55a0d256e619acbc86cf6753efc622dd84188861bff88", func := "largesse/largesselaw32.TallyTrees", spec := "tallyTrees", unfollowed := true, recurses := true, apart := false }
def TallyTreesSaid : Prop := tallyTreesRow.holds Try.pinned (OpenSpec.ofChange tallyTreesSpec)

/-- ITS FALSE NEIGHBOUR: 'it returns false'. Refute it at one input. -/
def tallyTreesWrong : ChangeSpec := { name := "tallyTrees", fn := fun _ => fun
  | [d1, d2] => { results := [.lit (.bool false)], args := [d1, d2] }
  | _ => none }
def TallyTreesWrongFalsely : Prop := tallyTreesRow.holds Try.pinned (OpenSpec.ofChange tallyTreesWrong)

/-- 'largesselaw04.MatrixSolves': WHATEVER THE INPUT: true; the input reads as it did. -/
def matrixSolvesSpec : ChangeSpec := { name := "matrixSolves", fn := fun _ => fun
  | [d1, d2, d3, d4] => { results := [.lit (.bool true)], args := [d1, d2, d3, d4] }
  | _ => none }
def matrixSolvesRow : OpenClaim := { program := "ytllnocffmlagjaa", sum := "3cfa9366df9b8423a0e55a0d256e619acbc86cf6753efc622dd84188861bff88", func := "largesse/largesselaw04.MatrixSolves", spec := "matrixSolves", unfollowed := true, recurses := true, apart := false }
def MatrixSolvesSaid : Prop := matrixSolvesRow.holds Try.pinned (OpenSpec.ofChange matrixSolvesSpec)

/-- ITS FALSE NEIGHBOUR: 'it returns false'. Refute it at one input. -/
def matrixSolvesWrong : ChangeSpec := { name := "matrixSolves", fn := fun _ => fun
  | [d1, d2, d3, d4] => { results := [.lit (.bool false)], args := [d1, d2, d3, d4] }
  | _ => none }
def MatrixSolvesWrongFalsely : Prop := matrixSolvesRow.holds Try.pinned (OpenSpec.ofChange matrixSolvesWrong)

/-- 'largesselaw32.TallyAdds': WHATEVER THE INPUT: true; the input reads as it did. -/
def tallyAddsSpec : ChangeSpec := { name := "tallyAdds", fn := fun _ => fun
  | [d] => { results := [.lit (.bool true)], args := [d] }
  | _ => none }
def tallyAddsRow : OpenClaim := { program := "ytllnocffmlagjaa", sum := "3cfa9366df9b8423a0e55a0d256e619acbc86cf6753efc622dd84188861bff88", func := "largesse/largesselaw32.TallyAdds", spec := "tallyAdds", unfollowed := true, recurses := true, apart := false }
def TallyAddsSaid : Prop := tallyAddsRow.holds Try.pinned (OpenSpec.ofChange tallyAddsSpec)

/-- ITS FALSE NEIGHBOUR: 'it returns false'. Refute it at one input. -/
def tallyAddsWrong : ChangeSpec := { name := "tallyAdds", fn := fun _ => fun
  | [d] => { results := [.lit (.bool false)], args := [d] }
  | _ => none }
def TallyAddsWrongFalsely : Prop := tallyAddsRow.holds Try.pinned (OpenSpec.ofChange tallyAddsWrong)

/-- 'largesselaw04.MatrixInverts': WHATEVER THE INPUT: true; the input reads as it did. -/
def matrixInvertsSpec : ChangeSpec := { name := "matrixInverts", fn := fun _ => fun
  | [d1, d2, d3] => { results := [.lit (.bool true)], args := [d1, d2, d3] }
  | _ => none }
def matrixInvertsRow : OpenClaim := { program := "ytllnocffmlagjaa", sum := "3cfa9366df9b8423a0e55a0d256e619acbc86cf6753efc622dd84188861bff88", func := "largesse/largesselaw04.MatrixInverts", spec := "matrixInverts", unfollowed := true, recurses := true, apart := false }
def MatrixInvertsSaid : Prop := matrixInvertsRow.holds Try.pinned (OpenSpec.ofChange matrixInvertsSpec)

/-- ITS FALSE NEIGHBOUR: 'it returns false'. Refute it at one input. -/
def matrixInvertsWrong : ChangeSpec := { name := "matrixInverts", fn := fun _ => fun
  | [d1, d2, d3] => { results := [.lit (.bool false)], args := [d1, d2, d3] }
  | _ => none }
def MatrixInvertsWrongFalsely : Prop := matrixInvertsRow.holds Try.pinned (OpenSpec.ofChange matrixInvertsWrong)

/-- 'largesselaw31.SealMarks': WHATEVER THE INPUT: true; the input reads as it did. -/
def sealMarksSpec : ChangeSpec := { name := "sealMarks", fn := fun _ => fun
  | [d1, d2, d3] => { results := [.lit (.bool true)], args := [d1, d2, d3] }
  | _ => none }
def sealMarksRow : OpenClaim := { program := "ytllnocffmlagjaa", sum := "3cfa9366df9b8423a0e55a0d256e619acbc86cf6753efc622dd84188861bff88", func := "largesse/largesselaw31.SealMarks", spec := "sealMarks", inPlace := ["internal/bytealg.MakeNoZero"], unfollowed := true, recurses := true, apart := false }
def SealMarksSaid : Prop := sealMarksRow.holds Try.pinned (OpenSpec.ofChange sealMarksSpec)

/-- ITS FALSE NEIGHBOUR: 'it returns false'. Refute it at one input. -/
def sealMarksWrong : ChangeSpec := { name := "sealMarks", fn := fun _ => fun
  | [d1, d2, d3] => { results := [.lit (.bool false)], args := [d1, d2, d3] }
  | _ => none }
def SealMarksWrongFalsely : Prop := sealMarksRow.holds Try.pinned (OpenSpec.ofChange sealMarksWrong)

/-- 'largesselaw04.MatrixNamed': WHATEVER THE INPUT: true; the input reads as it did. -/
def matrixNamedSpec : ChangeSpec := { name := "matrixNamed", fn := fun _ => fun
  | [d1, d2, d3] => { results := [.lit (.bool true)], args := [d1, d2, d3] }
  | _ => none }
def matrixNamedRow : OpenClaim := { program := "ytllnocffmlagjaa", sum := "3cfa9366df9b8423a0e55a0d256e619acbc86cf6753efc622dd84188861bff88", func := "largesse/largesselaw04.MatrixNamed", spec := "matrixNamed", unfollowed := true, recurses := true, apart := false }
def MatrixNamedSaid : Prop := matrixNamedRow.holds Try.pinned (OpenSpec.ofChange matrixNamedSpec)

/-- ITS FALSE NEIGHBOUR: 'it returns false'. Refute it at one input. -/
def matrixNamedWrong : ChangeSpec := { name := "matrixNamed", fn := fun _ => fun
  | [d1, d2, d3] => { results := [.lit (.bool false)], args := [d1, d2, d3] }
  | _ => none }
def MatrixNamedWrongFalsely : Prop := matrixNamedRow.holds Try.pinned (OpenSpec.ofChange matrixNamedWrong)

/- THE SECOND FORM. 'bulk': how many values and letters a reading holds, each counted each time it is reached (what is shared counts as often as it is met; a slice's spare places count too). A statement '..UptoSaid' is the law's where the arguments, and the package variables that the reading takes, are together of bulk at most 1048576: NARROWER than '..Said'. Prove '..Said' where nothing that the law and all that it calls make is longer than what came in: it says more and counts as full. Else prove '..UptoSaid'. A law counts once. -/
mutual
def uptoBulk {H : Type} : DataW H → Nat
  | .lit (.string bytes) => bytes.length + 1
  | .lit _ => 1
  | .nil => 1
  | .ptr d => uptoBulk d + 1
  | .slice elems spare => uptoBulkAll elems + uptoBulkAll spare + 1
  | .agg parts => uptoBulkAll parts + 1
  | .iface _ d => uptoBulk d + 1
  | .map entries => uptoBulkEntries entries + 1
  | .held _ => 1
def uptoBulkAll {H : Type} : List (DataW H) → Nat
  | [] => 0
  | d :: r => uptoBulk d + uptoBulkAll r
def uptoBulkEntries {H : Type} : List (Lit × DataW H) → Nat
  | [] => 0
  | x :: r => uptoBulkEntry x + uptoBulkEntries r
def uptoBulkEntry {H : Type} : Lit × DataW H → Nat
  | (.string bytes, d) => bytes.length + uptoBulk d + 1
  | (_, d) => uptoBulk d + 1
 end
def uptoSmall : (H : Type) → List (DataW H) → Bool := fun _ ds => decide (uptoBulkAll ds ≤ 1048576)
def OpenSpec.upto (s : _root_.Go.ChangeSpec) : _root_.Go.OpenSpec := { _root_.Go.OpenSpec.ofChange s with cond := some uptoSmall }

/-- 'largesselaw07.HashSums', WHERE WHAT IT READS IS OF BULK AT MOST 1048576: true; the input reads as it did. -/
def hashSumsUptoRow : OpenClaim := { program := "ytllnocffmlagjaa", sum := "3cfa9366df9b8423a0e55a0d256e619acbc86cf6753efc622dd84188861bff88", func := "largesse/largesselaw07.HashSums", spec := "hashSums", unfollowed := true, recurses := true, apart := false, narrowed := true }
def HashSumsUptoSaid : Prop := hashSumsUptoRow.holds Try.pinned (OpenSpec.upto hashSumsSpec)

/-- 'largesselaw07.HashParts', WHERE WHAT IT READS IS OF BULK AT MOST 1048576: true; the input reads as it did. -/
def hashPartsUptoRow : OpenClaim := { program := "ytllnocffmlagjaa", sum := "3cfa9366df9b8423a0e55a0d256e619acbc86cf6753efc622dd84188861bff88", func := "largesse/largesselaw07.HashParts", spec := "hashParts", unfollowed := true, recurses := true, apart := false, narrowed := true }
def HashPartsUptoSaid : Prop := hashPartsUptoRow.holds Try.pinned (OpenSpec.upto hashPartsSpec)

/-- 'largesselaw04.MatrixRules', WHERE WHAT IT READS IS OF BULK AT MOST 1048576: true; the input reads as it did. -/
def matrixRulesUptoRow : OpenClaim := { program := "ytllnocffmlagjaa", sum := "3cfa9366df9b8423a0e55a0d256e619acbc86cf6753efc622dd84188861bff88", func := "largesse/largesselaw04.MatrixRules", spec := "matrixRules", unfollowed := true, recurses := true, apart := false, narrowed := true }
def MatrixRulesUptoSaid : Prop := matrixRulesUptoRow.holds Try.pinned (OpenSpec.upto matrixRulesSpec)

/-- 'largesselaw32.TallyTrees', WHERE WHAT IT READS IS OF BULK AT MOST 1048576: true; the input reads as it did. -/
def tallyTreesUptoRow : OpenClaim := { program := "ytllnocffmlagjaa", sum := "3cfa9366df9b8423a0e55a0d256e619acbc86cf6753efc622dd84188861bff88", func := "largesse/largesselaw32.TallyTrees", spec := "tallyTrees", unfollowed := true, recurses := true, apart := false, narrowed := true }
def TallyTreesUptoSaid : Prop := tallyTreesUptoRow.holds Try.pinned (OpenSpec.upto tallyTreesSpec)

/-- 'largesselaw04.MatrixSolves', WHERE WHAT IT READS IS OF BULK AT MOST 1048576: true; the input reads as it did. -/
def matrixSolvesUptoRow : OpenClaim := { program := "ytllnocffmlagjaa", sum := "3cfa9366df9b8423a0e55a0d256e619acbc86cf6753efc622dd84188861bff88", func := "largesse/largesselaw04.MatrixSolves", spec := "matrixSolves", unfollowed := true, recurses := true, apart := false, narrowed := true }
def MatrixSolvesUptoSaid : Prop := matrixSolvesUptoRow.holds Try.pinned (OpenSpec.upto matrixSolvesSpec)

/-- 'largesselaw32.TallyAdds', WHERE WHAT IT READS IS OF BULK AT MOST 1048576: true; the input reads as it did. -/
def tallyAddsUptoRow : OpenClaim := { program := "ytllnocffmlagjaa", sum := "3cfa9366df9b8423a0e55a0d256e619acbc86cf6753efc622dd84188861bff88", func := "largesse/largesselaw32.TallyAdds", spec := "tallyAdds", unfollowed := true, recurses := true, apart := false, narrowed := true }
def TallyAddsUptoSaid : Prop := tallyAddsUptoRow.holds Try.pinned (OpenSpec.upto tallyAddsSpec)

/-- 'largesselaw04.MatrixInverts', WHERE WHAT IT READS IS OF BULK AT MOST 1048576: true; the input reads as it did. -/
def matrixInvertsUptoRow : OpenClaim := { program := "ytllnocffmlagjaa", sum := "3cfa9366df9b8423a0e55a0d256e619acbc86cf6753efc622dd84188861bff88", func := "largesse/largesselaw04.MatrixInverts", spec := "matrixInverts", unfollowed := true, recurses := true, apart := false, narrowed := true }
def MatrixInvertsUptoSaid : Prop := matrixInvertsUptoRow.holds Try.pinned (OpenSpec.upto matrixInvertsSpec)

/-- 'largesselaw31.SealMarks', WHERE WHAT IT READS IS OF BULK AT MOST 1048576: true; the input reads as it did. -/
def sealMarksUptoRow : OpenClaim := { program := "ytllnocffmlagjaa", sum := "3cfa9366df9b8423a0e55a0d256e619acbc86cf6753efc622dd84188861bff88", func := "largesse/largesselaw31.SealMarks", spec := "sealMarks", inPlace := ["internal/bytealg.MakeNoZero"], unfollowed := true, recurses := true, apart := false, narrowed := true }
def SealMarksUptoSaid : Prop := sealMarksUptoRow.holds Try.pinned (OpenSpec.upto sealMarksSpec)

/-- 'largesselaw04.MatrixNamed', WHERE WHAT IT READS IS OF BULK AT MOST 1048576: true; the input reads as it did. -/
def matrixNamedUptoRow : OpenClaim := { program := "ytllnocffmlagjaa", sum := "3cfa9366df9b8423a0e55a0d256e619acbc86cf6753efc622dd84188861bff88", func := "largesse/largesselaw04.MatrixNamed", spec := "matrixNamed", unfollowed := true, recurses := true, apart := false, narrowed := true }
def MatrixNamedUptoSaid : Prop := matrixNamedUptoRow.holds Try.pinned (OpenSpec.upto matrixNamedSpec)

end Rows
end Go.Proofs.Ytllnocffmlagjaa

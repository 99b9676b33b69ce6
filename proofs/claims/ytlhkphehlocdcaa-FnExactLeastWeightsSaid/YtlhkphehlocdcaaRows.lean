/-
  No cell of these rows narrows 'for every input' (looked for: loops, veiled, ifaces, maps, wideKeys, modest, calm, conditions, laid).
  DERIVED. THE GIVEN ROWS OF THIS SEAT. 4 by the template 'for every input the law returns true; each argument reads behind the call as it read before'; 0 by the template 'total and deterministic' (their statements: YtlhkphehlocdcaaTotals.lean).
  GIVEN WITH THE SEED: the statements are not yours to turn. If you find one false, say at which input.
  Laid BY PROGRAM, IN A SANDBOX (cutbox-rows.mjs): the forced cells as the released guide's own fill.sh prints them over the translation 04716edeca6b5736… (all of the seat's roots in one cut). By AI agents, Wed Nov 11 2026. No macro, syntax, notation, axiom, sorry.
-/
import Derived.Test.YtlhkphehlocdcaaChecked
import GoSem.Claim
import GoSem.ClaimJoined
import GoSem.ClaimMapViews
import Derived.JoinedTies
import Derived.KernelRfl
namespace Go.Proofs.Ytlhkphehlocdcaa
/- THE CELL 'sum', in the pinned program and in every row, IS THE sha256 OF THE DUMP (.gsa) THAT YtlhkphehlocdcaaProg.lean LOADS. Nothing in Lean hashes anything: it is a label: what it is worth is what the hold of that sum in a sandbox is worth. -/
noncomputable def Try.pinned : Pinned := { name := "ytlhkphehlocdcaa", sum := "04716edeca6b573663daab6b8f39a28f01231cd6e70b7d50d7634b8675acdd1a", checked := Try.checked }
namespace Rows
def none {H : Type} : Left H := { results := [], args := [] }

/-- 'laws.FnExactLeastCommittee': WHATEVER THE INPUT: true; the input reads as it did. -/
def fnExactLeastCommitteeSpec : ChangeSpec := { name := "fnExactLeastCommittee", fn := fun _ => fun
  | [d] => { results := [.lit (.bool true)], args := [d] }
  | _ => none }
def fnExactLeastCommitteeRow : OpenClaim := { program := "ytlhkphehlocdcaa", sum := "04716edeca6b573663daab6b8f39a28f01231cd6e70b7d50d7634b8675acdd1a", func := "loop.example/g01275/laws.FnExactLeastCommittee", spec := "fnExactLeastCommittee", unfollowed := true, recurses := true, apart := false }
def FnExactLeastCommitteeSaid : Prop := fnExactLeastCommitteeRow.holds Try.pinned (OpenSpec.ofChange fnExactLeastCommitteeSpec)

/-- ITS FALSE NEIGHBOUR: 'it returns false'. Refute it at one input. -/
def fnExactLeastCommitteeWrong : ChangeSpec := { name := "fnExactLeastCommittee", fn := fun _ => fun
  | [d] => { results := [.lit (.bool false)], args := [d] }
  | _ => none }
def FnExactLeastCommitteeWrongFalsely : Prop := fnExactLeastCommitteeRow.holds Try.pinned (OpenSpec.ofChange fnExactLeastCommitteeWrong)

/-- 'laws.FnExactIsLeastCommittee': WHATEVER THE INPUT: true; the input reads as it did. -/
def fnExactIsLeastCommitteeSpec : ChangeSpec := { name := "fnExactIsLeastCommittee", fn := fun _ => fun
  | [d] => { results := [.lit (.bool true)], args := [d] }
  | _ => none }
def fnExactIsLeastCommitteeRow : OpenClaim := { program := "ytlhkphehlocdcaa", sum := "04716edeca6b573663daab6b8f39a28f01231cd6e70b7d50d7634b8675acdd1a", func := "loop.example/g01275/laws.FnExactIsLeastCommittee", spec := "fnExactIsLeastCommittee", unfollowed := true, recurses := true, apart := false }
def FnExactIsLeastCommitteeSaid : Prop := fnExactIsLeastCommitteeRow.holds Try.pinned (OpenSpec.ofChange fnExactIsLeastCommitteeSpec)

/-- ITS FALSE NEIGHBOUR: 'it returns false'. Refute it at one input. -/
def fnExactIsLeastCommitteeWrong : ChangeSpec := { name := "fnExactIsLeastCommittee", fn := fun _ => fun
  | [d] => { results := [.lit (.bool false)], args := [d] }
  | _ => none }
def FnExactIsLeastCommitteeWrongFalsely : Prop := fnExactIsLeastCommitteeRow.holds Try.pinned (OpenSpec.ofChange fnExactIsLeastCommitteeWrong)

/-- 'laws.FnExactLeastTotal': WHATEVER THE INPUT: true; the input reads as it did. -/
def fnExactLeastTotalSpec : ChangeSpec := { name := "fnExactLeastTotal", fn := fun _ => fun
  | [d] => { results := [.lit (.bool true)], args := [d] }
  | _ => none }
def fnExactLeastTotalRow : OpenClaim := { program := "ytlhkphehlocdcaa", sum := "04716edeca6b573663daab6b8f39a28f01231cd6e70b7d50d7634b8675acdd1a", func := "loop.example/g01275/laws.FnExactLeastTotal", spec := "fnExactLeastTotal", unfollowed := true, recurses := true, apart := false }
def FnExactLeastTotalSaid : Prop := fnExactLeastTotalRow.holds Try.pinned (OpenSpec.ofChange fnExactLeastTotalSpec)

/-- ITS FALSE NEIGHBOUR: 'it returns false'. Refute it at one input. -/
def fnExactLeastTotalWrong : ChangeSpec := { name := "fnExactLeastTotal", fn := fun _ => fun
  | [d] => { results := [.lit (.bool false)], args := [d] }
  | _ => none }
def FnExactLeastTotalWrongFalsely : Prop := fnExactLeastTotalRow.holds Try.pinned (OpenSpec.ofChange fnExactLeastTotalWrong)

/-- 'laws.FnExactLeastWeights': WHATEVER THE INPUT: true; the input reads as it did. -/
def fnExactLeastWeightsSpec : ChangeSpec := { name := "fnExactLeastWeights", fn := fun _ => fun
  | [d] => { results := [.lit (.bool true)], args := [d] }
  | _ => none }
def fnExactLeastWeightsRow : OpenClaim := { program := "ytlhkphehlocdcaa", sum := "04716edeca6b573663daab6b8f39a28f01231cd6e70b7d50d7634b8675acdd1a", func := "loop.example/g01275/laws.FnExactLeastWeights", spec := "fnExactLeastWeights", unfollowed := true, recurses := true, apart := false }
def FnExactLeastWeightsSaid : Prop := fnExactLeastWeightsRow.holds Try.pinned (OpenSpec.ofChange fnExactLeastWeightsSpec)

/-- ITS FALSE NEIGHBOUR: 'it returns false'. Refute it at one input. -/
def fnExactLeastWeightsWrong : ChangeSpec := { name := "fnExactLeastWeights", fn := fun _ => fun
  | [d] => { results := [.lit (.bool false)], args := [d] }
  | _ => none }
def FnExactLeastWeightsWrongFalsely : Prop := fnExactLeastWeightsRow.holds Try.pinned (OpenSpec.ofChange fnExactLeastWeightsWrong)

/- THE SECOND FORM. 'bulk': how many values and letters a reading holds, each counted each time it is reached (what is shared counts as often as it is met; a slice's spare places count too). A statement '..UptoSaid' is the law's where the arguments, and the package variables that the reading takes, are together of bulk at most 1048576: NARROWER than '..Said'. Prove '..Said' where nothing that the law and all that it calls make is longer than what came in: it says more and counts as full. Else prove '..UptoSaid'. A law counts once. -/
mutual
def uptoBulk {H : Type} : DataW H → Nat
  | .lit (.string bytes) => bytes.length + 1
  | .lit _ => 1
  | .nil => 1
  | .ptr d => uptoBulk d + 1
  | .slice elems spare => uptoBulkAll elems + uptoBulkAll spare + 1
  | .agg parts => uptoBulkAll parts + 1
  | .iface _ d => uptoBulk d + 1
  | .map entries => uptoBulkEntries entries + 1
  | .held _ => 1
def uptoBulkAll {H : Type} : List (DataW H) → Nat
  | [] => 0
  | d :: r => uptoBulk d + uptoBulkAll r
def uptoBulkEntries {H : Type} : List (Lit × DataW H) → Nat
  | [] => 0
  | x :: r => uptoBulkEntry x + uptoBulkEntries r
def uptoBulkEntry {H : Type} : Lit × DataW H → Nat
  | (.string bytes, d) => bytes.length + uptoBulk d + 1
  | (_, d) => uptoBulk d + 1
 end
def uptoSmall : (H : Type) → List (DataW H) → Bool := fun _ ds => decide (uptoBulkAll ds ≤ 1048576)
def OpenSpec.upto (s : _root_.Go.ChangeSpec) : _root_.Go.OpenSpec := { _root_.Go.OpenSpec.ofChange s with cond := some uptoSmall }

/-- 'laws.FnExactLeastCommittee', WHERE WHAT IT READS IS OF BULK AT MOST 1048576: true; the input reads as it did. -/
def fnExactLeastCommitteeUptoRow : OpenClaim := { program := "ytlhkphehlocdcaa", sum := "04716edeca6b573663daab6b8f39a28f01231cd6e70b7d50d7634b8675acdd1a", func := "loop.example/g01275/laws.FnExactLeastCommittee", spec := "fnExactLeastCommittee", unfollowed := true, recurses := true, apart := false, narrowed := true }
def FnExactLeastCommitteeUptoSaid : Prop := fnExactLeastCommitteeUptoRow.holds Try.pinned (OpenSpec.upto fnExactLeastCommitteeSpec)

/-- 'laws.FnExactIsLeastCommittee', WHERE WHAT IT READS IS OF BULK AT MOST 1048576: true; the input reads as it did. -/
def fnExactIsLeastCommitteeUptoRow : OpenClaim := { program := "ytlhkphehlocdcaa", sum := "04716edeca6b573663daab6b8f39a28f01231cd6e70b7d50d7634b8675acdd1a", func := "loop.example/g01275/laws.FnExactIsLeastCommittee", spec := "fnExactIsLeastCommittee", unfollowed := true, recurses := true, apart := false, narrowed := true }
def FnExactIsLeastCommitteeUptoSaid : Prop := fnExactIsLeastCommitteeUptoRow.holds Try.pinned (OpenSpec.upto fnExactIsLeastCommitteeSpec)

/-- 'laws.FnExactLeastTotal', WHERE WHAT IT READS IS OF BULK AT MOST 1048576: true; the input reads as it did. -/
def fnExactLeastTotalUptoRow : OpenClaim := { program := "ytlhkphehlocdcaa", sum := "04716edeca6b573663daab6b8f39a28f01231cd6e70b7d50d7634b8675acdd1a", func := "loop.example/g01275/laws.FnExactLeastTotal", spec := "fnExactLeastTotal", unfollowed := true, recurses := true, apart := false, narrowed := true }
def FnExactLeastTotalUptoSaid : Prop := fnExactLeastTotalUptoRow.holds Try.pinned (OpenSpec.upto fnExactLeastTotalSpec)

/-- 'laws.FnExactLeastWeights', WHERE WHAT IT READS IS OF BULK AT MOST 1048576: true; the input reads as it did. -/
def fnExactLeastWeightsUptoRow : OpenClaim := { program := "ytlhkphehlocdcaa", sum := "04716edeca6b573663daab6b8f39a28f01231cd6e70b7d50d7634b8675acdd1a", func := "loop.example/g01275/laws.FnExactLeastWeights", spec := "fnExactLeastWeights", unfollowed := true, recurses := true, apart := false, narrowed := true }
def FnExactLeastWeightsUptoSaid : Prop := fnExactLeastWeightsUptoRow.holds Try.pinned (OpenSpec.upto fnExactLeastWeightsSpec)

end Rows
end Go.Proofs.Ytlhkphehlocdcaa

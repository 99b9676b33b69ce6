/-
  No cell of these rows narrows 'for every input' (looked for: loops, veiled, ifaces, maps, wideKeys, modest, calm, conditions, laid).
  DERIVED. THE GIVEN ROWS OF THIS SEAT. 6 by the template 'for every input the law returns true; each argument reads behind the call as it read before'; 0 by the template 'total and deterministic' (their statements: YtaacaifiiedoiaaTotals.lean).
  GIVEN WITH THE SEED: the statements are not yours to turn. If you find one false, say at which input.
  Laid BY PROGRAM, IN A SANDBOX (cutbox-rows.mjs): the forced cells as the released guide's own fill.sh prints them over the translation 7189bb71735c4d6f… (all of the seat's roots in one cut). By AI agents, Wed Nov 11 2026. No macro, syntax, notation, axiom, sorry.
-/
import Derived.Test.YtaacaifiiedoiaaChecked
import GoSem.Claim
import GoSem.ClaimJoined
import GoSem.ClaimMapViews
import Derived.JoinedTies
import Derived.KernelRfl
namespace Go.Proofs.Ytaacaifiiedoiaa
/- THE CELL 'sum', in the pinned program and in every row, IS THE sha256 OF THE DUMP (.gsa) THAT YtaacaifiiedoiaaProg.lean LOADS. Nothing in Lean hashes anything: it is a label: what it is worth is what the hold of that sum in a sandbox is worth. -/
noncomputable def Try.pinned : Pinned := { name := "ytaacaifiiedoiaa", sum := "7189bb71735c4d6f3a1d63c9bcd2eef9b2c9956e0b0f6ec8e415609fe1427d18", checked := Try.checked }
namespace Rows
def none {H : Type} : Left H := { results := [], args := [] }

/-- 'laws.FnExactMakePuzzle': WHATEVER THE INPUT: true; the input reads as it did. -/
def fnExactMakePuzzleSpec : ChangeSpec := { name := "fnExactMakePuzzle", fn := fun _ => fun
  | [d1, d2, d3] => { results := [.lit (.bool true)], args := [d1, d2, d3] }
  | _ => none }
def fnExactMakePuzzleRow : OpenClaim := { program := "ytaacaifiiedoiaa", sum := "7189bb71735c4d6f3a1d63c9bcd2eef9b2c9956e0b0f6ec8e415609fe1427d18", func := "loop.example/g01275/laws.FnExactMakePuzzle", spec := "fnExactMakePuzzle", unfollowed := true, recurses := true, apart := false }
def FnExactMakePuzzleSaid : Prop := fnExactMakePuzzleRow.holds Try.pinned (OpenSpec.ofChange fnExactMakePuzzleSpec)

/-- ITS FALSE NEIGHBOUR: 'it returns false'. Refute it at one input. -/
def fnExactMakePuzzleWrong : ChangeSpec := { name := "fnExactMakePuzzle", fn := fun _ => fun
  | [d1, d2, d3] => { results := [.lit (.bool false)], args := [d1, d2, d3] }
  | _ => none }
def FnExactMakePuzzleWrongFalsely : Prop := fnExactMakePuzzleRow.holds Try.pinned (OpenSpec.ofChange fnExactMakePuzzleWrong)

/-- 'laws.FnExactShiftGreatest': WHATEVER THE INPUT: true; the input reads as it did. -/
def fnExactShiftGreatestSpec : ChangeSpec := { name := "fnExactShiftGreatest", fn := fun _ => fun
  | [d] => { results := [.lit (.bool true)], args := [d] }
  | _ => none }
def fnExactShiftGreatestRow : OpenClaim := { program := "ytaacaifiiedoiaa", sum := "7189bb71735c4d6f3a1d63c9bcd2eef9b2c9956e0b0f6ec8e415609fe1427d18", func := "loop.example/g01275/laws.FnExactShiftGreatest", spec := "fnExactShiftGreatest", unfollowed := true, recurses := true, apart := false }
def FnExactShiftGreatestSaid : Prop := fnExactShiftGreatestRow.holds Try.pinned (OpenSpec.ofChange fnExactShiftGreatestSpec)

/-- ITS FALSE NEIGHBOUR: 'it returns false'. Refute it at one input. -/
def fnExactShiftGreatestWrong : ChangeSpec := { name := "fnExactShiftGreatest", fn := fun _ => fun
  | [d] => { results := [.lit (.bool false)], args := [d] }
  | _ => none }
def FnExactShiftGreatestWrongFalsely : Prop := fnExactShiftGreatestRow.holds Try.pinned (OpenSpec.ofChange fnExactShiftGreatestWrong)

/-- 'laws.FnExactShiftLeast': WHATEVER THE INPUT: true; the input reads as it did. -/
def fnExactShiftLeastSpec : ChangeSpec := { name := "fnExactShiftLeast", fn := fun _ => fun
  | [d] => { results := [.lit (.bool true)], args := [d] }
  | _ => none }
def fnExactShiftLeastRow : OpenClaim := { program := "ytaacaifiiedoiaa", sum := "7189bb71735c4d6f3a1d63c9bcd2eef9b2c9956e0b0f6ec8e415609fe1427d18", func := "loop.example/g01275/laws.FnExactShiftLeast", spec := "fnExactShiftLeast", unfollowed := true, recurses := true, apart := false }
def FnExactShiftLeastSaid : Prop := fnExactShiftLeastRow.holds Try.pinned (OpenSpec.ofChange fnExactShiftLeastSpec)

/-- ITS FALSE NEIGHBOUR: 'it returns false'. Refute it at one input. -/
def fnExactShiftLeastWrong : ChangeSpec := { name := "fnExactShiftLeast", fn := fun _ => fun
  | [d] => { results := [.lit (.bool false)], args := [d] }
  | _ => none }
def FnExactShiftLeastWrongFalsely : Prop := fnExactShiftLeastRow.holds Try.pinned (OpenSpec.ofChange fnExactShiftLeastWrong)

/-- 'laws.FnExactStandsSwaps': WHATEVER THE INPUT: true; the input reads as it did. -/
def fnExactStandsSwapsSpec : ChangeSpec := { name := "fnExactStandsSwaps", fn := fun _ => fun
  | [d] => { results := [.lit (.bool true)], args := [d] }
  | _ => none }
def fnExactStandsSwapsRow : OpenClaim := { program := "ytaacaifiiedoiaa", sum := "7189bb71735c4d6f3a1d63c9bcd2eef9b2c9956e0b0f6ec8e415609fe1427d18", func := "loop.example/g01275/laws.FnExactStandsSwaps", spec := "fnExactStandsSwaps", unfollowed := true, recurses := true, apart := false }
def FnExactStandsSwapsSaid : Prop := fnExactStandsSwapsRow.holds Try.pinned (OpenSpec.ofChange fnExactStandsSwapsSpec)

/-- ITS FALSE NEIGHBOUR: 'it returns false'. Refute it at one input. -/
def fnExactStandsSwapsWrong : ChangeSpec := { name := "fnExactStandsSwaps", fn := fun _ => fun
  | [d] => { results := [.lit (.bool false)], args := [d] }
  | _ => none }
def FnExactStandsSwapsWrongFalsely : Prop := fnExactStandsSwapsRow.holds Try.pinned (OpenSpec.ofChange fnExactStandsSwapsWrong)

/-- 'laws.FnExactFirstTrade': WHATEVER THE INPUT: true; the input reads as it did. -/
def fnExactFirstTradeSpec : ChangeSpec := { name := "fnExactFirstTrade", fn := fun _ => fun
  | [d] => { results := [.lit (.bool true)], args := [d] }
  | _ => none }
def fnExactFirstTradeRow : OpenClaim := { program := "ytaacaifiiedoiaa", sum := "7189bb71735c4d6f3a1d63c9bcd2eef9b2c9956e0b0f6ec8e415609fe1427d18", func := "loop.example/g01275/laws.FnExactFirstTrade", spec := "fnExactFirstTrade", unfollowed := true, recurses := true, apart := false }
def FnExactFirstTradeSaid : Prop := fnExactFirstTradeRow.holds Try.pinned (OpenSpec.ofChange fnExactFirstTradeSpec)

/-- ITS FALSE NEIGHBOUR: 'it returns false'. Refute it at one input. -/
def fnExactFirstTradeWrong : ChangeSpec := { name := "fnExactFirstTrade", fn := fun _ => fun
  | [d] => { results := [.lit (.bool false)], args := [d] }
  | _ => none }
def FnExactFirstTradeWrongFalsely : Prop := fnExactFirstTradeRow.holds Try.pinned (OpenSpec.ofChange fnExactFirstTradeWrong)

/-- 'laws.FnExactFirstSwap': WHATEVER THE INPUT: true; the input reads as it did. -/
def fnExactFirstSwapSpec : ChangeSpec := { name := "fnExactFirstSwap", fn := fun _ => fun
  | [d] => { results := [.lit (.bool true)], args := [d] }
  | _ => none }
def fnExactFirstSwapRow : OpenClaim := { program := "ytaacaifiiedoiaa", sum := "7189bb71735c4d6f3a1d63c9bcd2eef9b2c9956e0b0f6ec8e415609fe1427d18", func := "loop.example/g01275/laws.FnExactFirstSwap", spec := "fnExactFirstSwap", unfollowed := true, recurses := true, apart := false }
def FnExactFirstSwapSaid : Prop := fnExactFirstSwapRow.holds Try.pinned (OpenSpec.ofChange fnExactFirstSwapSpec)

/-- ITS FALSE NEIGHBOUR: 'it returns false'. Refute it at one input. -/
def fnExactFirstSwapWrong : ChangeSpec := { name := "fnExactFirstSwap", fn := fun _ => fun
  | [d] => { results := [.lit (.bool false)], args := [d] }
  | _ => none }
def FnExactFirstSwapWrongFalsely : Prop := fnExactFirstSwapRow.holds Try.pinned (OpenSpec.ofChange fnExactFirstSwapWrong)

/- THE SECOND FORM. 'bulk': how many values and letters a reading holds, each counted each time it is reached (what is shared counts as often as it is met; a slice's spare places count too). A statement '..UptoSaid' is the law's where the arguments, and the package variables that the reading takes, are together of bulk at most 1048576: NARROWER than '..Said'. Prove '..Said' where nothing that the law and all that it calls make is longer than what came in: it says more and counts as full. Else prove '..UptoSaid'. A law counts once. -/
mutual
def uptoBulk {H : Type} : DataW H → Nat
  | .lit (.string bytes) => bytes.length + 1
  | .lit _ => 1
  | .nil => 1
  | .ptr d => uptoBulk d + 1
  | .slice elems spare => uptoBulkAll elems + uptoBulkAll spare + 1
  | .agg parts => uptoBulkAll parts + 1
  | .iface _ d => uptoBulk d + 1
  | .map entries => uptoBulkEntries entries + 1
  | .held _ => 1
def uptoBulkAll {H : Type} : List (DataW H) → Nat
  | [] => 0
  | d :: r => uptoBulk d + uptoBulkAll r
def uptoBulkEntries {H : Type} : List (Lit × DataW H) → Nat
  | [] => 0
  | x :: r => uptoBulkEntry x + uptoBulkEntries r
def uptoBulkEntry {H : Type} : Lit × DataW H → Nat
  | (.string bytes, d) => bytes.length + uptoBulk d + 1
  | (_, d) => uptoBulk d + 1
 end
def uptoSmall : (H : Type) → List (DataW H) → Bool := fun _ ds => decide (uptoBulkAll ds ≤ 1048576)
def OpenSpec.upto (s : _root_.Go.ChangeSpec) : _root_.Go.OpenSpec := { _root_.Go.OpenSpec.ofChange s with cond := some uptoSmall }

/-- 'laws.FnExactMakePuzzle', WHERE WHAT IT READS IS OF BULK AT MOST 1048576: true; the input reads as it did. -/
def fnExactMakePuzzleUptoRow : OpenClaim := { program := "ytaacaifiiedoiaa", sum := "7189bb71735c4d6f3a1d63c9bcd2eef9b2c9956e0b0f6ec8e415609fe1427d18", func := "loop.example/g01275/laws.FnExactMakePuzzle", spec := "fnExactMakePuzzle", unfollowed := true, recurses := true, apart := false, narrowed := true }
def FnExactMakePuzzleUptoSaid : Prop := fnExactMakePuzzleUptoRow.holds Try.pinned (OpenSpec.upto fnExactMakePuzzleSpec)

/-- 'laws.FnExactShiftGreatest', WHERE WHAT IT READS IS OF BULK AT MOST 1048576: true; the input reads as it did. -/
def fnExactShiftGreatestUptoRow : OpenClaim := { program := "ytaacaifiiedoiaa", sum := "7189bb71735c4d6f3a1d63c9bcd2eef9b2c9956e0b0f6ec8e415609fe1427d18", func := "loop.example/g01275/laws.FnExactShiftGreatest", spec := "fnExactShiftGreatest", unfollowed := true, recurses := true, apart := false, narrowed := true }
def FnExactShiftGreatestUptoSaid : Prop := fnExactShiftGreatestUptoRow.holds Try.pinned (OpenSpec.upto fnExactShiftGreatestSpec)

/-- 'laws.FnExactShiftLeast', WHERE WHAT IT READS IS OF BULK AT MOST 1048576: true; the input reads as it did. -/
def fnExactShiftLeastUptoRow : OpenClaim := { program := "ytaacaifiiedoiaa", sum := "7189bb71735c4d6f3a1d63c9bcd2eef9b2c9956e0b0f6ec8e415609fe1427d18", func := "loop.example/g01275/laws.FnExactShiftLeast", spec := "fnExactShiftLeast", unfollowed := true, recurses := true, apart := false, narrowed := true }
def FnExactShiftLeastUptoSaid : Prop := fnExactShiftLeastUptoRow.holds Try.pinned (OpenSpec.upto fnExactShiftLeastSpec)

/-- 'laws.FnExactStandsSwaps', WHERE WHAT IT READS IS OF BULK AT MOST 1048576: true; the input reads as it did. -/
def fnExactStandsSwapsUptoRow : OpenClaim := { program := "ytaacaifiiedoiaa", sum := "7189bb71735c4d6f3a1d63c9bcd2eef9b2c9956e0b0f6ec8e415609fe1427d18", func := "loop.example/g01275/laws.FnExactStandsSwaps", spec := "fnExactStandsSwaps", unfollowed := true, recurses := true, apart := false, narrowed := true }
def FnExactStandsSwapsUptoSaid : Prop := fnExactStandsSwapsUptoRow.holds Try.pinned (OpenSpec.upto fnExactStandsSwapsSpec)

/-- 'laws.FnExactFirstTrade', WHERE WHAT IT READS IS OF BULK AT MOST 1048576: true; the input reads as it did. -/
def fnExactFirstTradeUptoRow : OpenClaim := { program := "ytaacaifiiedoiaa", sum := "7189bb71735c4d6f3a1d63c9bcd2eef9b2c9956e0b0f6ec8e415609fe1427d18", func := "loop.example/g01275/laws.FnExactFirstTrade", spec := "fnExactFirstTrade", unfollowed := true, recurses := true, apart := false, narrowed := true }
def FnExactFirstTradeUptoSaid : Prop := fnExactFirstTradeUptoRow.holds Try.pinned (OpenSpec.upto fnExactFirstTradeSpec)

/-- 'laws.FnExactFirstSwap', WHERE WHAT IT READS IS OF BULK AT MOST 1048576: true; the input reads as it did. -/
def fnExactFirstSwapUptoRow : OpenClaim := { program := "ytaacaifiiedoiaa", sum := "7189bb71735c4d6f3a1d63c9bcd2eef9b2c9956e0b0f6ec8e415609fe1427d18", func := "loop.example/g01275/laws.FnExactFirstSwap", spec := "fnExactFirstSwap", unfollowed := true, recurses := true, apart := false, narrowed := true }
def FnExactFirstSwapUptoSaid : Prop := fnExactFirstSwapUptoRow.holds Try.pinned (OpenSpec.upto fnExactFirstSwapSpec)

end Rows
end Go.Proofs.Ytaacaifiiedoiaa

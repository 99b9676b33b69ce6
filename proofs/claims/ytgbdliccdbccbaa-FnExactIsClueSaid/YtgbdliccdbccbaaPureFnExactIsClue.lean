/- IsClue: what the program's text computes is what the reference's computes. -/
import Derived.Test.YtgbdliccdbccbaaQ0
import Derived.Test.YtgbdliccdbccbaaOpnA
import Derived.Test.YtgbdliccdbccbaaPureA
import Derived.Test.YtgbdliccdbccbaaQL0s10c
import Derived.Test.YtgbdliccdbccbaaQL0s93c
namespace Go.Proofs.Ytgbdliccdbccbaa.Q
open Go.RowKit Go.Proofs.YtgbdliccdbccbaaW.PrintWords Go.Proofs.YtgbdliccdbccbaaW.PrintLast Go.Proofs.YtgbdliccdbccbaaW.PrintMore
set_option linter.unusedVariables false
set_option linter.unusedSimpArgs false
theorem FnExactIsClue_pure (a0 a1_0 a1_1 a1_2 : Int) (g0 : I64 a0) (g1 : I64 a1_0 ∧ I64 a1_1 ∧ I64 a1_2) : laws_FnExactIsClue.f a0 a1_0 a1_1 a1_2 = some true := by
  unfold laws_FnExactIsClue.f laws_toClue.f
  simp only [Option.bind_some, sIsClue_eq, IsClue_eq]
  rw [if_neg (by simp)]
end Go.Proofs.Ytgbdliccdbccbaa.Q

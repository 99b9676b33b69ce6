/- IsPuzzle: what the program's text computes is what the reference's computes. -/
import Derived.Test.YtgbdliccdbccbaaQ0
import Derived.Test.YtgbdliccdbccbaaOpnA
import Derived.Test.YtgbdliccdbccbaaPureE
import Derived.Test.YtgbdliccdbccbaaPurePz
import Derived.Test.YtgbdliccdbccbaaQL0s80
import Derived.Test.YtgbdliccdbccbaaQL1s80
namespace Go.Proofs.Ytgbdliccdbccbaa.Q
open Go.RowKit Go.Proofs.YtgbdliccdbccbaaW.PrintWords Go.Proofs.YtgbdliccdbccbaaW.PrintLast Go.Proofs.YtgbdliccdbccbaaW.PrintMore
set_option linter.unusedVariables false
set_option linter.unusedSimpArgs false
theorem FnExactIsPuzzle_pure (a0_0 : Int) (l0_1 : List S23) (g0 : I64 a0_0 ∧ ∀ y ∈ l0_1, I64 y.f0 ∧ I64 y.f1 ∧ I64 y.f2) (hl : l0_1.length ≤ 9223372036854775807) : ∃ k, laws_FnExactIsPuzzle.f k a0_0 l0_1 = some true := by
  refine Ev.rounds ?_
  unfold laws_FnExactIsPuzzle.f
  obtain ⟨q, hq, hq2⟩ := szPuzzle_eq a0_0 l0_1 1048576 (by decide) hl
  refine ev_bindS hq ?_
  by_cases h : q < 0
  · exact ev_pos h (Ev.now _)
  have hn := hq2 h
  refine ev_neg h ?_
  have ht := toPuzzle_ev a0_0 l0_1 (by omega)
  refine Ev.bind ht ?_
  unfold spec_IsPuzzle.f
  simp only [IsPuzzle_eq, Option.bind_some]
  refine Ev.bind (Ev.bind (pzGood_ev _ _) (Ev.now _)) (Ev.bind ht (ev_neg (by simp) (Ev.bind ht (Ev.bind (eqPuzzle_ev _ _ _ _ (by rw [List.length_map]; omega)) (ev_pos (by simp) (Ev.now _))))))
end Go.Proofs.Ytgbdliccdbccbaa.Q

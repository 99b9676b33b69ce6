/- NumberOfSet: what the program's text computes is what the reference's computes. -/
import Derived.Test.YtgbdliccdbccbaaQ0
import Derived.Test.YtgbdliccdbccbaaOpnA
import Derived.Test.YtgbdliccdbccbaaPureC
import Derived.Test.YtgbdliccdbccbaaPureE
import Derived.Test.YtgbdliccdbccbaaQL0s40
import Derived.Test.YtgbdliccdbccbaaQL1s40
namespace Go.Proofs.Ytgbdliccdbccbaa.Q
open Go.RowKit Go.Proofs.YtgbdliccdbccbaaW.PrintWords Go.Proofs.YtgbdliccdbccbaaW.PrintLast Go.Proofs.YtgbdliccdbccbaaW.PrintMore
set_option linter.unusedVariables false
set_option linter.unusedSimpArgs false
theorem FnExactNumberOfSet_pure (l0 : List Int) (g0 : ∀ y ∈ l0, I64 y) : ∃ k, laws_FnExactNumberOfSet.f k l0 = some true := by
  refine Ev.rounds ?_
  unfold laws_FnExactNumberOfSet.f
  by_cases hl : (l0.length : Int) > 1048576
  · exact ev_pos hl (Ev.now _)
  refine ev_neg hl ?_
  have ht := toIntS_ev l0 (by omega)
  have h : ∃ n b, Ev (fun k => impl_NumberOfSet.f k l0) (n, b) ∧ Ev (fun k => spec_NumberOfSet.f k l0) (n, b) := by
    unfold impl_NumberOfSet.f spec_NumberOfSet.f
    cases hs : isSetB l0 9 with
    | false => exact ⟨0, false, Ev.bind (ev_eqv (isSet_ev l0 9 (by decide) (by omega)) hs) (ev_neg (by simp) (Ev.now _)), Ev.bind (ev_eqv (voSet_ev l0 9 (by decide) (by omega)) hs) (ev_neg (by simp) (Ev.now _))⟩
    | true =>
      have hm := maskOf_ev l0 (by omega) (fun x hx => by have := isSetB_mem hs x hx; omega)
      exact ⟨_, true, Ev.bind (ev_eqv (isSet_ev l0 9 (by decide) (by omega)) hs) (ev_pos rfl (Ev.bind hm.1 (Ev.now _))), Ev.bind (ev_eqv (voSet_ev l0 9 (by decide) (by omega)) hs) (ev_pos rfl (Ev.bind hm.2 (Ev.now _)))⟩
  obtain ⟨n, b, h1, h2⟩ := h
  refine Ev.bind ht (Ev.bind h2 (Ev.bind ht (Ev.bind h1 (ev_pos rfl (ev_succ ?_)))))
  simp only [laws_FnExactNumberOfSet.j0]
  exact ev_neg (by simp) (Ev.bind ht (Ev.bind (eqIntS_ev l0 l0 (by omega)) (ev_pos (by simp) (Ev.now _))))
end Go.Proofs.Ytgbdliccdbccbaa.Q

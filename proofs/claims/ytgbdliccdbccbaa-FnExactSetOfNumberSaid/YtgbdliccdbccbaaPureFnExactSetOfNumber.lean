/- SetOfNumber: what the program's text computes is what the reference's computes. -/
import Derived.Test.YtgbdliccdbccbaaQ0
import Derived.Test.YtgbdliccdbccbaaOpnA
import Derived.Test.YtgbdliccdbccbaaPureA
import Derived.Test.YtgbdliccdbccbaaPureB
import Derived.Test.YtgbdliccdbccbaaPureE
import Derived.Test.YtgbdliccdbccbaaQL0s20
import Derived.Test.YtgbdliccdbccbaaQL0s20b
namespace Go.Proofs.Ytgbdliccdbccbaa.Q
open Go.RowKit Go.Proofs.YtgbdliccdbccbaaW.PrintWords Go.Proofs.YtgbdliccdbccbaaW.PrintLast Go.Proofs.YtgbdliccdbccbaaW.PrintMore
set_option linter.unusedVariables false
set_option linter.unusedSimpArgs false
theorem SetOfNumber_ev (a0 : Int) : ∃ l b, l.length ≤ 16 ∧ Ev (fun k => impl_SetOfNumber.f k a0) (l, b) ∧ Ev (fun k => spec_SetOfNumber.f k a0) (l, b) := by
  unfold impl_SetOfNumber.f spec_SetOfNumber.f
  simp only [within_eq, l1In_eq, voAll_eq 9 (by omega), Option.bind_some]
  cases h : inB a0 0 511 with
  | false =>
    refine ⟨[], false, by simp, ev_val fun k => ?_, ev_val fun k => ?_⟩
    · simp
    · rw [show (2 : Int) ^ (9 : Int).toNat - 1 = 511 from by decide, h]; simp
  | true =>
    obtain ⟨h0, h1⟩ := inB_iff.1 h
    obtain ⟨m, rfl⟩ := Int.eq_ofNat_of_zero_le h0
    refine ⟨setL m, true, bitsL_len _ _ _, ev_pos rfl (Ev.bind (setOf_ev m (by omega)) (Ev.now _)), ?_⟩
    rw [show (2 : Int) ^ (9 : Int).toNat - 1 = 511 from by decide, h]
    exact ev_pos rfl (Ev.bind (voList_ev m (by omega)) (Ev.now _))
theorem FnExactSetOfNumber_pure (a0 : Int) (g0 : I64 a0) : ∃ k, laws_FnExactSetOfNumber.f k a0 = some true := by
  obtain ⟨l, b, hl, h1, h2⟩ := SetOfNumber_ev a0
  refine Ev.rounds ?_
  unfold laws_FnExactSetOfNumber.f
  refine Ev.bind h2 (Ev.bind h1 (Ev.bind (eqIntS_ev l l (by omega)) (ev_pos (by simp) ?_)))
  refine ev_succ ?_
  simp only [laws_FnExactSetOfNumber.j0]
  refine ev_neg (by simp) (Ev.bind (markIntS_ev l 1 (by omega) (by decide)) (Ev.bind (heldIntS_ev 1 l.length (by omega) (by decide)) (ev_neg (by omega) (ev_pos rfl ?_))))
  refine Ev.bind h1 (Ev.bind (eqIntS_ev l l (by omega)) (ev_pos (by simp) ?_))
  refine ev_succ ?_
  simp only [laws_FnExactSetOfNumber.j1]
  exact ev_neg (by simp) (Ev.bind (heldIntS_ev 1 l.length (by omega) (by decide)) (ev_neg (by omega) (ev_pos rfl (Ev.now _))))
end Go.Proofs.Ytgbdliccdbccbaa.Q

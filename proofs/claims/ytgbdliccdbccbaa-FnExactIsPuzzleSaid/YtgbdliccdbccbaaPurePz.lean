/- Puzzles: plain forms of what is read, compared and asked of them. -/
import Derived.Test.YtgbdliccdbccbaaQ0
import Derived.Test.YtgbdliccdbccbaaHofA
import Derived.Test.YtgbdliccdbccbaaHofClue
import Derived.Test.YtgbdliccdbccbaaPureA
import Derived.Test.YtgbdliccdbccbaaPureC
import Derived.Test.YtgbdliccdbccbaaPureE
import Derived.Test.YtgbdliccdbccbaaPureL
import Derived.Test.YtgbdliccdbccbaaQL0s83
import Derived.Test.YtgbdliccdbccbaaQL0s83b
import Derived.Test.YtgbdliccdbccbaaQL0s83c
import Derived.Test.YtgbdliccdbccbaaQL0s93c
namespace Go.Proofs.Ytgbdliccdbccbaa.Q
open Go.RowKit Go.Proofs.YtgbdliccdbccbaaW.PrintWords Go.Proofs.YtgbdliccdbccbaaW.PrintLast Go.Proofs.YtgbdliccdbccbaaW.PrintMore
set_option linter.unusedVariables false
set_option linter.unusedSimpArgs false
deriving instance DecidableEq for S25
def clueI (x : S23) : S25 := ⟨x.f0, x.f1, x.f2⟩
theorem rdI_get {xs : List S25} {i : Nat} (h : i < xs.length) : rd_T25 xs (i : Int) = xs[i] := by unfold rd_T25; rw [Int.toNat_natCast]; exact getD_get h
theorem rdL_get {xs : List S23} {i : Nat} (h : i < xs.length) : rd_T23 xs (i : Int) = xs[i] := by unfold rd_T23; rw [Int.toNat_natCast]; exact getD_get h
theorem toClueS_ev (l : List S23) (hl : l.length ≤ 1152921504606) : Ev (fun k => laws_toClueS.f k l) (l.map clueI) := by
  unfold laws_toClueS.f
  refine ev_pos (by omega) (ev_pos (by omega) ?_)
  rw [Int.toNat_natCast]
  refine ev_range l.length (fun k i => laws_toClueS.l0 k l ((l.take i).map clueI ++ List.replicate (l.length - i) z25) (i : Int)) (fun _ => l.map clueI) ?_ ?_ 0 (Nat.zero_le _)
  · refine ev_succ ?_
    simp only [laws_toClueS.l0]
    exact ev_neg (by omega) (ev_eqv (Ev.now _) (by simp))
  · intro i hi ih
    refine ev_succ ?_
    simp only [laws_toClueS.l0, laws_toClue.f, Option.bind_some]
    refine ev_pos (by omega) (ev_pos (by omega) (ev_pos (by rw [copy_len _ _ _ _ (by omega)]; omega) ?_))
    rw [wrap_succ hi (by omega), Int.toNat_natCast, rdL_get hi, show (⟨l[i].f0, l[i].f1, l[i].f2⟩ : S25) = clueI l[i] from rfl, set_copy clueI _ l i hi]
    exact ih
theorem toPuzzle_ev (m : Int) (l : List S23) (hl : l.length ≤ 1152921504606) : Ev (fun k => laws_toPuzzle.f k m l) (m, l.map clueI) := by
  unfold laws_toPuzzle.f
  exact Ev.bind (toClueS_ev l hl) (Ev.now _)
theorem eqClue_eq (x y : S25) : laws_eqClue.f x.f0 x.f1 x.f2 y.f0 y.f1 y.f2 = some (decide (x = y)) := by
  unfold laws_eqClue.f
  obtain ⟨a, b, c⟩ := x
  obtain ⟨d, e, f⟩ := y
  simp only [S25.mk.injEq]
  repeat' split
  all_goals simp_all
theorem eqClueS_ev (a b : List S25) (ha : a.length ≤ 1152921504606) : Ev (fun k => laws_eqClueS.f k a b) (decide (a = b)) := by
  unfold laws_eqClueS.f
  by_cases hl : a.length = b.length
  · refine ev_pos (by omega) ?_
    refine ev_range a.length (fun k i => laws_eqClueS.l0 k a b (i : Int)) (fun i => decide (a.drop i = b.drop i)) ?_ ?_ 0 (Nat.zero_le _)
    · refine ev_succ ?_
      simp only [laws_eqClueS.l0]
      refine ev_neg (by omega) (ev_eqv (Ev.now _) ?_)
      rw [List.drop_of_length_le (by omega), List.drop_of_length_le (by omega)]; simp
    · intro i hi ih
      have h2 : i < b.length := by omega
      refine ev_succ ?_
      simp only [laws_eqClueS.l0]
      refine ev_pos (by omega) (ev_pos (by omega) (ev_pos (by omega) ?_))
      rw [rdI_get hi, rdI_get h2, eqClue_eq, wrap_succ hi (by omega), eq_drop a b i hi h2]
      refine ev_bool (fun h => ?_) (fun h => ?_)
      · rw [h]; exact ih
      · rw [h]; exact Ev.now _
  · refine ev_neg (by omega) (ev_eqv (Ev.now false) ?_)
    exact (decide_eq_false fun e => hl (by rw [e])).symm
theorem eqPuzzle_ev (m n : Int) (a b : List S25) (ha : a.length ≤ 1152921504606) : Ev (fun k => laws_eqPuzzle.f k m a n b) (decide (m = n ∧ a = b)) := by
  unfold laws_eqPuzzle.f
  by_cases hm : m = n
  · refine ev_pos hm (Ev.bind (eqClueS_ev a b ha) (ev_bool (fun h => ev_eqv (Ev.now _) ?_) (fun h => ev_eqv (Ev.now _) ?_)))
    · exact (decide_eq_true ⟨hm, of_decide_eq_true h⟩).symm
    · exact (decide_eq_false fun e => of_decide_eq_false h e.2).symm
  · exact ev_neg hm (ev_eqv (Ev.now _) (decide_eq_false fun e => hm e.1).symm)
theorem szPuzzle_eq (m : Int) (l : List S23) (n : Nat) (hn : n ≤ 1048576) (hl : l.length ≤ 9223372036854775807) : ∃ q, laws_szPuzzle.f m l (n : Int) = some q ∧ (¬ q < 0 → l.length ≤ n) := by
  unfold laws_szPuzzle.f laws_szClueS.f
  rw [wrap64_id (by omega)]
  by_cases h : (n : Int) - (l.length : Int) < 0
  · exact ⟨-1, by rw [if_pos h]; rfl, fun h => absurd (by decide) h⟩
  · exact ⟨_, by rw [if_neg h, Option.bind_some, if_neg h], fun _ => by omega⟩
/-- What a puzzle must be. -/
def puzzleOk (m : Int) (l : List S25) : Bool := inB m 1 4 && (decide (l.length ≤ 8) && l.all fun x => clueOk m x.f0 x.f1 x.f2)
theorem pzGood_ev (m : Int) (l : List S25) : Ev (fun k => spec_pzGood.f k m l) (puzzleOk m l) := by
  unfold spec_pzGood.f puzzleOk
  simp only [pzMembers_eq, Option.bind_some]
  refine ev_bool (fun hb => ?_) (fun hb => ?_)
  · rw [hb]
    refine ev_succ ?_
    simp only [spec_pzGood.j0]
    by_cases hl : l.length ≤ 8
    · rw [decide_eq_true hl, decide_eq_false (show ¬ (l.length : Int) > 8 by omega)]
      refine ev_neg (by simp) ?_
      refine ev_range l.length (fun k i => spec_pzGood.l0 k l (l.length : Int) (i : Int) m l) (fun i => (l.drop i).all fun x => clueOk m x.f0 x.f1 x.f2) ?_ ?_ 0 (Nat.zero_le _)
      · refine ev_succ ?_
        simp only [spec_pzGood.l0]
        exact ev_neg (by omega) (ev_eqv (Ev.now _) (by rw [drop_end]; rfl))
      · intro i hi ih
        refine ev_succ ?_
        simp only [spec_pzGood.l0]
        refine ev_pos (by omega) (ev_pos (by omega) (ev_pos (by omega) ?_))
        rw [rdI_get hi, wrap_succ hi (by omega), pzClue_eq _ _ _ _ (inB_iff.1 hb), all_drop _ _ _ hi]
        exact ev_bool (fun h => by rw [h]; exact ih) (fun h => by rw [h]; exact Ev.now _)
    · rw [decide_eq_false hl, decide_eq_true (show (l.length : Int) > 8 by omega)]
      exact ev_pos (by simp) (Ev.now _)
  · rw [hb]
    refine ev_succ ?_
    simp only [spec_pzGood.j0]
    exact ev_pos (by simp) (Ev.now _)
theorem IsPuzzle_eq (m : Int) (l : List S25) : impl_IsPuzzle.f m l = some (puzzleOk m l) := by
  unfold impl_IsPuzzle.f puzzleOk
  rw [isHidden_eq, Option.bind_some]
  refine bind_ite_false fun hb => ?_
  by_cases hl : l.length ≤ 8
  · rw [if_pos (by omega), decide_eq_true hl]
    rw [anyO_some (q := fun x => !clueOk m x.f0 x.f1 x.f2) (fun x _ => by unfold impl_IsPuzzle_1.f; rw [IsClue_eq, hb]; rfl)]
    rw [Option.bind_some, any_not_all]; rfl
  · rw [if_neg (by omega), decide_eq_false hl]; rfl
end Go.Proofs.Ytgbdliccdbccbaa.Q

/- The row of the law FnExactMakePuzzle: for every input it returns true, and its arguments read afterwards as before. No condition: FnExactMakePuzzle_pure says that its pure form answers true at every input, and laws_FnExactMakePuzzle.calls that the machine comes to just that. -/
import Derived.Test.YtaacaifiiedoiaaKFnExactMakePuzzle5
import Derived.Test.YtaacaifiiedoiaaRows
import Derived.Laws.StructEq
import Derived.Shelf.SlSortCmp.NoneTotal
section
namespace Go.Proofs.Ytaacaifiiedoiaa.Q
open Go.RowKit Go.Proofs.YtaacaifiiedoiaaW.PrintWords Go.Proofs.YtaacaifiiedoiaaW.PrintLast Go.Proofs.YtaacaifiiedoiaaW.PrintMore
set_option linter.unusedVariables false
set_option linter.unusedSimpArgs false
theorem areSets_ev (l : List (List Int)) (n : Int) (hn : -1000000 ≤ n ∧ n ≤ 1000000) (hl : ∀ x ∈ l, x.length ≤ 1048576) : Ev (fun k => impl_areSets.f k l n) (l.all fun s => decide (s ≠ []) && isSetB s n) := by
  unfold impl_areSets.f
  refine ev_eqv (Ev.bind (ev_anyO (fun k => impl_areSets_1.f k n) (fun s => !(decide (s ≠ []) && isSetB s n)) l (fun x hx => ?_)) (Ev.now _)) (any_not_all _ _)
  unfold impl_areSets_1.f
  by_cases h : x = []
  · subst h; exact ev_pos (by simp) (Ev.now _)
  · have : x.length ≠ 0 := fun e => h (List.length_eq_zero_iff.1 e)
    refine ev_neg (by omega) (ev_eqv (Ev.bind (isSet_ev x n hn (Nat.le_trans (hl x hx) (by decide))) (Ev.now _)) ?_)
    rw [decide_eq_true h, Bool.true_and]
theorem IsGame_l0 (m : Int) (l : List (List Int)) (hl : l.length ≤ 1048576) (h : SetsOk m l) : Ev (fun k => impl_IsGame.l0 k l (l.length : Int) 0 m l) (allR (fun i => rises l i && apartI l i) l.length 0) := by
  refine ev_range l.length (fun k i => impl_IsGame.l0 k l (l.length : Int) (i : Int) m l) (fun i => allR (fun i => rises l i && apartI l i) l.length i) ?_ ?_ 0 (Nat.zero_le _)
  · refine ev_succ ?_
    simp only [impl_IsGame.l0]
    exact ev_neg (by omega) (ev_eqv (Ev.now _) (allR_end _ _).symm)
  · intro i hi ih
    rw [allR_step _ _ _ hi]
    have inner : rises l i = true → Ev (fun k => impl_IsGame.l1 k (i : Int) l[i] l (l.length : Int) (i : Int) l (l.length : Int) 0 m l) ((rises l i && apartI l i) && allR (fun i => rises l i && apartI l i) l.length (i + 1)) := by
      intro hr
      rw [hr, Bool.true_and]
      refine ev_range l.length (fun k h => impl_IsGame.l1 k (i : Int) l[i] l (l.length : Int) (i : Int) l (l.length : Int) (h : Int) m l) (fun h => allR (fun h => decide (h = i) || !(mk l i &&& mk l h == mk l h)) l.length h && allR (fun i => rises l i && apartI l i) l.length (i + 1)) ?_ ?_ 0 (Nat.zero_le _)
      · refine ev_succ ?_
        simp only [impl_IsGame.l1]
        refine ev_neg (by omega) ?_
        rw [allR_end, Bool.true_and, wrap_succ hi (by omega)]
        exact ih
      · intro j hj ihj
        refine ev_succ ?_
        simp only [impl_IsGame.l1]
        refine ev_pos (by omega) (ev_pos (by omega) (ev_pos (by omega) ?_))
        rw [rdL1_get hj, wrap_succ hj (by omega), allR_step _ _ _ hj]
        by_cases e : j = i
        · refine ev_pos (by omega) ?_
          rw [decide_eq_true e]
          exact ihj
        · refine ev_neg (by omega) (Ev.bind (h.masks hi).1 (Ev.bind (h.masks hj).1 ?_))
          rw [decide_eq_false e]
          by_cases c : (mk l i &&& mk l j == mk l j) = true
          · refine ev_pos ((and_eq_nat (h.lt hi) (h.lt hj)).2 c) ?_
            rw [c]; exact Ev.now _
          · refine ev_neg (fun x => c ((and_eq_nat (h.lt hi) (h.lt hj)).1 x)) ?_
            rw [Bool.not_eq_true] at c
            rw [c]; exact ihj
    refine ev_succ ?_
    simp only [impl_IsGame.l0]
    refine ev_pos (by omega) (ev_pos (by omega) (ev_pos (by omega) ?_))
    rw [rdL1_get hi]
    by_cases h0 : i = 0
    · subst h0
      refine ev_neg (by omega) (ev_succ ?_)
      simp only [impl_IsGame.j2]
      exact ev_neg (by simp) (inner (by simp [rises]))
    · have hp : i - 1 < l.length := by omega
      refine ev_pos (by omega) ?_
      rw [wrap_pred2 (by omega) (by omega)]
      refine ev_pos (by omega) (ev_pos (by omega) ?_)
      rw [rdL1_get hp]
      refine Ev.bind (Compare_ev _ _ (Nat.le_trans (h.2 _ (List.getElem_mem hp)).2 (by decide))) (ev_succ ?_)
      simp only [impl_IsGame.j2]
      have hr : rises l i = lexB l[i - 1] l[i] := by unfold rises; rw [decide_eq_false h0, Bool.false_or, getD_get hp, getD_get hi]
      rw [cmpL_ge, ← hr]
      cases hq : rises l i
      · exact ev_pos (by simp) (Ev.now _)
      · refine ev_neg (by simp) ?_
        have := inner hq
        rw [hq] at this
        exact this
theorem gmGood_l0 (m : Int) (l : List (List Int)) (hl : l.length ≤ 1048576) (h : SetsOk m l) : Ev (fun k => spec_gmGood.l0 k l (l.length : Int) 0 m l) (allR (fun i => rises l i && apartS l i) l.length 0) := by
  refine ev_range l.length (fun k i => spec_gmGood.l0 k l (l.length : Int) (i : Int) m l) (fun i => allR (fun i => rises l i && apartS l i) l.length i) ?_ ?_ 0 (Nat.zero_le _)
  · refine ev_succ ?_
    simp only [spec_gmGood.l0]
    exact ev_neg (by omega) (ev_eqv (Ev.now _) (allR_end _ _).symm)
  · intro i hi ih
    rw [allR_step _ _ _ hi]
    have inner : rises l i = true → Ev (fun k => spec_gmGood.l1 k (mk l i : Int) l (l.length : Int) (i : Int) (l.take i) ((l.take i).length : Int) 0 m l) ((rises l i && apartS l i) && allR (fun i => rises l i && apartS l i) l.length (i + 1)) := by
      intro hr
      rw [hr, Bool.true_and]
      have ht : (l.take i).length = i := by rw [List.length_take]; omega
      rw [ht]
      refine ev_range i (fun k h => spec_gmGood.l1 k (mk l i : Int) l (l.length : Int) (i : Int) (l.take i) (i : Int) (h : Int) m l) (fun h => allR (fun h => !(mk l i &&& mk l h == mk l i) && !(mk l i &&& mk l h == mk l h)) i h && allR (fun i => rises l i && apartS l i) l.length (i + 1)) ?_ ?_ 0 (Nat.zero_le _)
      · refine ev_succ ?_
        simp only [spec_gmGood.l1]
        refine ev_neg (by omega) ?_
        rw [allR_end, Bool.true_and, wrap_succ hi (by omega)]
        exact ih
      · intro j hj ihj
        have hjl : j < l.length := by omega
        have hjt : j < (l.take i).length := by omega
        refine ev_succ ?_
        simp only [spec_gmGood.l1]
        refine ev_pos (by omega) (ev_pos (by omega) (ev_pos (by omega) ?_))
        rw [rdL1_get hjt, List.getElem_take, wrap_succ hj (by omega), allR_step _ _ _ hj]
        refine Ev.bind (h.masks hjl).2 ?_
        by_cases c : (mk l i &&& mk l j == mk l i) = true
        · refine ev_pos ((and_eq_nat (h.lt hi) (h.lt hjl)).2 c) ?_
          rw [c]; exact Ev.now _
        · refine ev_neg (fun x => c ((and_eq_nat (h.lt hi) (h.lt hjl)).1 x)) ?_
          rw [Bool.not_eq_true] at c
          rw [c]
          by_cases c2 : (mk l i &&& mk l j == mk l j) = true
          · refine ev_pos ((and_eq_nat (h.lt hi) (h.lt hjl)).2 c2) ?_
            rw [c2]; exact Ev.now _
          · refine ev_neg (fun x => c2 ((and_eq_nat (h.lt hi) (h.lt hjl)).1 x)) ?_
            rw [Bool.not_eq_true] at c2
            rw [c2]; exact ihj
    have step : rises l i = true → Ev (fun k => spec_gmGood.j1 k (i : Int) l[i] l (l.length : Int) (i : Int) false m l) ((rises l i && apartS l i) && allR (fun i => rises l i && apartS l i) l.length (i + 1)) := by
      intro hr
      refine ev_succ ?_
      simp only [spec_gmGood.j1]
      refine ev_neg (by simp) (Ev.bind (h.masks hi).2 (ev_pos (by omega) (ev_pos (by omega) ?_)))
      simp only [Int.toNat_natCast, Option.bind_some]
      exact inner hr
    refine ev_succ ?_
    simp only [spec_gmGood.l0]
    refine ev_pos (by omega) (ev_pos (by omega) (ev_pos (by omega) ?_))
    rw [rdL1_get hi]
    by_cases h0 : i = 0
    · subst h0
      exact ev_neg (by omega) (step (by simp [rises]))
    · have hp : i - 1 < l.length := by omega
      refine ev_pos (by omega) ?_
      rw [wrap_pred2 (by omega) (by omega)]
      refine ev_pos (by omega) (ev_pos (by omega) ?_)
      rw [rdL1_get hp]
      have hr : rises l i = lexB l[i - 1] l[i] := by unfold rises; rw [decide_eq_false h0, Bool.false_or, getD_get hp, getD_get hi]
      refine Ev.bind (voBefore_ev _ _ (Nat.le_trans (h.2 _ (List.getElem_mem hp)).2 (by decide))) ?_
      rw [← hr]
      cases hq : rises l i
      · refine ev_succ ?_
        simp only [spec_gmGood.j1]
        exact ev_pos (by simp) (Ev.now _)
      · have := step hq
        rw [hq] at this
        exact this
theorem apart_same (l : List (List Int)) : allR (fun i => rises l i && apartS l i) l.length 0 = allR (fun i => rises l i && apartI l i) l.length 0 := by
  rw [Bool.eq_iff_iff, allR_iff, allR_iff]
  constructor
  · intro h i hi
    have hi' := h i hi
    rw [Bool.and_eq_true] at hi' ⊢
    refine ⟨hi'.1, (allR_iff _ _).2 fun j hj => ?_⟩
    rcases Nat.lt_trichotomy j i with c | c | c
    · have := (allR_iff _ _).1 hi'.2 j c
      rw [Bool.and_eq_true] at this
      rw [this.2, Bool.or_true]
    · rw [decide_eq_true c, Bool.true_or]
    · have hj' := h j hj
      rw [Bool.and_eq_true] at hj'
      have := (allR_iff _ _).1 hj'.2 i c
      rw [Bool.and_eq_true] at this
      rw [Nat.and_comm, this.1, Bool.or_true]
  · intro h i hi
    have hi' := h i hi
    rw [Bool.and_eq_true] at hi' ⊢
    refine ⟨hi'.1, (allR_iff _ _).2 fun j hj => ?_⟩
    have hjl : j < l.length := by omega
    have h1 := (allR_iff _ _).1 hi'.2 j hjl
    have hj' := h j hjl
    rw [Bool.and_eq_true] at hj'
    have h2 := (allR_iff _ _).1 hj'.2 i hi
    rw [decide_eq_false (by omega), Bool.false_or] at h1 h2
    rw [Nat.and_comm] at h2
    rw [h1, h2]; rfl
theorem few_sets {m : Int} {l : List (List Int)} (h : SetsOk m l) (ha : allR (fun i => rises l i && apartI l i) l.length 0 = true) : l.length ≤ 126 := by
  have hlen : ((List.range l.length).map (mk l)).length = l.length := by simp
  rw [← hlen]
  refine antichain9 _ (fun x hx => ?_) ?_
  · obtain ⟨i, hi, rfl⟩ := List.mem_map.1 hx
    exact h.lt (List.mem_range.1 hi)
  · rw [List.pairwise_map]
    refine List.pairwise_lt_range.imp_of_mem fun {i j} hi hj hij => ?_
    have key : ∀ i j, i < l.length → j < l.length → i ≠ j → mk l i &&& mk l j ≠ mk l j := fun i j hi hj hne => by
      have := (allR_iff _ _).1 ha i hi
      rw [Bool.and_eq_true] at this
      have := (allR_iff _ _).1 this.2 j hj
      rw [decide_eq_false (by omega), Bool.false_or] at this
      simpa using this
    have hi' := List.mem_range.1 hi
    have hj' := List.mem_range.1 hj
    exact ⟨by rw [Nat.and_comm]; exact key j i hj' hi' (by omega), key i j hi' hj' (by omega)⟩
theorem IsGame_ev (m : Int) (l : List (List Int)) (hl : l.length ≤ 1048576) (hb : ∀ x ∈ l, x.length ≤ 1048576) : Ev (fun k => impl_IsGame.f k m l) (gmOk m l) := by
  unfold impl_IsGame.f gmOk
  simp only [within_eq, Option.bind_some]
  refine ev_bool (fun hm => ?_) (fun hm => ?_)
  · rw [hm]
    have hm' := inB_iff.1 hm
    by_cases h0 : l = []
    · subst h0
      refine ev_pos rfl (ev_succ ?_)
      simp only [impl_IsGame.j0]
      exact ev_pos (by simp) (Ev.now _)
    · have : l.length ≠ 0 := fun e => h0 (List.length_eq_zero_iff.1 e)
      refine ev_neg (by omega) (Ev.bind (areSets_ev l m (by omega) hb) (ev_succ ?_))
      rw [decide_eq_true h0]
      simp only [impl_IsGame.j0]
      cases hs : l.all fun s => decide (s ≠ []) && isSetB s m
      · exact ev_pos (by simp) (Ev.now _)
      · exact ev_neg (by simp) (IsGame_l0 m l hl (SetsOk.of hm hs hb))
  · rw [hm]
    refine ev_succ ?_
    simp only [impl_IsGame.j0]
    exact ev_pos (by simp) (Ev.now _)
theorem gmSets_l0 (m : Int) (l : List (List Int)) (hm : 1 ≤ m ∧ m ≤ 9) (hl : l.length ≤ 1048576) (hb : ∀ x ∈ l, x.length ≤ 1048576) : Ev (fun k => spec_gmSets.l0 k m l (l.length : Int) 0) (l.all fun s => decide (s ≠ []) && isSetB s m) := by
  have := ev_range l.length (fun k i => spec_gmSets.l0 k m l (l.length : Int) (i : Int)) (fun i => (l.drop i).all fun s => decide (s ≠ []) && isSetB s m) ?_ ?_ 0 (Nat.zero_le _)
  · simpa using this
  · refine ev_succ ?_
    simp only [spec_gmSets.l0]
    exact ev_neg (by omega) (ev_eqv (Ev.now _) (by rw [drop_end]; rfl))
  · intro i hi ih
    refine ev_succ ?_
    simp only [spec_gmSets.l0]
    refine ev_pos (by omega) (ev_pos (by omega) (ev_pos (by omega) ?_))
    rw [rdL1_get hi, wrap_succ hi (by omega), all_drop _ _ _ hi]
    by_cases h0 : l[i] = []
    · refine ev_pos (by rw [h0]; rfl) (ev_eqv (Ev.now _) ?_)
      rw [decide_eq_false (by simpa using h0)]; rfl
    · have : l[i].length ≠ 0 := fun e => h0 (List.length_eq_zero_iff.1 e)
      refine ev_neg (by omega) (Ev.bind (voSet_ev l[i] m (by omega) (Nat.le_trans (hb _ (List.getElem_mem hi)) (by decide))) ?_)
      rw [decide_eq_true h0, Bool.true_and]
      exact ev_bool (fun h => by rw [h]; exact ih) (fun h => by rw [h]; exact Ev.now _)
theorem gmGood_ev (m : Int) (l : List (List Int)) (hl : l.length ≤ 1048576) (hb : ∀ x ∈ l, x.length ≤ 1048576) : Ev (fun k => spec_gmGood.f k m l) (gmOk m l) := by
  unfold spec_gmGood.f
  have hS : Ev (fun k => spec_gmSets.f k m l 126) (inB m 1 9 && (inB (l.length : Int) 1 126 && l.all fun s => decide (s ≠ []) && isSetB s m)) := by
    unfold spec_gmSets.f
    simp only [l1In_eq, Option.bind_some]
    refine ev_bool (fun hm => ?_) (fun hm => ?_)
    · rw [hm]
      refine ev_succ ?_
      simp only [spec_gmSets.j0]
      cases hn : inB (l.length : Int) 1 126
      · exact ev_pos (by simp) (Ev.now _)
      · exact ev_neg (by simp) (gmSets_l0 m l (inB_iff.1 hm) hl hb)
    · rw [hm]
      refine ev_succ ?_
      simp only [spec_gmSets.j0]
      exact ev_pos (by simp) (Ev.now _)
  refine Ev.bind hS (ev_bool (fun h => ?_) (fun h => ?_))
  · rw [Bool.and_eq_true, Bool.and_eq_true] at h
    refine ev_eqv (gmGood_l0 m l hl (SetsOk.of h.1 h.2.2 hb)) ?_
    have hn := inB_iff.1 h.2.1
    unfold gmOk
    rw [h.1, h.2.2, decide_eq_true (show l ≠ [] from fun e => by subst e; simp at hn), apart_same]; rfl
  · refine ev_eqv (Ev.now _) ?_
    symm
    rw [← Bool.not_eq_true]
    intro hg
    unfold gmOk at hg
    rw [Bool.and_eq_true, Bool.and_eq_true, Bool.and_eq_true] at hg
    obtain ⟨hm, h0, hs, ha⟩ := hg
    have := few_sets (SetsOk.of hm hs hb) ha
    have h0' : l.length ≠ 0 := fun e => (of_decide_eq_true h0) (List.length_eq_zero_iff.1 e)
    rw [hm, hs, show inB (l.length : Int) 1 126 = true from inB_iff.2 (by omega)] at h
    cases h
deriving instance DecidableEq for S55
theorem rdI_get {xs : List S55} {i : Nat} (h : i < xs.length) : rd_T55 xs (i : Int) = xs[i] := by unfold rd_T55; rw [Int.toNat_natCast]; exact getD_get h
theorem eqClue_eq (x y : S55) : laws_eqClue.f x.f0 x.f1 x.f2 y.f0 y.f1 y.f2 = some (decide (x = y)) := by
  unfold laws_eqClue.f
  obtain ⟨a, b, c⟩ := x
  obtain ⟨d, e, f⟩ := y
  simp only [S55.mk.injEq]
  repeat' split
  all_goals simp_all
theorem eqClueS_ev (a b : List S55) (ha : a.length ≤ 1152921504606) : Ev (fun k => laws_eqClueS.f k a b) (decide (a = b)) := by
  unfold laws_eqClueS.f
  by_cases hl : a.length = b.length
  · refine ev_pos (by omega) ?_
    refine ev_range a.length (fun k i => laws_eqClueS.l0 k a b (i : Int)) (fun i => decide (a.drop i = b.drop i)) ?_ ?_ 0 (Nat.zero_le _)
    · refine ev_succ ?_
      simp only [laws_eqClueS.l0]
      refine ev_neg (by omega) (ev_eqv (Ev.now _) ?_)
      rw [List.drop_of_length_le (by omega), List.drop_of_length_le (by omega)]; simp
    · intro i hi ih
      have h2 : i < b.length := by omega
      refine ev_succ ?_
      simp only [laws_eqClueS.l0]
      refine ev_pos (by omega) (ev_pos (by omega) (ev_pos (by omega) ?_))
      rw [rdI_get hi, rdI_get h2, eqClue_eq, wrap_succ hi (by omega), eq_drop a b i hi h2]
      refine ev_bool (fun h => ?_) (fun h => ?_)
      · rw [h]; exact ih
      · rw [h]; exact Ev.now _
  · refine ev_neg (by omega) (ev_eqv (Ev.now false) ?_)
    exact (decide_eq_false fun e => hl (by rw [e])).symm
theorem eqPuzzle_ev (m n : Int) (a b : List S55) (ha : a.length ≤ 1152921504606) : Ev (fun k => laws_eqPuzzle.f k m a n b) (decide (m = n ∧ a = b)) := by
  unfold laws_eqPuzzle.f
  by_cases hm : m = n
  · refine ev_pos hm (Ev.bind (eqClueS_ev a b ha) (ev_bool (fun h => ev_eqv (Ev.now _) ?_) (fun h => ev_eqv (Ev.now _) ?_)))
    · exact (decide_eq_true ⟨hm, of_decide_eq_true h⟩).symm
    · exact (decide_eq_false fun e => of_decide_eq_false h e.2).symm
  · exact ev_neg hm (ev_eqv (Ev.now _) (decide_eq_false fun e => hm e.1).symm)
theorem rdI_set {xs : List S55} {i : Nat} {v : S55} (h : i < xs.length) : rd_T55 (xs.set i v) (i : Int) = v := by
  rw [rdI_get (by rw [List.length_set]; exact h), List.getElem_set_self]
def mkC (m : Int) (i : Nat) : S55 := ⟨m + 3 * i, m + 3 * i + 1, m + 3 * i + 2⟩
theorem wrap_add1 {x : Int} (h : 0 ≤ x ∧ x ≤ 9223372036854775806) : wrap64 (x + 1) = x + 1 := wrap64_id (by omega)
theorem markClueS_ev (l : List S55) (m : Int) (hl : l.length ≤ 1152921504606) (hm : 0 ≤ m ∧ m ≤ 1152921504606846976) : Ev (fun k => laws_markClueS.f k l m) (m + 3 * l.length, tab (mkC m) l.length) := by
  unfold laws_markClueS.f
  have := ev_range l.length (fun k i => laws_markClueS.l0 k (tab (mkC m) i ++ l.drop i) (m + 3 * i) (i : Int)) (fun _ => (m + 3 * l.length, tab (mkC m) l.length)) ?_ ?_ 0 (Nat.zero_le _)
  · simpa [tab] using this
  · refine ev_succ ?_
    simp only [laws_markClueS.l0]
    refine ev_neg (by rw [tab_drop_len _ _ _ (Nat.le_refl _)]; omega) (ev_eqv (Ev.now _) ?_)
    rw [drop_end, List.append_nil]
  · intro i hi ih
    have hx := tab_drop_len (mkC m) l i (by omega)
    refine ev_succ ?_
    simp only [laws_markClueS.l0]
    refine ev_pos (by omega) (ev_pos (by omega) ?_)
    simp only [Option.bind_some, Int.toNat_natCast]
    rw [wrap_add1 (x := m + 3 * i) (by omega), wrap_add1 (x := m + 3 * i + 1) (by omega), wrap_add1 (x := m + 3 * i + 1 + 1) (by omega)]
    rw [rdI_set (by rw [hx]; exact hi), rdI_set (by rw [List.length_set, hx]; exact hi), List.set_set, List.set_set]
    rw [show (⟨m + 3 * i, m + 3 * i + 1, m + 3 * i + 1 + 1⟩ : S55) = mkC m i by unfold mkC; congr 1; omega, set_tab _ _ _ hi, wrap_succ hi (by omega), show m + 3 * (i : Int) + 1 + 1 + 1 = m + 3 * ((i + 1 : Nat) : Int) by omega]
    exact ih
theorem heldClueS_ev (m : Int) (n : Nat) (hl : n ≤ 1152921504606) (hm : 0 ≤ m ∧ m ≤ 1152921504606846976) : Ev (fun k => laws_heldClueS.f k (tab (mkC m) n) m) (m + 3 * n) := by
  unfold laws_heldClueS.f
  have := ev_range n (fun k i => laws_heldClueS.l0 k (tab (mkC m) n) (m + 3 * i) (i : Int)) (fun _ => m + 3 * n) ?_ ?_ 0 (Nat.zero_le _)
  · simpa using this
  · refine ev_succ ?_
    simp only [laws_heldClueS.l0]
    exact ev_neg (by rw [tab_len]; omega) (Ev.now _)
  · intro i hi ih
    refine ev_succ ?_
    simp only [laws_heldClueS.l0]
    rw [rdI_get (by rw [tab_len]; exact hi), tab_get]
    refine ev_pos (by rw [tab_len]; omega) (ev_pos (by omega) (ev_pos rfl ?_))
    rw [wrap_add1 (x := m + 3 * i) (by omega), wrap_add1 (x := m + 3 * i + 1) (by omega), wrap_add1 (x := m + 3 * i + 1 + 1) (by omega)]
    refine ev_pos rfl (ev_pos (by unfold mkC; simp only []; omega) ?_)
    rw [wrap_succ hi (by omega), show m + 3 * (i : Int) + 1 + 1 + 1 = m + 3 * ((i + 1 : Nat) : Int) by omega]
    exact ih
theorem markPuzzle_ev (n : Int) (l : List S55) (hl : l.length ≤ 1152921504606) : Ev (fun k => laws_markPuzzle.f k n l 1) (1 + 3 * (l.length : Int), tab (mkC 1) l.length) := by
  unfold laws_markPuzzle.f
  exact Ev.bind (markClueS_ev l 1 hl (by omega)) (Ev.now _)
theorem heldPuzzle_ev (a : Int) (n : Nat) (hl : n ≤ 1152921504606) : Ev (fun k => laws_heldPuzzle.f k a (tab (mkC 1) n) 1) (1 + 3 * (n : Int)) := by
  unfold laws_heldPuzzle.f
  exact Ev.bind (heldClueS_ev 1 n hl (by omega)) (ev_neg (by omega) (Ev.now _))
def mkSS : Int → List (List Int) → List (List Int)
  | _, [] => []
  | m, x :: xs => iotaL m x.length :: mkSS (m + x.length) xs
def totS : Int → List (List Int) → Int
  | m, [] => m
  | m, x :: xs => totS (m + x.length) xs
theorem totS_ge : ∀ (l : List (List Int)) (m : Int), m ≤ totS m l
  | [], m => Int.le_refl m
  | x :: xs, m => by
    have := totS_ge xs (m + x.length)
    unfold totS
    omega
theorem markIntSS_l0 : ∀ (rest pre : List (List Int)) (m : Int), pre.length + rest.length ≤ 1048576 → (∀ x ∈ rest, x.length ≤ 1048576) → 0 ≤ m → m + 1048576 * rest.length ≤ 1152921504606846976 → Ev (fun k => laws_markIntSS.l0 k (pre ++ rest) m (pre.length : Int)) (totS m rest, pre ++ mkSS m rest)
  | [], pre, m, hl, hx, h0, hm => by
    refine ev_succ ?_
    simp only [laws_markIntSS.l0, List.append_nil]
    exact ev_neg (by omega) (ev_eqv (Ev.now _) (by simp [totS, mkSS]))
  | x :: xs, pre, m, hl, hx, h0, hm => by
    have hxl := hx x (List.mem_cons_self ..)
    rw [List.length_cons] at hl hm
    have ih := markIntSS_l0 xs (pre ++ [iotaL m x.length]) (m + x.length) (by rw [List.length_append, List.length_singleton]; omega) (fun y hy => hx y (List.mem_cons_of_mem _ hy)) (by omega) (by omega)
    refine ev_succ ?_
    simp only [laws_markIntSS.l0, Int.toNat_natCast]
    refine ev_pos (by rw [List.length_append, List.length_cons]; omega) (ev_pos (by omega) ?_)
    rw [show (pre ++ x :: xs).getD pre.length [] = x from by simp [List.getD_eq_getElem?_getD]]
    refine Ev.bind (markIntS_ev x m (by omega) (by omega)) ?_
    simp only [show (pre ++ x :: xs).set pre.length (iotaL m x.length) = (pre ++ [iotaL m x.length]) ++ xs from by simp, show wrap64 ((pre.length : Int) + 1) = (((pre ++ [iotaL m x.length]).length : Nat) : Int) from by rw [List.length_append, List.length_singleton]; unfold wrap64; omega]
    exact ev_eqv ih (by simp [totS, mkSS])
theorem markIntSS_ev (l : List (List Int)) (hl : l.length ≤ 1048576) (hx : ∀ x ∈ l, x.length ≤ 1048576) : Ev (fun k => laws_markIntSS.f k l 1) (totS 1 l, mkSS 1 l) := by
  have := markIntSS_l0 l [] 1 (by simpa using hl) hx (by decide) (by omega)
  exact this
structure Q_ (W : World) (ok : Nat → Prop) where
  A : Option Addr
  c : Nat
  l : List Int
  hl : l.length ≤ c
  hF : Kd.F (Kd.int .i64) W ok A l.length l
section
variable {W w : World} {ok ok' : Nat → Prop}
def Q_.nil : Q_ W ok := ⟨none, 0, [], Nat.le_refl _, Kd.F_nil _ _ _⟩
end
theorem any_eq_mem {α : Type} {p q : α → Bool} : ∀ {l : List α}, (∀ x ∈ l, p x = q x) → l.any p = l.any q
  | [], _ => rfl
  | x :: xs, h => by rw [List.any_cons, List.any_cons, h x (List.mem_cons_self ..), any_eq_mem fun y hy => h y (List.mem_cons_of_mem _ hy)]
theorem votesOf_l0 (p : Int → Option Bool) (q : Nat → Bool) (a n : Nat) (m : Int) (hn : n ≤ 1048576) (h : ∀ i, i < n → p (i : Int) = some (q i)) : Ev (fun k => impl_votesOf.l0 p k (n : Int) 0 m (List.replicate n false)) (m, tabB q n) := by
  have := ev_range n (fun k i => impl_votesOf.l0 p k (n : Int) (i : Int) m (tabB q i ++ List.replicate (n - i) false)) (fun _ => (m, tabB q n)) ?_ ?_ 0 (Nat.zero_le _)
  · simpa [tabB] using this
  · refine ev_succ ?_
    simp only [impl_votesOf.l0]
    exact ev_neg (Int.lt_irrefl _) (ev_eqv (Ev.now _) (by simp))
  · intro i hi ih
    refine ev_succ ?_
    simp only [impl_votesOf.l0]
    have hlen : (tabB q i ++ List.replicate (n - i) false).length = n := by rw [List.length_append, tabB_len, List.length_replicate]; omega
    refine ev_pos (by omega) (ev_bindS (h i hi) (ev_pos (by omega) (ev_pos (by rw [hlen]; omega) ?_)))
    rw [wrap_succ hi (Nat.le_trans hn (by decide)), Int.toNat_natCast, show n - i = (n - (i + 1)) + 1 by omega, List.replicate_succ, tabB_set, tabB_next]
    exact ih
theorem votesOf_ev (p : Int → Option Bool) (q : Nat → Bool) (m : Int) (hm : 0 ≤ m ∧ m ≤ 9) (h : ∀ i : Nat, i < 2 ^ m.toNat → p (i : Int) = some (q i)) : Ev (fun k => impl_votesOf.f k m p) (m, tabB q (2 ^ m.toNat)) := by
  have hp : 2 ^ m.toNat ≤ 512 := Nat.pow_le_pow_right (n := 2) (by decide) (show m.toNat ≤ 9 by omega)
  have hs : shl .i64 1 m = ((2 ^ m.toNat : Nat) : Int) := by rw [shl_one m (by omega)]; simp
  have hl0 := votesOf_l0 p q 0 (2 ^ m.toNat) m (by omega) h
  unfold impl_votesOf.f
  refine ev_pos hm.1 ?_
  rw [hs]
  generalize 2 ^ m.toNat = n at *
  have hn2 : (n : Int).toNat ≤ 281474976710656 := by rw [Int.toNat_natCast]; exact Nat.le_trans hp (by decide)
  refine ev_pos (Int.natCast_nonneg n) (ev_pos hn2 (ev_bindS rfl ?_))
  simp only [Int.toNat_natCast, List.length_replicate]
  exact hl0
theorem votesBy_l0 (m : Int) (l : List (List Int)) (hl : l.length ≤ 1048576) (h : SetsOk m l) : Ev (fun k => impl_votesBy.l0 k m l (l.length : Int) 0 []) (m, winT m l) := by
  have := ev_range l.length (fun k i => impl_votesBy.l0 k m l (l.length : Int) (i : Int) ((l.take i).map fun s => ((maskN 0 s : Nat) : Int))) (fun _ => (m, winT m l)) ?_ ?_ 0 (Nat.zero_le _)
  · simpa using this
  · refine ev_succ ?_
    simp only [impl_votesBy.l0]
    refine ev_neg (Int.lt_irrefl _) ?_
    rw [List.take_length]
    unfold votesOf_votesBy.f
    refine Ev.bind (votesOf_ev _ (winB l) m (by have := h.1; omega) (fun i hi => ?_)) (Ev.now _)
    have hp := pow_le512 h.1
    rw [anyO_some (q := fun x => Go.bits .and .i64 (i : Int) x == x) (fun _ _ => rfl), List.any_map]
    congr 1
    unfold winB
    refine any_eq_mem fun s hs => ?_
    obtain ⟨j, hj, rfl⟩ := List.mem_iff_getElem.1 hs
    have hlt := h.lt hj
    unfold mk at hlt
    rw [getD_get hj] at hlt
    exact and_self_nat (by omega) hlt
  · intro i hi ih
    refine ev_succ ?_
    simp only [impl_votesBy.l0]
    refine ev_pos (by omega) (ev_pos (by omega) (ev_pos (by omega) ?_))
    rw [rdL1_get hi, wrap_succ hi (Nat.le_trans hl (by decide))]
    have hm := (h.masks hi).1
    have hk : mk l i = maskN 0 l[i] := by unfold mk; rw [getD_get hi]
    rw [hk] at hm
    refine Ev.bind hm (ev_pos (by rw [List.length_map, List.length_take]; omega) ?_)
    rw [List.take_succ_eq_append_getElem hi, List.map_append] at ih
    exact ih
theorem votesBy_ev (m : Int) (l : List (List Int)) (hl : l.length ≤ 1048576) (h : SetsOk m l) : Ev (fun k => impl_votesBy.f k m l) (m, winT m l) := by
  unfold impl_votesBy.f
  exact votesBy_l0 m l hl h
theorem Game_votes_ev (m : Int) (l : List (List Int)) (hl : l.length ≤ 1048576) (h : SetsOk m l) : Ev (fun k => impl_Game_votes.f k m l) (m, winT m l) := by
  unfold impl_Game_votes.f
  exact Ev.bind (votesBy_ev m l hl h) (Ev.now _)
theorem gmOk_sets {m : Int} {l : List (List Int)} (h : gmOk m l = true) (hb : ∀ x ∈ l, x.length ≤ 1048576) : SetsOk m l ∧ ∃ n : Nat, m = (n : Int) ∧ n ≤ 9 := by
  unfold gmOk at h
  rw [Bool.and_eq_true, Bool.and_eq_true, Bool.and_eq_true] at h
  have h1 := inB_iff.1 h.1
  obtain ⟨n, rfl⟩ := Int.eq_ofNat_of_zero_le (show 0 ≤ m by omega)
  exact ⟨SetsOk.of h.1 h.2.2.1 hb, n, rfl, by omega⟩
theorem winT_nat (n : Nat) (l : List (List Int)) : winT (n : Int) l = tabB (winB l) (2 ^ n) := by unfold winT; rw [Int.toNat_natCast]
theorem gmAllW_ev {n : Nat} {l : List (List Int)} (hl : l.length ≤ 1048576) (h : SetsOk (n : Int) l) : Ev (fun k => spec_gmAll.f k (n : Int) l) (tabB (winB l) (2 ^ n)) := by
  unfold spec_gmAll.f
  exact Ev.bind (gmWins_ev (n : Int) l hl h) (ev_eqv (Ev.now _) (winT_nat n l))
theorem votesW_ev {n : Nat} {l : List (List Int)} (hl : l.length ≤ 1048576) (h : SetsOk (n : Int) l) : Ev (fun k => impl_Game_votes.f k (n : Int) l) ((n : Int), tabB (winB l) (2 ^ n)) := by
  rw [← winT_nat]; exact Game_votes_ev (n : Int) l hl h
theorem szIntS_eq (l : List Int) (n : Nat) (hn : n ≤ 1048576) (hl : l.length ≤ 9223372036854775807) : ∃ q, laws_szIntS.f l (n : Int) = some q ∧ (¬ q < 0 → ∃ m : Nat, q = m ∧ m ≤ n ∧ l.length ≤ n) := by
  unfold laws_szIntS.f
  rw [wrap64_id (by omega)]
  by_cases h : (n : Int) - (l.length : Int) < 0
  · exact ⟨-1, by rw [if_pos h], fun h => absurd (by decide) h⟩
  · exact ⟨_, by rw [if_neg h], fun _ => ⟨n - l.length, by omega, by omega, by omega⟩⟩
theorem szIntSS_ev (l : List (List Int)) (n : Nat) (hn : n ≤ 1048576) (hl : l.length ≤ 9223372036854775807) (hx : ∀ x ∈ l, x.length ≤ 9223372036854775807) :
    ∃ q, Ev (fun k => laws_szIntSS.f k l (n : Int)) q ∧ (¬ q < 0 → ∃ m : Nat, q = m ∧ m ≤ n ∧ l.length ≤ n ∧ ∀ x ∈ l, x.length ≤ n) := by
  unfold laws_szIntSS.f
  rw [wrap64_id (by omega)]
  by_cases h : (n : Int) - (l.length : Int) < 0
  · exact ⟨-1, ev_pos h (Ev.now _), fun h => absurd (by decide) h⟩
  have key : ∀ (d i m : Nat), i + d = l.length → m ≤ n → ∃ q, Ev (fun k => laws_szIntSS.l0 k l (m : Int) (i : Int)) q ∧ (¬ q < 0 → ∃ m' : Nat, q = m' ∧ m' ≤ m ∧ ∀ x ∈ l.drop i, x.length ≤ n) := by
    intro d
    induction d with
    | zero =>
      intro i m hi hm
      refine ⟨m, ev_succ ?_, fun _ => ⟨m, rfl, Nat.le_refl _, fun x hx => ?_⟩⟩
      · simp only [laws_szIntSS.l0]; exact ev_neg (by omega) (Ev.now _)
      · rw [List.drop_of_length_le (by omega)] at hx; cases hx
    | succ d ih =>
      intro i m hi hm
      have h1 : i < l.length := by omega
      obtain ⟨q, hq, hq2⟩ := szIntS_eq l[i] m (by omega) (hx _ (List.getElem_mem h1))
      by_cases c : q < 0
      · refine ⟨-1, ev_succ ?_, fun h => absurd (by decide) h⟩
        simp only [laws_szIntSS.l0, rdL1_get h1, hq, Option.bind_some]
        exact ev_pos (by omega) (ev_pos (by omega) (ev_pos c (Ev.now _)))
      · obtain ⟨m', rfl, h2, h3⟩ := hq2 c
        obtain ⟨q2, e2, p2⟩ := ih (i + 1) m' (by omega) (by omega)
        refine ⟨q2, ev_succ ?_, fun hn2 => ?_⟩
        · simp only [laws_szIntSS.l0, rdL1_get h1, hq, Option.bind_some, wrap_succ (i := i) (n := 1048576) (by omega) (by decide)]
          exact ev_pos (by omega) (ev_pos (by omega) (ev_neg c e2))
        · obtain ⟨m'', r1, r2, r3⟩ := p2 hn2
          refine ⟨m'', r1, by omega, fun x hx => ?_⟩
          rw [List.drop_eq_getElem_cons h1] at hx
          rcases List.mem_cons.1 hx with rfl | hx
          · omega
          · exact r3 x hx
  obtain ⟨q, e, p⟩ := key l.length 0 (n - l.length) (by omega) (by omega)
  refine ⟨q, ev_neg h ?_, fun hq => ?_⟩
  · rw [show (n : Int) - (l.length : Int) = ((n - l.length : Nat) : Int) by omega]; exact e
  · obtain ⟨m, r1, r2, r3⟩ := p hq
    exact ⟨m, r1, by omega, by omega, by simpa using r3⟩
theorem szGame_ev (a : Int) (l : List (List Int)) (n : Nat) (hn : n ≤ 1048576) (hl : l.length ≤ 9223372036854775807) (hx : ∀ x ∈ l, x.length ≤ 9223372036854775807) :
    ∃ q, Ev (fun k => laws_szGame.f k a l (n : Int)) q ∧ (¬ q < 0 → ∃ m : Nat, q = m ∧ m ≤ n ∧ l.length ≤ n ∧ ∀ x ∈ l, x.length ≤ n) := by
  obtain ⟨q, e, p⟩ := szIntSS_ev l n hn hl hx
  unfold laws_szGame.f
  by_cases h : q < 0
  · exact ⟨-1, Ev.bind e (ev_pos h (Ev.now _)), fun h => absurd (by decide) h⟩
  · exact ⟨q, Ev.bind e (ev_neg h (Ev.now _)), p⟩
theorem toIntSS_ev (l : List (List Int)) (hl : l.length ≤ 1152921504606) (hx : ∀ x ∈ l, x.length ≤ 1152921504606) : Ev (fun k => laws_toIntSS.f k l) l := by
  unfold laws_toIntSS.f
  refine ev_pos (by omega) (ev_pos (by omega) ?_)
  rw [Int.toNat_natCast]
  have := ev_range l.length (fun k i => laws_toIntSS.l0 k l ((l.take i).map id ++ List.replicate (l.length - i) []) (i : Int)) (fun _ => l) ?_ ?_ 0 (Nat.zero_le _)
  · simpa using this
  · refine ev_succ ?_
    simp only [laws_toIntSS.l0]
    exact ev_neg (by omega) (ev_eqv (Ev.now _) (by simp))
  · intro i hi ih
    refine ev_succ ?_
    simp only [laws_toIntSS.l0]
    refine ev_pos (by omega) (ev_pos (by omega) ?_)
    rw [rdL1_get hi]
    refine Ev.bind (toIntS_ev l[i] (hx _ (List.getElem_mem hi))) (ev_pos (by rw [copy_len _ _ _ _ (by omega)]; omega) ?_)
    rw [wrap_succ hi (by omega), Int.toNat_natCast, show l[i] = id l[i] from rfl, set_copy id _ l i hi]
    exact ih
theorem toGame_ev (m : Int) (l : List (List Int)) (hl : l.length ≤ 1152921504606) (hx : ∀ x ∈ l, x.length ≤ 1152921504606) : Ev (fun k => laws_toGame.f k m l) (m, l) := by
  unfold laws_toGame.f
  exact Ev.bind (toIntSS_ev l hl hx) (Ev.now _)
theorem eqIntSS_ev (a b : List (List Int)) (ha : a.length ≤ 1152921504606) (hx : ∀ x ∈ a, x.length ≤ 1152921504606) : Ev (fun k => laws_eqIntSS.f k a b) (decide (a = b)) := by
  unfold laws_eqIntSS.f
  by_cases hl : a.length = b.length
  · refine ev_pos (by omega) ?_
    refine ev_range a.length (fun k i => laws_eqIntSS.l0 k a b (i : Int)) (fun i => decide (a.drop i = b.drop i)) ?_ ?_ 0 (Nat.zero_le _)
    · refine ev_succ ?_
      simp only [laws_eqIntSS.l0]
      refine ev_neg (by omega) (ev_eqv (Ev.now _) ?_)
      rw [List.drop_of_length_le (by omega), List.drop_of_length_le (by omega)]; simp
    · intro i hi ih
      have h2 : i < b.length := by omega
      refine ev_succ ?_
      simp only [laws_eqIntSS.l0]
      refine ev_pos (by omega) (ev_pos (by omega) (ev_pos (by omega) ?_))
      rw [rdL1_get hi, rdL1_get h2, wrap_succ hi (by omega), eq_drop a b i hi h2]
      refine Ev.bind (eqIntS_ev a[i] b[i] (Nat.le_trans (hx _ (List.getElem_mem hi)) (by decide))) (ev_bool (fun h => ?_) (fun h => ?_))
      · rw [h]; exact ih
      · rw [h]; exact Ev.now _
  · refine ev_neg (by omega) (ev_eqv (Ev.now false) ?_)
    exact (decide_eq_false fun e => hl (by rw [e])).symm
theorem eqGame_ev (m n : Int) (a b : List (List Int)) (ha : a.length ≤ 1152921504606) (hx : ∀ x ∈ a, x.length ≤ 1152921504606) : Ev (fun k => laws_eqGame.f k m a n b) (decide (m = n ∧ a = b)) := by
  unfold laws_eqGame.f
  by_cases hm : m = n
  · refine ev_pos hm (Ev.bind (eqIntSS_ev a b ha hx) (ev_bool (fun h => ev_eqv (Ev.now _) ?_) (fun h => ev_eqv (Ev.now _) ?_)))
    · exact (decide_eq_true ⟨hm, of_decide_eq_true h⟩).symm
    · exact (decide_eq_false fun e => of_decide_eq_false h e.2).symm
  · exact ev_neg hm (ev_eqv (Ev.now _) (decide_eq_false fun e => hm e.1).symm)
def nx (z : Int) : Int := Int.tmod (193 * z + 2549) 10009
theorem tm_b {x m : Int} (hx : 0 ≤ x) (hm : 0 < m) : 0 ≤ Int.tmod x m ∧ Int.tmod x m < m := ⟨Int.tmod_nonneg m hx, Int.tmod_lt_of_pos x hm⟩
theorem nx_b (z : Int) (h : 0 ≤ z ∧ z ≤ 10008) : 0 ≤ nx z ∧ nx z ≤ 10008 := by
  have := tm_b (show 0 ≤ 193 * z + 2549 by omega) (show (0 : Int) < 10009 by decide)
  unfold nx
  omega
theorem kd_b (z : Int) (h : 0 ≤ z ∧ z ≤ 10008) : 0 ≤ Int.tmod z 6 ∧ Int.tmod z 6 ≤ 5 := by
  have := tm_b h.1 (show (0 : Int) < 6 by decide)
  omega
theorem nx_s (z : Int) (h : 0 ≤ z ∧ z ≤ 10008) : spec_pzNext.f z = some (nx z) := by
  unfold spec_pzNext.f nx
  rw [show wrap64 (193 * z) = 193 * z from wrap64_id (by omega), wrap64_id (by omega)]
theorem nx_i (z : Int) (h : 0 ≤ z ∧ z ≤ 10008) : Int.tmod (wrap64 ((wrap64 (z * 193)) + 2549)) 10009 = nx z := by
  unfold nx
  rw [show wrap64 (z * 193) = 193 * z from (wrap64_id (by omega)).trans (Int.mul_comm _ _), wrap64_id (by omega)]
theorem pzOf_ev (n : Nat) (h : 1 ≤ n ∧ n ≤ 9) (g : Nat → Bool) (k a : Int) (hk : 0 ≤ k ∧ k ≤ 5) (ha : AskOk n k a) (hb : k = 1 ∨ 3 < k → a = 0) :
    Ev (fun r => spec_pzOf.f r k a (tabB g (2 ^ n))) (k, tellA k a g (2 ^ n), tellB k a g (2 ^ n)) := by
  have key : ∀ x, x = decide (k = 1 ∨ 3 < k) → Ev (fun r => spec_pzOf.j0 r k a (tabB g (2 ^ n)) x) (k, tellA k a g (2 ^ n), tellB k a g (2 ^ n)) := by
    rintro x rfl
    refine ev_succ ?_
    simp only [spec_pzOf.j0]
    by_cases c : k = 1 ∨ 3 < k
    · refine ev_pos (by simpa using c) (Ev.bind (pzValue_ev n h g k 0 hk ⟨by omega, by omega, by omega⟩) (ev_eqv (Ev.now _) ?_))
      have e1 : tellV k 0 g (2 ^ n) = tellA k a g (2 ^ n) := by
        have : k = 1 ∨ k = 4 ∨ k = 5 := by omega
        rcases this with rfl | rfl | rfl <;> simp [tellV, tellA]
      have e2 : tellB k a g (2 ^ n) = 0 := by
        have : k = 1 ∨ k = 4 ∨ k = 5 := by omega
        rcases this with rfl | rfl | rfl <;> simp [tellB]
      rw [e1, e2]
    · refine ev_neg (by simpa using c) (Ev.bind (pzValue_ev n h g k a hk ha) (ev_eqv (Ev.now _) ?_))
      have e1 : tellV k a g (2 ^ n) = tellB k a g (2 ^ n) := by unfold tellV; rw [if_neg c]
      have e2 : tellA k a g (2 ^ n) = a := by
        have : k = 0 ∨ k = 2 ∨ k = 3 := by omega
        rcases this with rfl | rfl | rfl <;> simp [tellA]
      rw [e1, e2]
  unfold spec_pzOf.f
  exact ev_ite (fun e => key _ (by simp [e])) (fun e => key _ (by simp [e]))
theorem mk_both (n : Nat) (hn : 1 ≤ n ∧ n ≤ 4) (l : List (List Int)) (hl : l.length ≤ 1048576) (hs : SetsOk (n : Int) l) : ∀ (d i c : Nat) (z : Int) (acc : List S55), i + d = c → c ≤ 8 → acc.length = i → 0 ≤ z ∧ z ≤ 10008 →
    ∃ y : List S55, y.length ≤ 8 ∧ Ev (fun k => spec_MakePuzzle.l0 k (d : Int) z (n : Int) l (n : Int) acc) ((n : Int), y, true) ∧
      Ev (fun k => impl_MakePuzzle.l0 k (c : Int) (i : Int) z (n : Int) (tabB (winB l) (2 ^ n)) (n : Int) acc) ((n : Int), y, true) := by
  have hg := gmAllW_ev hl hs
  have h9 : 1 ≤ n ∧ n ≤ 9 := by omega
  have hN : 1 ≤ 2 ^ n := Nat.one_le_two_pow
  intro d
  induction d with
  | zero =>
    intro i c z acc hc h8 ha hz
    refine ⟨acc, by omega, ev_succ ?_, ev_succ ?_⟩
    · simp only [spec_MakePuzzle.l0]; exact ev_neg (by omega) (Ev.now _)
    · simp only [impl_MakePuzzle.l0]; exact ev_neg (by omega) (Ev.now _)
  | succ d ih =>
    intro i c z acc hc h8 ha hz
    have hlen : acc.length < 5864062014805 := Nat.lt_of_le_of_lt (Nat.le_trans (show acc.length ≤ c by rw [ha, ← hc]; exact Nat.le_add_right _ _) h8) (by decide)
    have hz1 := nx_b z hz
    have hz2 := nx_b (nx z) hz1
    have hk := kd_b (nx z) hz1
    have w1 : wrap64 (((d + 1 : Nat) : Int) - 1) = (d : Int) := by rw [wrap64_id (by omega)]; omega
    have w2 : wrap64 ((i : Int) + 1) = ((i + 1 : Nat) : Int) := by rw [wrap64_id (by omega)]; omega
    have step : ∀ (K a z2 : Int), 0 ≤ K ∧ K ≤ 5 → 0 ≤ z2 ∧ z2 ≤ 10008 → AskOk n K a → (K = 1 ∨ 3 < K → a = 0) →
        ∃ y : List S55, y.length ≤ 8 ∧ Ev (fun r => (spec_gmAll.f r (n : Int) l).bind fun t => (spec_pzOf.f r K a t).bind fun b => if acc.length < 5864062014805 then spec_MakePuzzle.l0 r (d : Int) z2 (n : Int) l (n : Int) (acc ++ [(⟨b.1, b.2.1, b.2.2⟩ : S55)]) else none) ((n : Int), y, true) ∧
          Ev (fun r => (impl_votes_told.f r (n : Int) (tabB (winB l) (2 ^ n)) K a).bind fun b => if acc.length < 5864062014805 then impl_MakePuzzle.l0 r (c : Int) ((i + 1 : Nat) : Int) z2 (n : Int) (tabB (winB l) (2 ^ n)) (n : Int) (acc ++ [(⟨b.1, b.2.1, b.2.2⟩ : S55)]) else none) ((n : Int), y, true) := by
      intro K a z2 hk h2 hA hB
      obtain ⟨y, y1, y2, y3⟩ := ih (i + 1) c z2 (acc ++ [⟨K, tellA K a (winB l) (2 ^ n), tellB K a (winB l) (2 ^ n)⟩]) (by omega) h8 (by simp [ha]) h2
      have ht := told_ev n h9 (winB l) K a hk hA
      rw [if_pos (by omega)] at ht
      refine ⟨y, y1, ?_, ?_⟩
      · refine Ev.bind hg ?_
        refine Ev.bind (pzOf_ev n h9 (winB l) K a hk hA hB) ?_
        exact ev_pos hlen y2
      · refine Ev.bind ht ?_
        exact ev_pos hlen y3
    by_cases k0 : Int.tmod (nx z) 6 = 0
    · have ht := tm_b hz2.1 (show (0 : Int) < ((2 ^ n : Nat) : Int) by exact_mod_cast hN)
      obtain ⟨y, y1, y2, y3⟩ := step (Int.tmod (nx z) 6) (Int.tmod (nx (nx z)) ((2 ^ n : Nat) : Int)) (nx (nx z)) hk hz2 ⟨fun _ => ht, fun e => by omega, fun e => by omega⟩ (fun e => by omega)
      refine ⟨y, y1, ev_succ ?_, ev_succ ?_⟩
      · simp only [spec_MakePuzzle.l0, w1, nx_s z hz, nx_s (nx z) hz1, Option.bind_some]
        rw [shl_one_nat n (by omega)]
        exact ev_pos (by omega) (ev_pos k0 (ev_pos (by omega) (ev_neg (by omega) y2)))
      · simp only [impl_MakePuzzle.l0, w2, nx_i z hz, nx_i (nx z) hz1, tabB_len]
        exact ev_pos (by omega) (ev_pos k0 (ev_neg (by omega) y3))
    by_cases k23 : Int.tmod (nx z) 6 = 2 ∨ Int.tmod (nx z) 6 = 3
    · have ht := tm_b hz2.1 (show (0 : Int) < (n : Int) by omega)
      obtain ⟨y, y1, y2, y3⟩ := step (Int.tmod (nx z) 6) (Int.tmod (nx (nx z)) (n : Int)) (nx (nx z)) hk hz2 ⟨fun e => absurd e k0, fun _ => ht, fun _ => ht⟩ (fun e => by omega)
      have hj : Ev (fun r => spec_MakePuzzle.j2 r ((d + 1 : Nat) : Int) (nx z) (Int.tmod (nx z) 6) 0 true (n : Int) l (n : Int) acc) ((n : Int), y, true) := by
        refine ev_succ ?_
        simp only [spec_MakePuzzle.j2, w1, nx_s (nx z) hz1, Option.bind_some]
        exact ev_pos (by simp) (ev_neg (by omega) y2)
      refine ⟨y, y1, ev_succ ?_, ev_succ ?_⟩
      · simp only [spec_MakePuzzle.l0, nx_s z hz, Option.bind_some]
        refine ev_pos (by omega) (ev_neg k0 (ev_ite (fun e => ?_) (fun e => ?_)))
        · rw [show (Int.tmod (nx z) 6 == 2) = true from beq_iff_eq.2 e]; exact hj
        · rw [show (Int.tmod (nx z) 6 == 3) = true from beq_iff_eq.2 (k23.resolve_left e)]; exact hj
      · simp only [impl_MakePuzzle.l0, w2, nx_i z hz, nx_i (nx z) hz1]
        refine ev_pos (by omega) (ev_neg k0 (ev_ite (fun e => ev_neg (by omega) y3) (fun e => ev_pos (k23.resolve_left e) (ev_neg (by omega) y3))))
    · have k2 : ¬ Int.tmod (nx z) 6 = 2 := fun e => k23 (.inl e)
      have k3 : ¬ Int.tmod (nx z) 6 = 3 := fun e => k23 (.inr e)
      obtain ⟨y, y1, y2, y3⟩ := step (Int.tmod (nx z) 6) 0 (nx z) hk hz1 ⟨fun e => absurd e k0, fun e => absurd e k2, fun e => absurd e k3⟩ (fun _ => rfl)
      refine ⟨y, y1, ev_succ ?_, ev_succ ?_⟩
      · simp only [spec_MakePuzzle.l0, nx_s z hz, Option.bind_some]
        refine ev_pos (by omega) (ev_neg k0 (ev_neg k2 (ev_succ ?_)))
        rw [show (Int.tmod (nx z) 6 == 3) = false from Bool.eq_false_iff.2 (fun e => k3 (beq_iff_eq.1 e))]
        simp only [spec_MakePuzzle.j2, w1]
        exact ev_neg (by simp) y2
      · simp only [impl_MakePuzzle.l0, w2, nx_i z hz, nx_i (nx z) hz1]
        exact ev_pos (by omega) (ev_neg k0 (ev_neg k2 (ev_neg k3 y3)))
theorem MakePuzzle_both (m : Int) (l : List (List Int)) (c z : Int) (hl : l.length ≤ 1048576) (hb : ∀ x ∈ l, x.length ≤ 1048576) :
    ∃ r : Int × List S55 × Bool, r.2.1.length ≤ 8 ∧ Ev (fun k => spec_MakePuzzle.f k m l c z) r ∧ Ev (fun k => impl_MakePuzzle.f k m l c z) r := by
  have hg : Ev (fun r => spec_pzGame.f r m l) (gmOk m l && decide (m ≤ 4)) := by
    unfold spec_pzGame.f
    exact Ev.bind (gmGood_ev m l hl hb) (ev_bool (fun h => ev_eqv (Ev.now _) (by rw [h]; rfl)) (fun h => ev_eqv (Ev.now _) (by rw [h]; rfl)))
  by_cases h : gmOk m l = true ∧ inB m 1 4 = true ∧ inB c 0 8 = true ∧ inB z 0 9999 = true
  · obtain ⟨h1, h2, h3, h4⟩ := h
    have b2 := inB_iff.1 h2
    have b3 := inB_iff.1 h3
    have b4 := inB_iff.1 h4
    obtain ⟨hs, _⟩ := gmOk_sets h1 hb
    obtain ⟨n, rfl⟩ := Int.eq_ofNat_of_zero_le (show 0 ≤ m by omega)
    obtain ⟨d, rfl⟩ := Int.eq_ofNat_of_zero_le (show 0 ≤ c by omega)
    obtain ⟨y, y1, y2, y3⟩ := mk_both n (by omega) l hl hs d 0 d z [] (by omega) (by omega) rfl (by omega)
    refine ⟨((n : Int), y, true), y1, ?_, ?_⟩
    · unfold spec_MakePuzzle.f
      refine Ev.bind hg (ev_pos (by rw [h1, decide_eq_true b2.2]; rfl) ?_)
      simp only [l1In_eq, Option.bind_some, h3, h4]
      refine ev_pos (by simp) (ev_succ ?_)
      simp only [spec_MakePuzzle.j0]
      exact ev_neg (by simp) y2
    · unfold impl_MakePuzzle.f
      refine Ev.bind (IsGame_ev _ l hl hb) (ev_pos h1 ?_)
      simp only [isHidden_eq, within_eq, Option.bind_some, h2, h3, h4]
      refine ev_pos (by simp) (ev_pos (by simp) (ev_succ ?_))
      simp only [impl_MakePuzzle.j0]
      exact ev_neg (by simp) (Ev.bind (votesW_ev hl hs) y3)
  · have sB : Ev (fun k => spec_MakePuzzle.j0 k c z true m l) ((0 : Int), ([] : List S55), false) := by
      refine ev_succ ?_
      simp only [spec_MakePuzzle.j0]
      exact ev_pos (by simp) (Ev.now _)
    have iB : Ev (fun k => impl_MakePuzzle.j0 k c true m l z) ((0 : Int), ([] : List S55), false) := by
      refine ev_succ ?_
      simp only [impl_MakePuzzle.j0]
      exact ev_pos (by simp) (Ev.now _)
    refine ⟨((0 : Int), ([] : List S55), false), by simp, ?_, ?_⟩
    · unfold spec_MakePuzzle.f
      refine Ev.bind hg (ev_ite (fun e1 => ?_) (fun _ => sB))
      simp only [l1In_eq, Option.bind_some]
      refine ev_ite (fun e3 => ?_) (fun _ => sB)
      rw [Bool.and_eq_true, decide_eq_true_eq] at e1
      have hs := (gmOk_sets e1.1 hb).1.1
      have e4 : inB z 0 9999 = false := Bool.eq_false_iff.2 (fun e4 => h ⟨e1.1, inB_iff.2 ⟨hs.1, e1.2⟩, e3, e4⟩)
      rw [e4]
      exact sB
    · unfold impl_MakePuzzle.f
      refine Ev.bind (IsGame_ev _ l hl hb) (ev_ite (fun e1 => ?_) (fun _ => iB))
      simp only [isHidden_eq, within_eq, Option.bind_some]
      refine ev_ite (fun e2 => ev_ite (fun e3 => ?_) (fun _ => iB)) (fun _ => iB)
      have e4 : inB z 0 9999 = false := Bool.eq_false_iff.2 (fun e4 => h ⟨e1, e2, e3, e4⟩)
      rw [e4]
      exact iB
theorem FnExactMakePuzzle_pure (a0_0 : Int) (l0_1 : List (List Int)) (a1 a2 : Int) (g0 : I64 a0_0 ∧ ∀ y ∈ l0_1, ∀ z ∈ y, I64 z) (_ : I64 a1) (_ : I64 a2) (h1 : l0_1.length ≤ 9223372036854775807) (h2 : ∀ x ∈ l0_1, x.length ≤ 9223372036854775807) : ∃ k, laws_FnExactMakePuzzle.f k a0_0 l0_1 a1 a2 = some true := by
  refine Ev.rounds ?_
  unfold laws_FnExactMakePuzzle.f
  obtain ⟨q, hq, hq2⟩ := szGame_ev a0_0 l0_1 1048576 (by decide) h1 h2
  refine Ev.bind hq ?_
  by_cases h : q < 0
  · exact ev_pos h (Ev.now _)
  refine ev_neg h ?_
  obtain ⟨_, _, _, n1, n2⟩ := hq2 h
  have n3 : ∀ x ∈ l0_1, x.length ≤ 1152921504606 := fun x hx => Nat.le_trans (n2 x hx) (by decide)
  have ht := toGame_ev a0_0 l0_1 (by omega) n3
  obtain ⟨r, r1, es, ei⟩ := MakePuzzle_both a0_0 l0_1 a1 a2 n1 n2
  have h4 := totS_ge l0_1 1
  have eq := eqPuzzle_ev r.1 r.1 r.2.1 r.2.1 (by omega)
  refine Ev.bind ht (Ev.bind es (Ev.bind ei (Ev.bind eq (ev_pos (by simp) (ev_pos rfl (Ev.bind (eqGame_ev a0_0 a0_0 l0_1 l0_1 (by omega) n3) (ev_pos (by simp) (Ev.bind (markIntSS_ev l0_1 n1 n2) (ev_neg (by simp only []; omega) ?_)))))))))
  exact Ev.bind (markPuzzle_ev r.1 r.2.1 (by omega)) (Ev.bind (heldPuzzle_ev r.1 r.2.1.length (by omega)) (ev_neg (by omega) (ev_pos rfl (Ev.now _))))
end Go.Proofs.Ytaacaifiiedoiaa.Q
end
section
namespace Go.Proofs.Ytaacaifiiedoiaa.Q
open Go.RowKit Go.Proofs.YtaacaifiiedoiaaW.PrintWords Go.Proofs.YtaacaifiiedoiaaW.PrintLast Go.Proofs.YtaacaifiiedoiaaW.PrintMore
set_option linter.unusedVariables false
set_option linter.unusedSimpArgs false
set_option maxRecDepth 100000
section
variable {H : Type} {enc : TypeId × Value → H} {W : World}
theorem opens_ints : Opens enc Try.prog W 71 (Kd.slice 3 (Kd.int .i64)) (fun x => ∀ y ∈ x, I64 y) := opens_slice Try.underlying71 (by kernel_rfl) (opens_int Try.underlying3)
theorem opens_Game : Opens enc Try.prog W 24 (Kd.pair (Kd.int .i64) (Kd.slice 71 (Kd.slice 3 (Kd.int .i64)))) (fun x => I64 x.1 ∧ ∀ y ∈ x.2, ∀ z ∈ y, I64 z) :=
  opens_pair Try.underlying24 (by kernel_rfl) rfl rfl (by kernel_rfl) (by kernel_rfl) (opens_int Try.underlying3) (opens_slice Try.underlying22 (by kernel_rfl) opens_ints)
end
open Go.ChangeShapes Go.WideShapes Go.ChangeAt Go.Deep
section
variable {H : Type} {enc : TypeId × Value → H} {W : World} {r : Reach} {b0 : Nat} {v : Value} {y : DataW H} {p : List MemPlace}
theorem arg_Game (hv : Value.okWide Try.prog W r b0 24 v) (hr : DataW.Trod enc Try.prog W 0 (fun _ => true) true 24 v y p) :
    ∃ a A c l, v = .agg #[.int .i64 a, .slice A (l : List (List Int)).length c] ∧ l.length ≤ c ∧ Kd.C (Kd.slice 3 (Kd.int .i64)) W A l.length l ∧ I64 a ∧ ∀ y ∈ l, ∀ z ∈ y, I64 z := by
  obtain ⟨x, ⟨l⟩, rfl, k, g⟩ := open_struct Try.underlying24 hv hr opens_Game
  obtain ⟨_, _, rfl, rfl, ⟨A, c, rfl, hl, hC⟩⟩ := k
  exact ⟨_, A, c, _, rfl, hl, hC, g⟩
theorem C_inner {w : World} {A : Option Addr} {n : Nat} {xs : List (List Int)} (h : Kd.C (Kd.slice 3 (Kd.int .i64)) w A n xs) : ∀ x ∈ xs, x.length ≤ 9223372036854775807 := fun x hx => by
  obtain ⟨j, hj, rfl⟩ := List.mem_iff_getElem.1 hx
  obtain ⟨ad, _, hc⟩ := h.2.2 (by have := h.1; omega)
  obtain ⟨c, _, ⟨_, _, _, _, hC⟩, _⟩ := hc j _ (List.getElem?_eq_getElem hj)
  exact hC.2.1
end
end Go.Proofs.Ytaacaifiiedoiaa.Q
end
section
namespace Go.Proofs.Ytaacaifiiedoiaa.fnExactMakePuzzle
open Go.ChangeShapes Go.WideShapes Go.ChangeAt Go.RowKit Go.Proofs.Ytaacaifiiedoiaa.Q
open Go.ChangeMaps (open_string shut_string)
set_option linter.unusedVariables false
theorem own : ownKnob Try.prog.godebug = none := by kernel_rfl
theorem laidOut : laidOutB Try.prog = true := by kernel_rfl
set_option maxRecDepth 100000 in
theorem lifted (os : Os) (started : os.Started) (H : Type) (enc : TypeId × Value → H) :
    ReturnsInHanded {} Try.checked os 3 .any (Rows.fnExactMakePuzzleSpec.pre6 enc Try.prog Try.f3 Rows.fnExactMakePuzzleRow.domain false) (Rows.fnExactMakePuzzleSpec.post enc Try.prog Try.f3 false true false false) := by
  refine returnsInHanded_of_change_sized (C := Try.checked) own started (by kernel_rfl) Try.func3
    (ChangeSpec.witness6 (enc := enc) (C := Try.checked) false ⟨#[], #[.agg #[.int .i64 0, .slice none 0 0], .int .i64 0, .int .i64 0], []⟩ 8 (by kernel_rfl) (by kernel_rfl) (by kernel_rfl) (by kernel_rfl)) ?_
  intro W base args ds gs before hval0 hW hcnd hsz0 _
  have hsz : (DataW.weightsEach Try.prog (Try.f3.params.toList ++ Rows.fnExactMakePuzzleSpec.plain.varTypes Try.prog) (ds ++ gs)).all (· ≤ reachBytes) = true := hsz0
  have hval : ∀ (j : Nat) t v, Try.f3.params[j]? = some t → args[j]? = some v → Value.okWide Try.prog W .any base t v := hval0
  have hW' := hW
  obtain ⟨p, q, hA0, hV, rfl, hfz, hnd⟩ := hW
  have hA : DataW.TrodAll enc Try.prog W 0 (fun _ => true) true Try.f3.params.toList args.toList ds p := hA0
  rw [Try.params3] at hA hval hsz
  obtain ⟨v0, vs0, d0, ds0, p0, q0, hargs, rfl, rfl, h0, r0⟩ := trodAll_cons hA
  obtain ⟨v1, vs1, d1, ds1, p1, q1, rfl, rfl, rfl, h1, r1⟩ := trodAll_cons r0
  obtain ⟨v2, vs2, d2, ds2, p2, q2, rfl, rfl, rfl, h2, r2⟩ := trodAll_cons r1
  obtain ⟨rfl, rfl, rfl⟩ := trodAll_nil r2
  obtain rfl : args = #[v0, v1, v2] := by cases args; simp_all
  obtain ⟨rfl, rfl⟩ := trodVars_none hV
  have k0 := h0
  have lt0 : ∀ x ∈ p0, x.block < W.heap.size := by obtain ⟨m, hm⟩ := k0; exact DataW.trod_lt m _ _ _ hm
  obtain ⟨a0_0, A0_1, c0_1, l0_1, rfl, hc0_1, hr0_1, g0⟩ := arg_Game (hval 0 24 v0 rfl rfl) h0
  obtain ⟨a1, rfl, rfl, rfl, w1⟩ := open_int Try.underlying3 (hval 1 3 v1 rfl rfl) h1
  obtain ⟨a2, rfl, rfl, rfl, w2⟩ := open_int Try.underlying3 (hval 2 3 v2 rfl rfl) h2
  clear hA0 hval0 hsz0 hsz
  obtain ⟨k, hk⟩ := FnExactMakePuzzle_pure a0_0 l0_1 a1 a2 g0 (bounds_i64 w1) (bounds_i64 w2) hr0_1.2.1 (C_inner hr0_1)
  refine (laws_FnExactMakePuzzle.calls k a0_0 A0_1 c0_1 l0_1 a1 a2 true W hr0_1 hc0_1 hk).mono fun e W' ⟨he, bel⟩ => ?_
  subst he
  exact ⟨_, rfl, _, _, _, [], _, [], hW', trodAll_mk1 (shut_bool Try.underlying4 _), (trodAll_cons_mk (Below.trod laidOut (by kernel_rfl) (of_decide_eq_true (by kernel_rfl)) k0 bel lt0) (trodAll_cons_mk (shut_int Try.underlying3 w1) (trodAll_cons_mk (shut_int Try.underlying3 w2) trodAll_mk0))), rfl, bel.frame _, fun h => by cases h⟩
theorem over : Rows.fnExactMakePuzzleRow.holds Try.pinned (OpenSpec.ofChange Rows.fnExactMakePuzzleSpec) :=
  OpenClaim.holds_of_wide 3 Try.f3 rfl rfl rfl rfl rfl rfl rfl ⟨rfl, rfl, rfl, rfl, rfl⟩ rfl rfl rfl rfl rfl (by kernel_rfl) Try.func3 (by kernel_rfl)
    (of_decide_eq_true (by kernel_rfl)) (by unfold Func.isWrapper; first | (rw [if_pos (by decide +kernel)]; kernel_rfl) | (rw [if_neg (by decide +kernel)]; exact ⟨rfl, rfl⟩))
    (fun os started H enc _ => lifted os started H enc)
theorem proved : Rows.FnExactMakePuzzleSaid := over
end Go.Proofs.Ytaacaifiiedoiaa.fnExactMakePuzzle
namespace Go.Proofs.Ytaacaifiiedoiaa
theorem fnExactMakePuzzle_holds : Rows.FnExactMakePuzzleSaid := fnExactMakePuzzle.proved
end Go.Proofs.Ytaacaifiiedoiaa
end
#print axioms Go.Proofs.Ytaacaifiiedoiaa.fnExactMakePuzzle_holds

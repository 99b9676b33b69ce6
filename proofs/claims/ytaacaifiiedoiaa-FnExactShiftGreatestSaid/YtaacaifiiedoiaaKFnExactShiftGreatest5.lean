/- The row of the law FnExactShiftGreatest: for every input it returns true, and its arguments read afterwards as before. No condition: FnExactShiftGreatest_pure says that its pure form answers true at every input, and laws_FnExactShiftGreatest.calls that the machine comes to just that. -/
import Derived.Test.YtaacaifiiedoiaaKFnExactShiftGreatest4
import Derived.Test.YtaacaifiiedoiaaRows
import Derived.Laws.StructEq
section
namespace Go.Proofs.Ytaacaifiiedoiaa.Q
open Go.RowKit Go.Proofs.YtaacaifiiedoiaaW.PrintWords Go.Proofs.YtaacaifiiedoiaaW.PrintLast Go.Proofs.YtaacaifiiedoiaaW.PrintMore
set_option linter.unusedVariables false
set_option linter.unusedSimpArgs false
theorem areSets_ev (l : List (List Int)) (n : Int) (hn : -1000000 ≤ n ∧ n ≤ 1000000) (hl : ∀ x ∈ l, x.length ≤ 1048576) : Ev (fun k => impl_areSets.f k l n) (l.all fun s => decide (s ≠ []) && isSetB s n) := by
  unfold impl_areSets.f
  refine ev_eqv (Ev.bind (ev_anyO (fun k => impl_areSets_1.f k n) (fun s => !(decide (s ≠ []) && isSetB s n)) l (fun x hx => ?_)) (Ev.now _)) (any_not_all _ _)
  unfold impl_areSets_1.f
  by_cases h : x = []
  · subst h; exact ev_pos (by simp) (Ev.now _)
  · have : x.length ≠ 0 := fun e => h (List.length_eq_zero_iff.1 e)
    refine ev_neg (by omega) (ev_eqv (Ev.bind (isSet_ev x n hn (Nat.le_trans (hl x hx) (by decide))) (Ev.now _)) ?_)
    rw [decide_eq_true h, Bool.true_and]
theorem IsGame_l0 (m : Int) (l : List (List Int)) (hl : l.length ≤ 1048576) (h : SetsOk m l) : Ev (fun k => impl_IsGame.l0 k l (l.length : Int) 0 m l) (allR (fun i => rises l i && apartI l i) l.length 0) := by
  refine ev_range l.length (fun k i => impl_IsGame.l0 k l (l.length : Int) (i : Int) m l) (fun i => allR (fun i => rises l i && apartI l i) l.length i) ?_ ?_ 0 (Nat.zero_le _)
  · refine ev_succ ?_
    simp only [impl_IsGame.l0]
    exact ev_neg (by omega) (ev_eqv (Ev.now _) (allR_end _ _).symm)
  · intro i hi ih
    rw [allR_step _ _ _ hi]
    have inner : rises l i = true → Ev (fun k => impl_IsGame.l1 k (i : Int) l[i] l (l.length : Int) (i : Int) l (l.length : Int) 0 m l) ((rises l i && apartI l i) && allR (fun i => rises l i && apartI l i) l.length (i + 1)) := by
      intro hr
      rw [hr, Bool.true_and]
      refine ev_range l.length (fun k h => impl_IsGame.l1 k (i : Int) l[i] l (l.length : Int) (i : Int) l (l.length : Int) (h : Int) m l) (fun h => allR (fun h => decide (h = i) || !(mk l i &&& mk l h == mk l h)) l.length h && allR (fun i => rises l i && apartI l i) l.length (i + 1)) ?_ ?_ 0 (Nat.zero_le _)
      · refine ev_succ ?_
        simp only [impl_IsGame.l1]
        refine ev_neg (by omega) ?_
        rw [allR_end, Bool.true_and, wrap_succ hi (by omega)]
        exact ih
      · intro j hj ihj
        refine ev_succ ?_
        simp only [impl_IsGame.l1]
        refine ev_pos (by omega) (ev_pos (by omega) (ev_pos (by omega) ?_))
        rw [rdL1_get hj, wrap_succ hj (by omega), allR_step _ _ _ hj]
        by_cases e : j = i
        · refine ev_pos (by omega) ?_
          rw [decide_eq_true e]
          exact ihj
        · refine ev_neg (by omega) (Ev.bind (h.masks hi).1 (Ev.bind (h.masks hj).1 ?_))
          rw [decide_eq_false e]
          by_cases c : (mk l i &&& mk l j == mk l j) = true
          · refine ev_pos ((and_eq_nat (h.lt hi) (h.lt hj)).2 c) ?_
            rw [c]; exact Ev.now _
          · refine ev_neg (fun x => c ((and_eq_nat (h.lt hi) (h.lt hj)).1 x)) ?_
            rw [Bool.not_eq_true] at c
            rw [c]; exact ihj
    refine ev_succ ?_
    simp only [impl_IsGame.l0]
    refine ev_pos (by omega) (ev_pos (by omega) (ev_pos (by omega) ?_))
    rw [rdL1_get hi]
    by_cases h0 : i = 0
    · subst h0
      refine ev_neg (by omega) (ev_succ ?_)
      simp only [impl_IsGame.j2]
      exact ev_neg (by simp) (inner (by simp [rises]))
    · have hp : i - 1 < l.length := by omega
      refine ev_pos (by omega) ?_
      rw [wrap_pred2 (by omega) (by omega)]
      refine ev_pos (by omega) (ev_pos (by omega) ?_)
      rw [rdL1_get hp]
      refine Ev.bind (Compare_ev _ _ (Nat.le_trans (h.2 _ (List.getElem_mem hp)).2 (by decide))) (ev_succ ?_)
      simp only [impl_IsGame.j2]
      have hr : rises l i = lexB l[i - 1] l[i] := by unfold rises; rw [decide_eq_false h0, Bool.false_or, getD_get hp, getD_get hi]
      rw [cmpL_ge, ← hr]
      cases hq : rises l i
      · exact ev_pos (by simp) (Ev.now _)
      · refine ev_neg (by simp) ?_
        have := inner hq
        rw [hq] at this
        exact this
theorem gmGood_l0 (m : Int) (l : List (List Int)) (hl : l.length ≤ 1048576) (h : SetsOk m l) : Ev (fun k => spec_gmGood.l0 k l (l.length : Int) 0 m l) (allR (fun i => rises l i && apartS l i) l.length 0) := by
  refine ev_range l.length (fun k i => spec_gmGood.l0 k l (l.length : Int) (i : Int) m l) (fun i => allR (fun i => rises l i && apartS l i) l.length i) ?_ ?_ 0 (Nat.zero_le _)
  · refine ev_succ ?_
    simp only [spec_gmGood.l0]
    exact ev_neg (by omega) (ev_eqv (Ev.now _) (allR_end _ _).symm)
  · intro i hi ih
    rw [allR_step _ _ _ hi]
    have inner : rises l i = true → Ev (fun k => spec_gmGood.l1 k (mk l i : Int) l (l.length : Int) (i : Int) (l.take i) ((l.take i).length : Int) 0 m l) ((rises l i && apartS l i) && allR (fun i => rises l i && apartS l i) l.length (i + 1)) := by
      intro hr
      rw [hr, Bool.true_and]
      have ht : (l.take i).length = i := by rw [List.length_take]; omega
      rw [ht]
      refine ev_range i (fun k h => spec_gmGood.l1 k (mk l i : Int) l (l.length : Int) (i : Int) (l.take i) (i : Int) (h : Int) m l) (fun h => allR (fun h => !(mk l i &&& mk l h == mk l i) && !(mk l i &&& mk l h == mk l h)) i h && allR (fun i => rises l i && apartS l i) l.length (i + 1)) ?_ ?_ 0 (Nat.zero_le _)
      · refine ev_succ ?_
        simp only [spec_gmGood.l1]
        refine ev_neg (by omega) ?_
        rw [allR_end, Bool.true_and, wrap_succ hi (by omega)]
        exact ih
      · intro j hj ihj
        have hjl : j < l.length := by omega
        have hjt : j < (l.take i).length := by omega
        refine ev_succ ?_
        simp only [spec_gmGood.l1]
        refine ev_pos (by omega) (ev_pos (by omega) (ev_pos (by omega) ?_))
        rw [rdL1_get hjt, List.getElem_take, wrap_succ hj (by omega), allR_step _ _ _ hj]
        refine Ev.bind (h.masks hjl).2 ?_
        by_cases c : (mk l i &&& mk l j == mk l i) = true
        · refine ev_pos ((and_eq_nat (h.lt hi) (h.lt hjl)).2 c) ?_
          rw [c]; exact Ev.now _
        · refine ev_neg (fun x => c ((and_eq_nat (h.lt hi) (h.lt hjl)).1 x)) ?_
          rw [Bool.not_eq_true] at c
          rw [c]
          by_cases c2 : (mk l i &&& mk l j == mk l j) = true
          · refine ev_pos ((and_eq_nat (h.lt hi) (h.lt hjl)).2 c2) ?_
            rw [c2]; exact Ev.now _
          · refine ev_neg (fun x => c2 ((and_eq_nat (h.lt hi) (h.lt hjl)).1 x)) ?_
            rw [Bool.not_eq_true] at c2
            rw [c2]; exact ihj
    have step : rises l i = true → Ev (fun k => spec_gmGood.j1 k (i : Int) l[i] l (l.length : Int) (i : Int) false m l) ((rises l i && apartS l i) && allR (fun i => rises l i && apartS l i) l.length (i + 1)) := by
      intro hr
      refine ev_succ ?_
      simp only [spec_gmGood.j1]
      refine ev_neg (by simp) (Ev.bind (h.masks hi).2 (ev_pos (by omega) (ev_pos (by omega) ?_)))
      simp only [Int.toNat_natCast, Option.bind_some]
      exact inner hr
    refine ev_succ ?_
    simp only [spec_gmGood.l0]
    refine ev_pos (by omega) (ev_pos (by omega) (ev_pos (by omega) ?_))
    rw [rdL1_get hi]
    by_cases h0 : i = 0
    · subst h0
      exact ev_neg (by omega) (step (by simp [rises]))
    · have hp : i - 1 < l.length := by omega
      refine ev_pos (by omega) ?_
      rw [wrap_pred2 (by omega) (by omega)]
      refine ev_pos (by omega) (ev_pos (by omega) ?_)
      rw [rdL1_get hp]
      have hr : rises l i = lexB l[i - 1] l[i] := by unfold rises; rw [decide_eq_false h0, Bool.false_or, getD_get hp, getD_get hi]
      refine Ev.bind (voBefore_ev _ _ (Nat.le_trans (h.2 _ (List.getElem_mem hp)).2 (by decide))) ?_
      rw [← hr]
      cases hq : rises l i
      · refine ev_succ ?_
        simp only [spec_gmGood.j1]
        exact ev_pos (by simp) (Ev.now _)
      · have := step hq
        rw [hq] at this
        exact this
theorem apart_same (l : List (List Int)) : allR (fun i => rises l i && apartS l i) l.length 0 = allR (fun i => rises l i && apartI l i) l.length 0 := by
  rw [Bool.eq_iff_iff, allR_iff, allR_iff]
  constructor
  · intro h i hi
    have hi' := h i hi
    rw [Bool.and_eq_true] at hi' ⊢
    refine ⟨hi'.1, (allR_iff _ _).2 fun j hj => ?_⟩
    rcases Nat.lt_trichotomy j i with c | c | c
    · have := (allR_iff _ _).1 hi'.2 j c
      rw [Bool.and_eq_true] at this
      rw [this.2, Bool.or_true]
    · rw [decide_eq_true c, Bool.true_or]
    · have hj' := h j hj
      rw [Bool.and_eq_true] at hj'
      have := (allR_iff _ _).1 hj'.2 i c
      rw [Bool.and_eq_true] at this
      rw [Nat.and_comm, this.1, Bool.or_true]
  · intro h i hi
    have hi' := h i hi
    rw [Bool.and_eq_true] at hi' ⊢
    refine ⟨hi'.1, (allR_iff _ _).2 fun j hj => ?_⟩
    have hjl : j < l.length := by omega
    have h1 := (allR_iff _ _).1 hi'.2 j hjl
    have hj' := h j hjl
    rw [Bool.and_eq_true] at hj'
    have h2 := (allR_iff _ _).1 hj'.2 i hi
    rw [decide_eq_false (by omega), Bool.false_or] at h1 h2
    rw [Nat.and_comm] at h2
    rw [h1, h2]; rfl
theorem few_sets {m : Int} {l : List (List Int)} (h : SetsOk m l) (ha : allR (fun i => rises l i && apartI l i) l.length 0 = true) : l.length ≤ 126 := by
  have hlen : ((List.range l.length).map (mk l)).length = l.length := by simp
  rw [← hlen]
  refine antichain9 _ (fun x hx => ?_) ?_
  · obtain ⟨i, hi, rfl⟩ := List.mem_map.1 hx
    exact h.lt (List.mem_range.1 hi)
  · rw [List.pairwise_map]
    refine List.pairwise_lt_range.imp_of_mem fun {i j} hi hj hij => ?_
    have key : ∀ i j, i < l.length → j < l.length → i ≠ j → mk l i &&& mk l j ≠ mk l j := fun i j hi hj hne => by
      have := (allR_iff _ _).1 ha i hi
      rw [Bool.and_eq_true] at this
      have := (allR_iff _ _).1 this.2 j hj
      rw [decide_eq_false (by omega), Bool.false_or] at this
      simpa using this
    have hi' := List.mem_range.1 hi
    have hj' := List.mem_range.1 hj
    exact ⟨by rw [Nat.and_comm]; exact key j i hj' hi' (by omega), key i j hi' hj' (by omega)⟩
theorem IsGame_ev (m : Int) (l : List (List Int)) (hl : l.length ≤ 1048576) (hb : ∀ x ∈ l, x.length ≤ 1048576) : Ev (fun k => impl_IsGame.f k m l) (gmOk m l) := by
  unfold impl_IsGame.f gmOk
  simp only [within_eq, Option.bind_some]
  refine ev_bool (fun hm => ?_) (fun hm => ?_)
  · rw [hm]
    have hm' := inB_iff.1 hm
    by_cases h0 : l = []
    · subst h0
      refine ev_pos rfl (ev_succ ?_)
      simp only [impl_IsGame.j0]
      exact ev_pos (by simp) (Ev.now _)
    · have : l.length ≠ 0 := fun e => h0 (List.length_eq_zero_iff.1 e)
      refine ev_neg (by omega) (Ev.bind (areSets_ev l m (by omega) hb) (ev_succ ?_))
      rw [decide_eq_true h0]
      simp only [impl_IsGame.j0]
      cases hs : l.all fun s => decide (s ≠ []) && isSetB s m
      · exact ev_pos (by simp) (Ev.now _)
      · exact ev_neg (by simp) (IsGame_l0 m l hl (SetsOk.of hm hs hb))
  · rw [hm]
    refine ev_succ ?_
    simp only [impl_IsGame.j0]
    exact ev_pos (by simp) (Ev.now _)
theorem gmSets_l0 (m : Int) (l : List (List Int)) (hm : 1 ≤ m ∧ m ≤ 9) (hl : l.length ≤ 1048576) (hb : ∀ x ∈ l, x.length ≤ 1048576) : Ev (fun k => spec_gmSets.l0 k m l (l.length : Int) 0) (l.all fun s => decide (s ≠ []) && isSetB s m) := by
  have := ev_range l.length (fun k i => spec_gmSets.l0 k m l (l.length : Int) (i : Int)) (fun i => (l.drop i).all fun s => decide (s ≠ []) && isSetB s m) ?_ ?_ 0 (Nat.zero_le _)
  · simpa using this
  · refine ev_succ ?_
    simp only [spec_gmSets.l0]
    exact ev_neg (by omega) (ev_eqv (Ev.now _) (by rw [drop_end]; rfl))
  · intro i hi ih
    refine ev_succ ?_
    simp only [spec_gmSets.l0]
    refine ev_pos (by omega) (ev_pos (by omega) (ev_pos (by omega) ?_))
    rw [rdL1_get hi, wrap_succ hi (by omega), all_drop _ _ _ hi]
    by_cases h0 : l[i] = []
    · refine ev_pos (by rw [h0]; rfl) (ev_eqv (Ev.now _) ?_)
      rw [decide_eq_false (by simpa using h0)]; rfl
    · have : l[i].length ≠ 0 := fun e => h0 (List.length_eq_zero_iff.1 e)
      refine ev_neg (by omega) (Ev.bind (voSet_ev l[i] m (by omega) (Nat.le_trans (hb _ (List.getElem_mem hi)) (by decide))) ?_)
      rw [decide_eq_true h0, Bool.true_and]
      exact ev_bool (fun h => by rw [h]; exact ih) (fun h => by rw [h]; exact Ev.now _)
theorem gmGood_ev (m : Int) (l : List (List Int)) (hl : l.length ≤ 1048576) (hb : ∀ x ∈ l, x.length ≤ 1048576) : Ev (fun k => spec_gmGood.f k m l) (gmOk m l) := by
  unfold spec_gmGood.f
  have hS : Ev (fun k => spec_gmSets.f k m l 126) (inB m 1 9 && (inB (l.length : Int) 1 126 && l.all fun s => decide (s ≠ []) && isSetB s m)) := by
    unfold spec_gmSets.f
    simp only [l1In_eq, Option.bind_some]
    refine ev_bool (fun hm => ?_) (fun hm => ?_)
    · rw [hm]
      refine ev_succ ?_
      simp only [spec_gmSets.j0]
      cases hn : inB (l.length : Int) 1 126
      · exact ev_pos (by simp) (Ev.now _)
      · exact ev_neg (by simp) (gmSets_l0 m l (inB_iff.1 hm) hl hb)
    · rw [hm]
      refine ev_succ ?_
      simp only [spec_gmSets.j0]
      exact ev_pos (by simp) (Ev.now _)
  refine Ev.bind hS (ev_bool (fun h => ?_) (fun h => ?_))
  · rw [Bool.and_eq_true, Bool.and_eq_true] at h
    refine ev_eqv (gmGood_l0 m l hl (SetsOk.of h.1 h.2.2 hb)) ?_
    have hn := inB_iff.1 h.2.1
    unfold gmOk
    rw [h.1, h.2.2, decide_eq_true (show l ≠ [] from fun e => by subst e; simp at hn), apart_same]; rfl
  · refine ev_eqv (Ev.now _) ?_
    symm
    rw [← Bool.not_eq_true]
    intro hg
    unfold gmOk at hg
    rw [Bool.and_eq_true, Bool.and_eq_true, Bool.and_eq_true] at hg
    obtain ⟨hm, h0, hs, ha⟩ := hg
    have := few_sets (SetsOk.of hm hs hb) ha
    have h0' : l.length ≠ 0 := fun e => (of_decide_eq_true h0) (List.length_eq_zero_iff.1 e)
    rw [hm, hs, show inB (l.length : Int) 1 126 = true from inB_iff.2 (by omega)] at h
    cases h
theorem rdOf_get {xs : List Bool} {i : Nat} (h : i < xs.length) : rdOf false xs (i : Int) = xs[i] := by unfold rdOf; rw [Int.toNat_natCast]; exact getD_get h
def tabB (g : Nat → Bool) (n : Nat) : List Bool := (List.range n).map g
theorem tabB_len (g : Nat → Bool) (n : Nat) : (tabB g n).length = n := by simp [tabB]
theorem tabB_get (g : Nat → Bool) (n i : Nat) (h : i < (tabB g n).length) : (tabB g n)[i] = g i := by simp [tabB]
theorem tabB_succ (g : Nat → Bool) (n : Nat) : tabB g (n + 1) = tabB g n ++ [g n] := by simp [tabB, List.range_succ]
theorem tabB_set (g : Nat → Bool) (i : Nat) (b b' : Bool) (l : List Bool) : (tabB g i ++ b :: l).set i b' = tabB g i ++ b' :: l := by
  rw [List.set_append_right _ _ (by rw [tabB_len]; omega), tabB_len, Nat.sub_self]; rfl
theorem tabB_rd (g : Nat → Bool) (i : Nat) (b : Bool) (l : List Bool) : rdOf false (tabB g i ++ b :: l) (i : Int) = b := by
  rw [rdOf_get (by rw [List.length_append, tabB_len, List.length_cons]; omega), List.getElem_append_right (by rw [tabB_len]; omega)]
  simp [tabB_len]
theorem tabB_next (g : Nat → Bool) (i : Nat) (l : List Bool) : tabB g i ++ g i :: l = tabB g (i + 1) ++ l := by rw [tabB_succ, List.append_assoc]; rfl
def winB (l : List (List Int)) (i : Nat) : Bool := l.any fun s => i &&& maskN 0 s == maskN 0 s
def winT (m : Int) (l : List (List Int)) : List Bool := tabB (winB l) (2 ^ m.toNat)
theorem and_self_nat {a b : Nat} (ha : a < 512) (hb : b < 512) : (Go.bits .and .i64 (a : Int) (b : Int) == (b : Int)) = (a &&& b == b) := by
  rw [Bool.eq_iff_iff, ← and_eq_nat ha hb, beq_iff_eq]
theorem pow_le512 {m : Int} (h : 1 ≤ m ∧ m ≤ 9) : 2 ^ m.toNat ≤ 512 := Nat.pow_le_pow_right (n := 2) (by decide) (show m.toNat ≤ 9 by omega)
theorem voAll_nat {m : Int} (h : 1 ≤ m ∧ m ≤ 9) : spec_voAll.f m = some (((2 ^ m.toNat - 1 : Nat) : Int)) := by
  rw [voAll_eq m (by omega)]
  have : 1 ≤ 2 ^ m.toNat := Nat.one_le_two_pow
  congr 1
  rw [Int.ofNat_sub this]; simp
theorem gmWins_l1 (n i : Nat) (m : Int) (l : List (List Int)) (hl : l.length ≤ 1048576) (h : SetsOk m l) (hi : i < n) (hn : n ≤ 512) (r : List Bool) (ih : Ev (fun k => spec_gmWins.l0 k l (tabB (winB l) (i + 1) ++ List.replicate (n - (i + 1)) false) (n : Int) ((i + 1 : Nat) : Int)) r) :
    ∀ j, j ≤ l.length → Ev (fun k => spec_gmWins.l1 k l (tabB (winB l) i ++ ((l.take j).any fun s => i &&& maskN 0 s == maskN 0 s) :: List.replicate (n - (i + 1)) false) (i : Int) (n : Int) (i : Int) l (l.length : Int) (j : Int)) r := by
  have hlen : ∀ b : Bool, (tabB (winB l) i ++ b :: List.replicate (n - (i + 1)) false).length = n := fun b => by rw [List.length_append, tabB_len, List.length_cons, List.length_replicate]; omega
  refine ev_range l.length (fun k j => spec_gmWins.l1 k l (tabB (winB l) i ++ ((l.take j).any fun s => i &&& maskN 0 s == maskN 0 s) :: List.replicate (n - (i + 1)) false) (i : Int) (n : Int) (i : Int) l (l.length : Int) (j : Int)) (fun _ => r) ?_ ?_
  · refine ev_succ ?_
    simp only [spec_gmWins.l1]
    refine ev_neg (Int.lt_irrefl _) ?_
    rw [List.take_length, wrap_succ hi (Nat.le_trans hn (by decide))]
    have e : (l.any fun s => i &&& maskN 0 s == maskN 0 s) = winB l i := by unfold winB; rfl
    rw [e, tabB_next]
    exact ih
  · intro j hj ihj
    refine ev_succ ?_
    simp only [spec_gmWins.l1]
    refine ev_pos (by omega) (ev_pos (by omega) (ev_pos (by omega) ?_))
    rw [rdL1_get hj, wrap_succ hj (Nat.le_trans hl (by decide))]
    have hm := (h.masks hj).2
    have hk : mk l j = maskN 0 l[j] := by unfold mk; rw [getD_get hj]
    have hlt := h.lt hj
    rw [hk] at hm hlt
    refine Ev.bind hm (ev_pos (by omega) (ev_pos (by rw [hlen]; omega) ?_))
    rw [tabB_rd, Int.toNat_natCast, tabB_set, tabB_set, and_self_nat (by omega) hlt]
    rw [List.take_succ_eq_append_getElem hj, List.any_append] at ihj
    simp only [List.any_cons, List.any_nil, Bool.or_false] at ihj
    refine ev_bool (fun e => ?_) (fun e => ?_)
    · rw [e, Bool.true_or] at ihj; exact ihj
    · rw [e, Bool.false_or] at ihj; exact ihj
theorem gmWins_l0 (n : Nat) (m : Int) (l : List (List Int)) (hl : l.length ≤ 1048576) (h : SetsOk m l) (hn : n ≤ 512) :
    Ev (fun k => spec_gmWins.l0 k l (List.replicate n false) (n : Int) 0) (tabB (winB l) n) := by
  have := ev_range n (fun k i => spec_gmWins.l0 k l (tabB (winB l) i ++ List.replicate (n - i) false) (n : Int) (i : Int)) (fun _ => tabB (winB l) n) ?_ ?_ 0 (Nat.zero_le _)
  · simpa [tabB] using this
  · refine ev_succ ?_
    simp only [spec_gmWins.l0]
    exact ev_neg (Int.lt_irrefl _) (ev_eqv (Ev.now _) (by simp))
  · intro i hi ih
    refine ev_succ ?_
    simp only [spec_gmWins.l0]
    refine ev_pos (by omega) ?_
    have := gmWins_l1 n i m l hl h hi hn _ ih 0 (Nat.zero_le _)
    rw [show n - i = (n - (i + 1)) + 1 by omega, List.replicate_succ]
    simpa using this
theorem gmWins_ev (m : Int) (l : List (List Int)) (hl : l.length ≤ 1048576) (h : SetsOk m l) : Ev (fun k => spec_gmWins.f k m l) (winT m l) := by
  have hp := pow_le512 h.1
  have h1 : 1 ≤ 2 ^ m.toNat := Nat.one_le_two_pow
  have hw : wrap64 (((2 ^ m.toNat - 1 : Nat) : Int) + 1) = ((2 ^ m.toNat : Nat) : Int) := by
    generalize 2 ^ m.toNat = n at hp h1
    unfold wrap64; omega
  have hl0 := gmWins_l0 (2 ^ m.toNat) m l hl h hp
  unfold spec_gmWins.f winT
  refine ev_bindS (voAll_nat h.1) ?_
  generalize 2 ^ m.toNat = n at *
  rw [hw]
  have hn2 : (n : Int).toNat ≤ 281474976710656 := by rw [Int.toNat_natCast]; exact Nat.le_trans hp (by decide)
  refine ev_pos (Int.natCast_nonneg n) (ev_pos hn2 (ev_bindS rfl ?_))
  simp only [Int.toNat_natCast, List.length_replicate]
  exact hl0
theorem andNot_nat (a b : Nat) (ha : a < 2 ^ 62) (hb : b < 2 ^ 62) : Go.bits .andNot .i64 (a : Int) (b : Int) = ((a ^^^ (a &&& b) : Nat) : Int) := by
  have ha' : a % 2 ^ 64 = a := Nat.mod_eq_of_lt (by omega)
  have hb' : b % 2 ^ 64 = b := Nat.mod_eq_of_lt (by omega)
  have e : a &&& (2 ^ 64 - (b + 1)) = a ^^^ (a &&& b) := by
    refine Nat.eq_of_testBit_eq fun i => ?_
    rw [Nat.testBit_and, Nat.testBit_xor, Nat.testBit_and, Nat.testBit_two_pow_sub_succ (by omega)]
    by_cases hi : i < 64
    · cases a.testBit i <;> cases b.testBit i <;> simp [hi]
    · have : a.testBit i = false := Nat.testBit_lt_two_pow (Nat.lt_of_lt_of_le (show a < 2 ^ 64 by omega) (Nat.pow_le_pow_right (by decide) (by omega)))
      simp [this]
  have h : Go.bits .andNot .i64 (a : Int) (b : Int) = IntKind.i64.wrap ((a &&& (2 ^ 64 - 1 - b % 2 ^ 64) : Nat) : Int) := by
    show IntKind.i64.wrap ((BitVec.ofInt 64 (a : Int) &&& ~~~ (BitVec.ofInt 64 (b : Int))).toNat : Int) = _
    rw [BitVec.ofInt_natCast, BitVec.ofInt_natCast, BitVec.toNat_and, BitVec.toNat_not, BitVec.toNat_ofNat, BitVec.toNat_ofNat, ha']
  rw [h, hb', show 2 ^ 64 - 1 - b = 2 ^ 64 - (b + 1) by omega, e]
  have : a ^^^ (a &&& b) < 2 ^ 62 := Nat.xor_lt_two_pow ha (Nat.and_lt_two_pow _ hb)
  exact wraps_i64 _ (by omega) (by exact_mod_cast this)
def bitB (m i : Nat) : Bool := m >>> i % 2 == 1
theorem has_eq (m i : Nat) (hm : m < 65536) (hi : i ≤ 64) : impl_has.f (m : Int) (i : Int) = some (bitB m i) := by
  unfold impl_has.f bitB
  have h2 : m >>> i < 2 ^ 62 := shr_lt _ _ (by omega)
  rw [if_pos (by omega), shr_nat _ _ hi, and_one_nat _ h2]
  congr 1
  rw [Bool.eq_iff_iff, beq_iff_eq, beq_iff_eq]
  omega
theorem tmod_bit (m i : Nat) (hi : i ≤ 64) : Int.tmod (shr .i64 (m : Int) (i : Int)) 2 = 0 ↔ bitB m i = false := by
  rw [shr_nat _ _ hi, tmod_two]
  unfold bitB
  rw [beq_eq_false_iff_ne]
  omega
theorem tmod_bit1 (m i : Nat) (hi : i ≤ 64) : Int.tmod (shr .i64 (m : Int) (i : Int)) 2 = 1 ↔ bitB m i = true := by
  rw [shr_nat _ _ hi, tmod_two]
  unfold bitB
  rw [beq_iff_eq]
  omega
theorem fin512 {P : Nat → Nat → Prop} [∀ m i, Decidable (P m i)] (h : ((List.range 512).all fun m => (List.range 9).all fun i => decide (P m i)) = true) : ∀ m i, m < 512 → i < 9 → P m i := fun m i hm hi =>
  of_decide_eq_true (List.all_eq_true.1 (List.all_eq_true.1 h m (List.mem_range.2 hm)) i (List.mem_range.2 hi))
theorem or_bit : ∀ m i, m < 512 → i < 9 → m ||| 2 ^ i = if bitB m i = true then m else m + 2 ^ i := fin512 (by decide +kernel)
theorem xor_bit : ∀ m i, m < 512 → i < 9 → m ^^^ 2 ^ i = if bitB m i = true then m - 2 ^ i else m + 2 ^ i := fin512 (by decide +kernel)
theorem rdOf_tab {g : Nat → Bool} {N i : Nat} (h : i < N) : rdOf false (tabB g N) (i : Int) = g i := by
  rw [rdOf_get (by rw [tabB_len]; exact h), tabB_get]
theorem pow_lt9 {i n : Nat} (h : i < n) (hn : n ≤ 9) : 2 ^ i < 2 ^ n ∧ 2 ^ n ≤ 512 :=
  ⟨Nat.pow_lt_pow_right (by decide) h, Nat.pow_le_pow_right (n := 2) (by decide) hn⟩
theorem or_shl (m i : Nat) (hm : m < 512) (hi : i < 9) (hb : bitB m i = false) : Go.bits .or .i64 (m : Int) (shl .i64 1 (i : Int)) = ((m + 2 ^ i : Nat) : Int) := by
  have hp := (pow_lt9 (show i < 9 from hi) (Nat.le_refl _)).1
  rw [shl_one_nat i (by omega), or_nat m (2 ^ i) (by omega) (by omega), or_bit m i hm hi, if_neg (by simp [hb])]
theorem add_lt (m i n : Nat) (hn : n ≤ 9) (hm : m < 2 ^ n) (hi : i < n) (hb : bitB m i = false) : m + 2 ^ i < 2 ^ n := by
  have hp := (pow_lt9 hi hn).2
  have := Nat.or_lt_two_pow hm (pow_lt9 hi hn).1
  rw [or_bit m i (by omega) (by omega), if_neg (by simp [hb])] at this
  exact this
def allB (p : Nat → Bool) (n m : Nat) : Bool := (List.range (n - m)).all fun j => p (m + j)
theorem allB_end (p : Nat → Bool) (n : Nat) : allB p n n = true := by simp [allB]
theorem allB_step (p : Nat → Bool) (n m : Nat) (h : m < n) : allB p n m = (p m && allB p n (m + 1)) := by
  obtain ⟨d, rfl⟩ := Nat.exists_eq_add_of_lt h
  unfold allB
  rw [show m + d + 1 - m = d + 1 by omega, show m + d + 1 - (m + 1) = d by omega, List.range_succ_eq_map, List.all_cons, List.all_map]
  simp only [Nat.add_zero, Function.comp_def, Nat.succ_eq_add_one, Nat.add_assoc, Nat.add_comm, Nat.add_left_comm]
def wsB (g : Nat → Bool) (i j m : Nat) : Bool := !(!bitB m i && !bitB m j && g (m + 2 ^ j) && !g (m + 2 ^ i))
theorem isWorth_ev (a : Int) (g : Nat → Bool) (n i j : Nat) (hn : n ≤ 9) (hi : i < n) (hj : j < n) : Ev (fun k => impl_votes_isWorth.f k a (tabB g (2 ^ n)) (i : Int) (j : Int)) (allB (wsB g i j) (2 ^ n) 0) := by
  have hp := (pow_lt9 hi hn).2
  unfold impl_votes_isWorth.f
  rw [tabB_len]
  have := ev_range (2 ^ n) (fun k m => impl_votes_isWorth.l0 k (i : Int) (j : Int) ((2 ^ n : Nat) : Int) (m : Int) a (tabB g (2 ^ n))) (fun m => allB (wsB g i j) (2 ^ n) m) ?_ ?_ 0 (Nat.zero_le _)
  · exact this
  · refine ev_succ ?_
    simp only [impl_votes_isWorth.l0]
    rw [allB_end]
    exact ev_neg (Int.lt_irrefl _) (Ev.now _)
  · intro m hm ih
    refine ev_succ ?_
    simp only [impl_votes_isWorth.l0]
    rw [allB_step _ _ _ hm]
    refine ev_pos (by omega) (ev_bindS (has_eq m i (by omega) (by omega)) ?_)
    rw [wrap_succ hm (by omega)]
    refine ev_bool (fun e => by simpa [wsB, e] using ih) (fun e => ?_)
    refine ev_bindS (has_eq m j (by omega) (by omega)) ?_
    refine ev_bool (fun e2 => by simpa [wsB, e2] using ih) (fun e2 => ?_)
    rw [or_shl m i (by omega) (by omega) e, or_shl m j (by omega) (by omega) e2, tabB_len, rdOf_tab (add_lt m j n hn hm hj e2), rdOf_tab (add_lt m i n hn hm hi e)]
    have l1 := add_lt m j n hn hm hj e2
    have l2 := add_lt m i n hn hm hi e
    refine ev_pos (by omega) (ev_pos (Int.natCast_nonneg _) (ev_pos (Int.ofNat_lt.2 l1) ?_))
    refine ev_bool (fun e3 => ?_) (fun e3 => by simpa [wsB, e3] using ih)
    refine ev_pos (by omega) (ev_pos (Int.natCast_nonneg _) (ev_pos (Int.ofNat_lt.2 l2) ?_))
    refine ev_bool (fun e4 => by simpa [wsB, e4] using ih) (fun e4 => ?_)
    simpa [wsB, e, e2, e3, e4] using (Ev.now _)
theorem wrap_nat (x : Nat) (h : x < 1152921504606846976) : wrap64 (x : Int) = (x : Int) := wrap64_id (by omega)
theorem deWorth_ev (g : Nat → Bool) (n i j : Nat) (hn : n ≤ 9) (hi : i < n) (hj : j < n) : Ev (fun k => spec_deWorth.f k (tabB g (2 ^ n)) (i : Int) (j : Int)) (allB (wsB g i j) (2 ^ n) 0) := by
  have hp := (pow_lt9 hi hn).2
  unfold spec_deWorth.f
  rw [tabB_len]
  have := ev_range (2 ^ n) (fun k m => spec_deWorth.l0 k (tabB g (2 ^ n)) (i : Int) (j : Int) ((2 ^ n : Nat) : Int) (m : Int)) (fun m => allB (wsB g i j) (2 ^ n) m) ?_ ?_ 0 (Nat.zero_le _)
  · exact this
  · refine ev_succ ?_
    simp only [spec_deWorth.l0]
    rw [allB_end]
    exact ev_neg (Int.lt_irrefl _) (Ev.now _)
  · intro m hm ih
    refine ev_succ ?_
    simp only [spec_deWorth.l0]
    rw [allB_step _ _ _ hm]
    refine ev_pos (by omega) (ev_pos (by omega) ?_)
    rw [wrap_succ hm (by omega)]
    by_cases e0 : bitB m i = false
    case neg => exact ev_neg (fun h => e0 ((tmod_bit m i (by omega)).1 h)) (by have e := eq_true_of_ne_false e0; simpa [wsB, e] using ih)
    refine ev_pos ((tmod_bit m i (by omega)).2 e0) (ev_pos (by omega) ?_)
    by_cases e2 : bitB m j = false
    case neg => exact ev_neg (fun h => e2 ((tmod_bit m j (by omega)).1 h)) (by have e := eq_true_of_ne_false e2; simpa [wsB, e] using ih)
    refine ev_pos ((tmod_bit m j (by omega)).2 e2) ?_
    have l1 := add_lt m j n hn hm hj e2
    have l2 := add_lt m i n hn hm hi e0
    have w1 : wrap64 ((m : Int) + shl .i64 1 (j : Int)) = ((m + 2 ^ j : Nat) : Int) := by rw [shl_one_nat j (by omega), ← Int.natCast_add]; exact wrap_nat _ (by omega)
    have w2 : wrap64 ((m : Int) + shl .i64 1 (i : Int)) = ((m + 2 ^ i : Nat) : Int) := by rw [shl_one_nat i (by omega), ← Int.natCast_add]; exact wrap_nat _ (by omega)
    rw [w1, w2, tabB_len, rdOf_tab l1, rdOf_tab l2]
    refine ev_pos (Int.natCast_nonneg _) (ev_pos (Int.ofNat_lt.2 l1) ?_)
    refine ev_bool (fun e3 => ?_) (fun e3 => by simpa [wsB, e3] using ih)
    refine ev_pos (Int.natCast_nonneg _) (ev_pos (Int.ofNat_lt.2 l2) ?_)
    refine ev_bool (fun e4 => by simpa [wsB, e4] using ih) (fun e4 => ?_)
    simpa [wsB, e0, e2, e3, e4] using (Ev.now _)
def grB (g : Nat → Bool) (n i j : Nat) : Bool := allB (wsB g i j) (2 ^ n) 0 && !allB (wsB g j i) (2 ^ n) 0
theorem isGreater_ev (a : Int) (g : Nat → Bool) (n i j : Nat) (hn : n ≤ 9) (hi : i < n) (hj : j < n) : Ev (fun k => impl_votes_isGreater.f k a (tabB g (2 ^ n)) (i : Int) (j : Int)) (grB g n i j) := by
  unfold impl_votes_isGreater.f grB
  refine Ev.bind (isWorth_ev a g n i j hn hi hj) ?_
  refine ev_bool (fun e => ?_) (fun e => ?_)
  · exact Ev.bind (isWorth_ev a g n j i hn hj hi) (by rw [e]; exact Ev.now _)
  · rw [e]; exact Ev.now _
theorem deGreater_ev (g : Nat → Bool) (n i j : Nat) (hn : n ≤ 9) (hi : i < n) (hj : j < n) : Ev (fun k => spec_deGreater.f k (tabB g (2 ^ n)) (i : Int) (j : Int)) (grB g n i j) := by
  unfold spec_deGreater.f grB
  refine Ev.bind (deWorth_ev g n i j hn hi hj) ?_
  refine ev_bool (fun e => ?_) (fun e => ?_)
  · exact Ev.bind (deWorth_ev g n j i hn hj hi) (by rw [e]; exact Ev.now _)
  · rw [e]; exact Ev.now _
def posS (x : List Int) : List (List Int) → Nat
  | [] => 0
  | y :: ys => if lexB y x = true then posS x ys + 1 else 0
theorem posS_cons (x y : List Int) (ys : List (List Int)) : posS x (y :: ys) = if lexB y x = true then posS x ys + 1 else 0 := rfl
theorem insS_pos (x : List Int) : ∀ l, l.take (posS x l) ++ [x] ++ l.drop (posS x l) = insL lexB x l
  | [] => rfl
  | y :: ys => by
    have ih := insS_pos x ys
    unfold posS insL
    by_cases h : lexB y x = true
    · simp only [if_pos h, List.take_succ_cons, List.drop_succ_cons, List.cons_append]; rw [ih]
    · simp only [if_neg h]; rfl
theorem rdN_get {xs : List (List Int)} {i : Nat} (h : i < xs.length) : rdOf [] xs (i : Int) = xs[i] := by unfold rdOf; rw [Int.toNat_natCast]; exact getD_get h
theorem voSorted_l1 (x : List Int) (x8 : List (List Int)) (x9 x10 : Int) (l r : List (List Int)) (hl : l.length ≤ 1048576) (hx : ∀ y ∈ l, y.length ≤ 1048576) (ih : Ev (fun k => spec_voSorted.l0 k (insL lexB x l) x8 x9 (wrap64 (x10 + 1))) r) :
    ∀ (d i : Nat), i + d = l.length → i + posS x (l.drop i) = posS x l → Ev (fun k => spec_voSorted.l1 k l x (i : Int) x8 x9 x10) r
  | 0, i, hi, hp => by
    have hi' : i = l.length := by omega
    have e : posS x l = i := by rw [← hp, hi', List.drop_length]; rfl
    have ih' := ih
    rw [← insS_pos, e] at ih'
    refine ev_succ ?_
    simp only [spec_voSorted.l1, Option.bind_some, List.nil_append, List.length_nil, Nat.zero_add, Int.toNat_natCast, List.length_append, List.length_take, List.length_drop, List.length_cons]
    exact ev_neg (by omega) (ev_pos (by omega) (ev_pos (by omega) (ev_pos (by omega) (ev_pos (by omega) (ev_pos (by omega) ih')))))
  | d + 1, i, hi, hp => by
    have hlt : i < l.length := by omega
    refine ev_succ ?_
    simp only [spec_voSorted.l1, Option.bind_some, List.nil_append, List.length_nil, Nat.zero_add, Int.toNat_natCast, List.length_append, List.length_take, List.length_drop, List.length_cons]
    rw [List.drop_eq_getElem_cons hlt] at hp
    refine ev_pos (by omega) (ev_pos (by omega) ?_)
    rw [rdN_get hlt]
    refine Ev.bind (voBefore_ev _ _ (Nat.le_trans (hx _ (List.getElem_mem hlt)) (by decide))) (ev_bool (fun e => ?_) (fun e => ?_))
    · rw [wrap_succ hlt (by omega)]
      rw [posS_cons, if_pos e] at hp
      exact voSorted_l1 x x8 x9 x10 l r hl hx ih d (i + 1) (by omega) (by rw [← hp]; omega)
    · have e2 : posS x l = i := by
        rw [← hp, posS_cons, if_neg (by rw [e]; decide)]; rfl
      have ih' := ih
      rw [← insS_pos, e2] at ih'
      exact ev_pos (by omega) (ev_pos (by omega) (ev_pos (by omega) (ev_pos (by omega) ih')))
theorem foldS_step (l : List (List Int)) (i : Nat) (h : i < l.length) : (l.take (i + 1)).foldl (fun out x => insL lexB x out) [] = insL lexB l[i] ((l.take i).foldl (fun out x => insL lexB x out) []) := by
  rw [List.take_succ_eq_append_getElem h, List.foldl_append]; rfl
theorem voSorted_ev (l : List (List Int)) (hl : l.length ≤ 1048576) (hx : ∀ y ∈ l, y.length ≤ 1048576) : Ev (fun k => spec_voSorted.f k l) (sortL lexB l) := by
  unfold spec_voSorted.f
  have := ev_range l.length (fun k i => spec_voSorted.l0 k ((l.take i).foldl (fun out x => insL lexB x out) []) l (l.length : Int) (i : Int)) (fun _ => sortL lexB l) ?_ ?_ 0 (Nat.zero_le _)
  · exact this
  · refine ev_succ ?_
    simp only [spec_voSorted.l0, List.take_length]
    exact ev_neg (by omega) (Ev.now _)
  · intro i hi ih
    refine ev_succ ?_
    simp only [spec_voSorted.l0]
    refine ev_pos (by omega) (ev_pos (by omega) (ev_pos (by omega) ?_))
    rw [rdN_get hi]
    have hp := foldl_perm lexB (l.take i) []
    rw [List.append_nil] at hp
    have hlen : ((l.take i).foldl (fun out x => insL lexB x out) []).length ≤ l.length := by rw [hp.length_eq, List.length_take]; omega
    have := voSorted_l1 l[i] l (l.length : Int) (i : Int) _ (sortL lexB l) (Nat.le_trans hlen hl) (fun y hy => hx y (List.mem_of_mem_take (hp.mem_iff.1 hy))) ?_ _ 0 (Nat.zero_add _) (by simp)
    · exact this
    · rw [wrap_succ hi (by omega), ← foldS_step l i hi]; exact ih
theorem xor_nat (a b : Nat) (ha : a < 2 ^ 62) (hb : b < 2 ^ 62) : Go.bits .xor .i64 (a : Int) (b : Int) = ((a ^^^ b : Nat) : Int) := by
  have ha' : a % 2 ^ 64 = a := Nat.mod_eq_of_lt (by omega)
  have hb' : b % 2 ^ 64 = b := Nat.mod_eq_of_lt (by omega)
  have h : Go.bits .xor .i64 (a : Int) (b : Int) = IntKind.i64.wrap ((a ^^^ b : Nat) : Int) := by
    show IntKind.i64.wrap ((BitVec.ofInt 64 (a : Int) ^^^ (BitVec.ofInt 64 (b : Int))).toNat : Int) = _
    rw [BitVec.ofInt_natCast, BitVec.ofInt_natCast, BitVec.toNat_xor, BitVec.toNat_ofNat, BitVec.toNat_ofNat, ha', hb']
  rw [h]
  have : a ^^^ b < 2 ^ 62 := Nat.xor_lt_two_pow ha hb
  exact wraps_i64 _ (by omega) (by exact_mod_cast this)
theorem xor_shl (m i : Nat) (hm : m < 512) (hi : i < 9) : Go.bits .xor .i64 (m : Int) (shl .i64 1 (i : Int)) = ((m ^^^ 2 ^ i : Nat) : Int) := by
  rw [shl_one_nat i (by omega)]
  exact xor_nat m (2 ^ i) (by omega) (Nat.lt_of_le_of_lt (Nat.pow_le_pow_right (by decide) (show i ≤ 9 by omega)) (by decide))
theorem xor_lt (m i n : Nat) (hm : m < 2 ^ n) (hi : i < n) : m ^^^ 2 ^ i < 2 ^ n := Nat.xor_lt_two_pow hm (Nat.pow_lt_pow_right (by decide) hi)
theorem swap_bits : ((List.range 512).all fun m => (List.range 9).all fun i => (List.range 9).all fun j => !(bitB m i && !bitB m j) || ((m ^^^ (m &&& 2 ^ i)) ||| 2 ^ j) == (m ^^^ 2 ^ i ^^^ 2 ^ j)) = true := by decide +kernel
theorem swap_eq (m i j : Nat) (hm : m < 512) (hi : i < 9) (hj : j < 9) (h1 : bitB m i = true) (h2 : bitB m j = false) : (m ^^^ (m &&& 2 ^ i)) ||| 2 ^ j = m ^^^ 2 ^ i ^^^ 2 ^ j := by
  have := List.all_eq_true.1 (List.all_eq_true.1 (List.all_eq_true.1 swap_bits m (List.mem_range.2 hm)) i (List.mem_range.2 hi)) j (List.mem_range.2 hj)
  rw [h1, h2] at this
  simpa using this
theorem swap_shl (m i j n : Nat) (hn : n ≤ 9) (hm : m < 2 ^ n) (hi : i < n) (hj : j < n) (h1 : bitB m i = true) (h2 : bitB m j = false) :
    Go.bits .or .i64 (Go.bits .andNot .i64 (m : Int) (shl .i64 1 (i : Int))) (shl .i64 1 (j : Int)) = ((m ^^^ 2 ^ i ^^^ 2 ^ j : Nat) : Int) := by
  have hp := (pow_lt9 hi hn)
  have hq := (pow_lt9 hj hn)
  rw [shl_one_nat i (by omega), shl_one_nat j (by omega), andNot_nat m (2 ^ i) (by omega) (by omega), or_nat _ _ ?_ (by omega), swap_eq m i j (by omega) (by omega) (by omega) h1 h2]
  exact Nat.lt_of_lt_of_le (Nat.xor_lt_two_pow (show m < 2 ^ 9 by omega) (Nat.and_lt_two_pow _ (show 2 ^ i < 2 ^ 9 by omega))) (by decide)
theorem allB_iff (p : Nat → Bool) (n : Nat) : allB p n 0 = true ↔ ∀ i, i < n → p i = true := by
  unfold allB
  rw [List.all_eq_true]
  exact ⟨fun h i hi => by simpa using h i (List.mem_range.2 (by omega)), fun h i hi => by have := h i (by have := List.mem_range.1 hi; omega); simpa using this⟩
def pjB (b : Bool) (g : Nat → Bool) (n m i j : Nat) : Bool := (bitB m j == b) || (!grB g n i j || (g (m ^^^ 2 ^ i ^^^ 2 ^ j) != b))
def piB (b : Bool) (g : Nat → Bool) (n m i : Nat) : Bool := (bitB m i != b) || ((g (m ^^^ 2 ^ i) != b) && allB (pjB b g n m i) n 0)
def spQ (b : Bool) (g : Nat → Bool) (n m : Nat) : Bool := (g m == b) && allB (piB b g n m) n 0
theorem tm_bit (m i : Nat) (hi : i ≤ 64) : ((Int.tmod (shr .i64 (m : Int) (i : Int)) 2) == 1) = bitB m i := by
  rw [Bool.eq_iff_iff, beq_iff_eq]
  exact tmod_bit1 m i hi
theorem deShifted_l2 (b : Bool) (g : Nat → Bool) (n m i : Nat) (hn : n ≤ 9) (hm : m < 2 ^ n) (hi : i < n) (x7 r : List (List Int)) (x13 : List Bool) (x14 x15 : Int) (qm rest : Bool)
    (hl1 : ∀ s, (s && rest) = qm → Ev (fun k => spec_deShifted.l1 k (tabB g (2 ^ n)) (n : Int) b x7 (m : Int) s (wrap64 ((i : Int) + 1)) x13 x14 x15) r) (s0 : Bool) (h0 : (s0 && allB (pjB b g n m i) n 0 && rest) = qm) :
    Ev (fun k => spec_deShifted.l2 k (tabB g (2 ^ n)) (n : Int) b x7 (m : Int) s0 (i : Int) 0 x13 x14 x15) r := by
  have hp := pow_lt9 hi hn
  refine ev_rangeS n (fun k j s => spec_deShifted.l2 k (tabB g (2 ^ n)) (n : Int) b x7 (m : Int) s (i : Int) (j : Int) x13 x14 x15) (fun _ _ => r) (fun j s => (s && allB (pjB b g n m i) n j && rest) = qm) ?_ ?_ 0 s0 (Nat.zero_le _) h0
  · intro s hs
    refine ev_succ ?_
    simp only [spec_deShifted.l2]
    rw [allB_end, Bool.and_true] at hs
    exact ev_neg (Int.lt_irrefl _) (hl1 s hs)
  · intro j s hj hs ih
    rw [allB_step _ _ _ hj] at hs
    have hq := pow_lt9 hj hn
    refine ev_succ ?_
    simp only [spec_deShifted.l2]
    rw [wrap_succ hj (by omega), tm_bit m j (by omega)]
    refine ev_pos (by omega) (ev_pos (by omega) (ev_bool (fun e => ?_) (fun e => ?_)))
    · exact ih s (by rw [← hs]; simp [pjB, e])
    · refine Ev.bind (deGreater_ev g n i j hn hi hj) (ev_bool (fun e2 => ?_) (fun e2 => ?_))
      · rw [xor_shl m i (by omega) (by omega), xor_shl (m ^^^ 2 ^ i) j (Nat.lt_of_lt_of_le (xor_lt m i n hm hi) hp.2) (by omega)]
        have hl := xor_lt (m ^^^ 2 ^ i) j n (xor_lt m i n hm hi) hj
        rw [tabB_len, rdOf_tab hl]
        refine ev_bool (fun e3 => ?_) (fun e3 => ?_)
        · refine ev_pos (by omega) (ev_pos (Int.natCast_nonneg _) (ev_pos (Int.ofNat_lt.2 hl) (ih _ ?_)))
          rw [← hs]
          simp [pjB, e, e2, e3]
        · refine ih _ ?_
          rw [← hs]
          simp [e3]
      · exact ih s (by rw [← hs]; simp [pjB, e2])
theorem deShifted_l1 (b : Bool) (g : Nat → Bool) (n m : Nat) (hn : n ≤ 9) (hm : m < 2 ^ n) (x7 r : List (List Int)) (hx7 : x7.length ≤ 512) (x13 : List Bool) (x14 x15 : Int)
    (h1 : allB (piB b g n m) n 0 = true → Ev (fun k => spec_deShifted.l0 k (tabB g (2 ^ n)) (n : Int) b (x7 ++ [setL m]) x13 x14 (wrap64 (x15 + 1))) r) (h2 : allB (piB b g n m) n 0 = false → Ev (fun k => spec_deShifted.l0 k (tabB g (2 ^ n)) (n : Int) b x7 x13 x14 (wrap64 (x15 + 1))) r) :
    Ev (fun k => spec_deShifted.l1 k (tabB g (2 ^ n)) (n : Int) b x7 (m : Int) true 0 x13 x14 x15) r := by
  have hN : 2 ^ n ≤ 512 := Nat.pow_le_pow_right (by decide) hn
  refine ev_rangeS n (fun k i s => spec_deShifted.l1 k (tabB g (2 ^ n)) (n : Int) b x7 (m : Int) s (i : Int) x13 x14 x15) (fun _ _ => r) (fun i s => (s && allB (piB b g n m) n i) = allB (piB b g n m) n 0) ?_ ?_ 0 true (Nat.zero_le _) (Bool.true_and _)
  · intro s hs
    refine ev_succ ?_
    simp only [spec_deShifted.l1]
    rw [allB_end, Bool.and_true] at hs
    refine ev_neg (Int.lt_irrefl _) (ev_bool (fun e => ?_) (fun e => ?_))
    · exact Ev.bind (voList_ev m (by omega)) (ev_pos (by omega) (h1 (by rw [← hs, e])))
    · exact h2 (by rw [← hs, e])
  · intro i s hi hs ih
    rw [allB_step _ _ _ hi] at hs
    have hp := pow_lt9 hi hn
    refine ev_succ ?_
    simp only [spec_deShifted.l1]
    rw [tm_bit m i (by omega)]
    refine ev_pos (by omega) (ev_pos (by omega) (ev_bool (fun e => ?_) (fun e => ?_)))
    · rw [wrap_succ hi (by omega)]
      exact ih s (by rw [← hs]; simp [piB, e])
    · have hl1 : ∀ s', (s' && allB (piB b g n m) n (i + 1)) = allB (piB b g n m) n 0 → Ev (fun k => spec_deShifted.l1 k (tabB g (2 ^ n)) (n : Int) b x7 (m : Int) s' (wrap64 ((i : Int) + 1)) x13 x14 x15) r := by
        intro s' h'
        rw [wrap_succ hi (by omega)]
        exact ih s' h'
      have hl := xor_lt m i n hm hi
      rw [xor_shl m i (by omega) (by omega), tabB_len, rdOf_tab hl]
      refine ev_bool (fun e3 => ?_) (fun e3 => ?_)
      · refine ev_pos (Int.natCast_nonneg _) (ev_pos (Int.ofNat_lt.2 hl) (ev_succ ?_))
        simp only [spec_deShifted.j2]
        refine deShifted_l2 b g n m i hn hm hi x7 r x13 x14 x15 _ (allB (piB b g n m) n (i + 1)) hl1 _ ?_
        rw [← hs, e3]
        simp [piB, e]
      · refine ev_succ ?_
        simp only [spec_deShifted.j2]
        refine deShifted_l2 b g n m i hn hm hi x7 r x13 x14 x15 _ (allB (piB b g n m) n (i + 1)) hl1 _ ?_
        rw [← hs, e3]
        simp
theorem deShifted_ev (b : Bool) (g : Nat → Bool) (n : Nat) (hn : n ≤ 9) : Ev (fun k => spec_deShifted.f k (tabB g (2 ^ n)) (n : Int) b) (sortL lexB (setsM (spQ b g n) (2 ^ n))) := by
  have hN : 2 ^ n ≤ 512 := Nat.pow_le_pow_right (by decide) hn
  unfold spec_deShifted.f
  rw [tabB_len]
  refine ev_range (2 ^ n) (fun k m => spec_deShifted.l0 k (tabB g (2 ^ n)) (n : Int) b (setsM (spQ b g n) m) (tabB g (2 ^ n)) ((2 ^ n : Nat) : Int) (m : Int)) (fun _ => sortL lexB (setsM (spQ b g n) (2 ^ n))) ?_ ?_ 0 (Nat.zero_le _)
  · refine ev_succ ?_
    simp only [spec_deShifted.l0]
    refine ev_neg (Int.lt_irrefl _) (Ev.bind (voSorted_ev _ (Nat.le_trans (setsM_len _ _) (by omega)) (fun y hy => Nat.le_trans (setsM_mem hy) (by decide))) (Ev.now _))
  · intro m hm ih
    have hlen := setsM_len (spQ b g n) m
    refine ev_succ ?_
    simp only [spec_deShifted.l0]
    rw [tabB_len, rdOf_tab hm]
    rw [setsM_succ] at ih
    refine ev_pos (Int.ofNat_lt.2 hm) (ev_pos (Int.natCast_nonneg _) (ev_pos (Int.ofNat_lt.2 hm) (ev_bool (fun e => ?_) (fun e => ?_))))
    · rw [if_neg (show ¬ spQ b g n m = true by unfold spQ; rw [show (g m == b) = false by simpa using e]; simp), List.append_nil] at ih
      rw [wrap_succ hm (by omega)]
      exact ih
    · have e' : (g m == b) = true := by simpa using e
      refine deShifted_l1 b g n m hn hm _ _ (by omega) _ _ _ (fun h => ?_) (fun h => ?_)
      · rw [if_pos (show spQ b g n m = true by unfold spQ; rw [e', h]; rfl)] at ih
        rw [wrap_succ hm (by omega)]
        exact ih
      · rw [if_neg (show ¬ spQ b g n m = true by unfold spQ; rw [e', h]; decide), List.append_nil] at ih
        rw [wrap_succ hm (by omega)]
        exact ih
theorem sh_pmono {p q : Int → Int → Option Bool} (h : ∀ x y, LeO (p x y) (q x y)) : ∀ k, (∀ a b c d e f, LeO (impl_votes_shifted_1.l0 p k a b c d e f) (impl_votes_shifted_1.l0 q k a b c d e f)) ∧ (∀ a b c d e f g h i, LeO (impl_votes_shifted_1.l1 p k a b c d e f g h i) (impl_votes_shifted_1.l1 q k a b c d e f g h i))
  | 0 => ⟨fun _ _ _ _ _ _ r h => by simp [impl_votes_shifted_1.l0] at h, fun _ _ _ _ _ _ _ _ _ r h => by simp [impl_votes_shifted_1.l1] at h⟩
  | k + 1 => by
    obtain ⟨ih0, ih1⟩ := sh_pmono h k
    refine ⟨fun a b c d e f => ?_, fun a b c d e f g h2 i => ?_⟩
    · unfold impl_votes_shifted_1.l0
      exact LeO.ite (ih1 _ _ _ _ _ _ _ _ _) (LeO.refl _)
    · unfold impl_votes_shifted_1.l1
      exact LeO.ite (LeO.bind (LeO.refl _) fun _ => LeO.ite (LeO.bind (LeO.refl _) fun _ => LeO.ite (ih1 _ _ _ _ _ _ _ _ _) (LeO.bind (h _ _) fun _ => LeO.ite (LeO.ite (LeO.ite (LeO.ite (LeO.ite (LeO.ite (LeO.refl _) (ih1 _ _ _ _ _ _ _ _ _)) (LeO.refl _)) (LeO.refl _)) (LeO.refl _)) (LeO.refl _)) (ih1 _ _ _ _ _ _ _ _ _))) (ih1 _ _ _ _ _ _ _ _ _)) (ih0 _ _ _ _ _ _)
def imJ (b : Bool) (g : Nat → Bool) (rep : Nat → Nat → Bool) (m i j : Nat) : Bool := !(bitB m i && (!bitB m j && (rep i j && (g (m ^^^ 2 ^ i ^^^ 2 ^ j) == b))))
theorem shifted_fix (b : Bool) (g : Nat → Bool) (n m : Nat) (hn : n ≤ 9) (hm : m < 2 ^ n) (P : Int → Int → Option Bool) (rep : Nat → Nat → Bool) (hP : ∀ i j, i < n → j < n → P (i : Int) (j : Int) = some (rep i j)) :
    Ev (fun k => impl_votes_shifted_1.l0 P k (m : Int) (n : Int) 0 (n : Int) (tabB g (2 ^ n)) b) (allB (fun i => allB (imJ b g rep m i) n 0) n 0) := by
  have hN : 2 ^ n ≤ 512 := Nat.pow_le_pow_right (by decide) hn
  refine ev_range n (fun k i => impl_votes_shifted_1.l0 P k (m : Int) (n : Int) (i : Int) (n : Int) (tabB g (2 ^ n)) b) (fun i => allB (fun i => allB (imJ b g rep m i) n 0) n i) ?_ ?_ 0 (Nat.zero_le _)
  · refine ev_succ ?_
    simp only [impl_votes_shifted_1.l0]
    rw [allB_end]
    exact ev_neg (Int.lt_irrefl _) (Ev.now _)
  · intro i hi ih
    have hp := pow_lt9 hi hn
    refine ev_succ ?_
    simp only [impl_votes_shifted_1.l0]
    rw [allB_step _ _ _ hi]
    refine ev_pos (by omega) ?_
    refine ev_range n (fun k j => impl_votes_shifted_1.l1 P k (m : Int) (i : Int) (n : Int) (i : Int) (n : Int) (j : Int) (n : Int) (tabB g (2 ^ n)) b) (fun j => allB (imJ b g rep m i) n j && allB (fun i => allB (imJ b g rep m i) n 0) n (i + 1)) ?_ ?_ 0 (Nat.zero_le _)
    · refine ev_succ ?_
      simp only [impl_votes_shifted_1.l1]
      rw [allB_end, Bool.true_and, wrap_succ hi (by omega)]
      exact ev_neg (Int.lt_irrefl _) ih
    · intro j hj ihj
      refine ev_succ ?_
      simp only [impl_votes_shifted_1.l1]
      rw [allB_step _ _ _ hj, wrap_succ hj (by omega)]
      refine ev_pos (by omega) (ev_bindS (has_eq m i (by omega) (by omega)) (ev_bool (fun e => ?_) (fun e => ?_)))
      · refine ev_bindS (has_eq m j (by omega) (by omega)) (ev_bool (fun e2 => ?_) (fun e2 => ?_))
        · simpa [imJ, e, e2] using ihj
        · refine ev_bindS (hP i j hi hj) (ev_bool (fun e3 => ?_) (fun e3 => ?_))
          · have hl := xor_lt (m ^^^ 2 ^ i) j n (xor_lt m i n hm hi) hj
            rw [swap_shl m i j n hn hm hi hj e e2, tabB_len, rdOf_tab hl]
            refine ev_pos (by omega) (ev_pos (by omega) (ev_pos (Int.natCast_nonneg _) (ev_pos (Int.ofNat_lt.2 hl) (ev_bool (fun e4 => ?_) (fun e4 => ?_)))))
            · simpa [imJ, e, e2, e3, e4] using (Ev.now _)
            · simpa [imJ, e, e2, e3, e4] using ihj
          · simpa [imJ, e, e2, e3] using ihj
      · simpa [imJ, e] using ihj
theorem ev_each2 {p : Nat → Int → Int → Option Bool} {q : Nat → Nat → Bool} (n : Nat) (h : ∀ i j, i < n → j < n → Ev (fun k => p k (i : Int) (j : Int)) (q i j)) : ∃ K, ∀ k, K ≤ k → ∀ i j, i < n → j < n → p k (i : Int) (j : Int) = some (q i j) := by
  have key : ∀ N, N ≤ n → ∃ K, ∀ k, K ≤ k → ∀ i j, i < N → j < n → p k (i : Int) (j : Int) = some (q i j) := by
    intro N
    induction N with
    | zero => intro _; exact ⟨0, fun _ _ i _ hi => absurd hi (Nat.not_lt_zero i)⟩
    | succ N ih =>
      intro hN
      obtain ⟨K, hK⟩ := ih (by omega)
      obtain ⟨K2, hK2⟩ := ev_each (p := fun k j => p k (N : Int) j) (q := q N) n (fun j hj => h N j (by omega) hj)
      refine ⟨max K K2, fun k hk i j hi hj => ?_⟩
      by_cases e : i < N
      · exact hK k (by omega) i j e hj
      · obtain rfl : i = N := by omega
        exact hK2 k (by omega) j hj
  exact key n (Nat.le_refl _)
theorem shifted_diag (b : Bool) (g : Nat → Bool) (n m : Nat) (hn : n ≤ 9) (hm : m < 2 ^ n) (P : Nat → Int → Int → Option Bool) (rep : Nat → Nat → Bool) (hP : ∀ i j, i < n → j < n → Ev (fun k => P k (i : Int) (j : Int)) (rep i j)) :
    Ev (fun k => impl_votes_shifted_1.l0 (P k) k (m : Int) (n : Int) 0 (n : Int) (tabB g (2 ^ n)) b) (allB (fun i => allB (imJ b g rep m i) n 0) n 0) := by
  obtain ⟨K, hK⟩ := ev_each2 n hP
  obtain ⟨K2, hK2⟩ := shifted_fix b g n m hn hm (fun x y => if (0 ≤ x ∧ x < (n : Int)) ∧ (0 ≤ y ∧ y < (n : Int)) then some (rep x.toNat y.toNat) else none) rep (fun i j hi hj => by rw [if_pos ⟨⟨by omega, by omega⟩, ⟨by omega, by omega⟩⟩, Int.toNat_natCast, Int.toNat_natCast])
  refine ⟨max K K2, fun k hk => ?_⟩
  refine (sh_pmono (fun x y => ?_) k).1 _ _ _ _ _ _ _ (hK2 k (by omega))
  intro r hr
  by_cases hx : (0 ≤ x ∧ x < (n : Int)) ∧ (0 ≤ y ∧ y < (n : Int))
  · rw [if_pos hx] at hr
    have := hK k (by omega) x.toNat y.toNat (by omega) (by omega)
    rw [Int.toNat_of_nonneg hx.1.1, Int.toNat_of_nonneg hx.2.1] at this
    rw [this]; exact hr
  · rw [if_neg hx] at hr; cases hr
theorem isGreatest_ev (g : Nat → Bool) (n m : Nat) (hn : n ≤ 9) (hm : m < 2 ^ n) : Ev (fun k => impl_votes_isGreatest.f k (n : Int) (tabB g (2 ^ n)) (m : Int)) (!g m && allB (fun i => bitB m i || g (m ^^^ 2 ^ i)) n 0) := by
  have hp : 2 ^ n ≤ 512 := Nat.pow_le_pow_right (by decide) hn
  unfold impl_votes_isGreatest.f
  rw [tabB_len, rdOf_tab hm]
  refine ev_pos (Int.natCast_nonneg _) (ev_pos (Int.ofNat_lt.2 hm) ?_)
  refine ev_bool (fun e => by rw [e]; exact Ev.now _) (fun e => ?_)
  rw [e, Bool.not_false, Bool.true_and]
  refine ev_range n (fun k i => impl_votes_isGreatest.l0 k (m : Int) (n : Int) (i : Int) (n : Int) (tabB g (2 ^ n))) (fun i => allB (fun i => bitB m i || g (m ^^^ 2 ^ i)) n i) ?_ ?_ 0 (Nat.zero_le _)
  · refine ev_succ ?_
    simp only [impl_votes_isGreatest.l0]
    rw [allB_end]
    exact ev_neg (Int.lt_irrefl _) (Ev.now _)
  · intro i hi ih
    refine ev_succ ?_
    simp only [impl_votes_isGreatest.l0]
    rw [allB_step _ _ _ hi]
    refine ev_pos (by omega) (ev_bindS (has_eq m i (by omega) (by omega)) ?_)
    rw [wrap_succ hi (by omega)]
    refine ev_bool (fun e => by simpa [e] using ih) (fun e => ?_)
    have l1 := xor_lt m i n hm hi
    have ex : m ^^^ 2 ^ i = m + 2 ^ i := by rw [xor_bit m i (by omega) (by omega), if_neg (by rw [e]; decide)]
    rw [or_shl m i (by omega) (by omega) e, ← ex, tabB_len, rdOf_tab l1]
    refine ev_pos (by omega) (ev_pos (Int.natCast_nonneg _) (ev_pos (Int.ofNat_lt.2 l1) ?_))
    exact ev_bool (fun e2 => by simpa [e, e2] using ih) (fun e2 => by simpa [e, e2] using (Ev.now _))
def imG (g : Nat → Bool) (n m : Nat) : Bool := (!g m && allB (fun i => bitB m i || g (m ^^^ 2 ^ i)) n 0) && allB (fun i => allB (imJ false g (fun i j => grB g n j i) m i) n 0) n 0
theorem imG_eq (g : Nat → Bool) (n m : Nat) (hn : n ≤ 9) (hm : m < 2 ^ n) : imG g n m = spQ false g n m := by
  rw [Bool.eq_iff_iff]
  unfold imG spQ
  rw [Bool.and_eq_true, Bool.and_eq_true, Bool.and_eq_true, allB_iff, allB_iff, allB_iff]
  have hs : ∀ i j, m ^^^ 2 ^ i ^^^ 2 ^ j = m ^^^ 2 ^ j ^^^ 2 ^ i := fun i j => by rw [Nat.xor_assoc, Nat.xor_comm (2 ^ i), ← Nat.xor_assoc]
  constructor
  · rintro ⟨⟨h1, h2⟩, h3⟩
    refine ⟨by revert h1; cases g m <;> simp, fun i hi => ?_⟩
    unfold piB
    cases e : bitB m i with
    | true => rfl
    | false =>
      have h4 := h2 i hi
      rw [e] at h4
      rw [show g (m ^^^ 2 ^ i) = true by simpa using h4]
      rw [Bool.or_eq_true, Bool.and_eq_true]
      refine .inr ⟨rfl, (allB_iff _ _).2 fun j hj => ?_⟩
      have h5 := (allB_iff _ _).1 (h3 j hj) i hi
      unfold imJ at h5
      dsimp only at h5
      unfold pjB
      rw [e, hs j i] at h5
      revert h5
      cases bitB m j <;> cases grB g n i j <;> cases g (m ^^^ 2 ^ i ^^^ 2 ^ j) <;> simp
  · rintro ⟨h1, h2⟩
    refine ⟨⟨by revert h1; cases g m <;> simp, fun i hi => ?_⟩, fun j hj => ?_⟩
    · have h4 := h2 i hi
      unfold piB at h4
      cases e : bitB m i with
      | true => rfl
      | false =>
        rw [e] at h4
        revert h4
        cases g (m ^^^ 2 ^ i) <;> simp
    · rw [allB_iff]
      intro i hi
      have h4 := h2 i hi
      unfold piB at h4
      unfold imJ
      dsimp only
      rw [hs j i]
      cases e : bitB m i with
      | true => simp
      | false =>
        rw [e] at h4
        have h5 : allB (pjB false g n m i) n 0 = true := by
          revert h4
          cases allB (pjB false g n m i) n 0 <;> simp
        have h6 := (allB_iff _ _).1 h5 j hj
        unfold pjB at h6
        revert h6
        cases bitB m j <;> cases grB g n i j <;> cases g (m ^^^ 2 ^ i ^^^ 2 ^ j) <;> simp
theorem setsM_congr {p q : Nat → Bool} {N : Nat} (h : ∀ m, m < N → p m = q m) : setsM p N = setsM q N := by
  unfold setsM
  rw [List.filter_congr (fun m hm => h m (List.mem_range.1 hm))]
theorem shiftedG_ev (g : Nat → Bool) (n : Nat) (hn : n ≤ 9) : Ev (fun k => impl_shifted.f k (n : Int) (tabB g (2 ^ n)) (impl_votes_isGreatest.f k (n : Int) (tabB g (2 ^ n))) (fun i j => impl_ShiftGreatest_1.f k i j (n : Int) (tabB g (2 ^ n))) false) (sortL lexB (setsM (spQ false g n) (2 ^ n))) := by
  have hN : 2 ^ n ≤ 512 := Nat.pow_le_pow_right (by decide) hn
  unfold impl_shifted.f
  rw [← setsM_congr (fun m hm => imG_eq g n m hn hm)]
  refine sets_ev (n : Int) (tabB g (2 ^ n)) (2 ^ n) (tabB_len _ _) hN (fun k m => impl_votes_shifted_1.f k m (impl_votes_isGreatest.f k (n : Int) (tabB g (2 ^ n))) (n : Int) (tabB g (2 ^ n)) (fun i j => impl_ShiftGreatest_1.f k i j (n : Int) (tabB g (2 ^ n))) false) (imG g n) ?_
  intro m hm
  unfold impl_votes_shifted_1.f imG
  refine Ev.bind (isGreatest_ev g n m hn hm) (ev_bool (fun e => ?_) (fun e => ?_))
  · rw [e, Bool.true_and]
    refine shifted_diag false g n m hn hm (fun k i j => impl_ShiftGreatest_1.f k i j (n : Int) (tabB g (2 ^ n))) (fun i j => grB g n j i) (fun i j hi hj => ?_)
    unfold impl_ShiftGreatest_1.f
    exact Ev.bind (isGreater_ev _ g n j i hn hj hi) (Ev.now _)
  · rw [e]; exact Ev.now _
theorem any_eq_mem {α : Type} {p q : α → Bool} : ∀ {l : List α}, (∀ x ∈ l, p x = q x) → l.any p = l.any q
  | [], _ => rfl
  | x :: xs, h => by rw [List.any_cons, List.any_cons, h x (List.mem_cons_self ..), any_eq_mem fun y hy => h y (List.mem_cons_of_mem _ hy)]
theorem votesOf_l0 (p : Int → Option Bool) (q : Nat → Bool) (a n : Nat) (m : Int) (hn : n ≤ 1048576) (h : ∀ i, i < n → p (i : Int) = some (q i)) : Ev (fun k => impl_votesOf.l0 p k (n : Int) 0 m (List.replicate n false)) (m, tabB q n) := by
  have := ev_range n (fun k i => impl_votesOf.l0 p k (n : Int) (i : Int) m (tabB q i ++ List.replicate (n - i) false)) (fun _ => (m, tabB q n)) ?_ ?_ 0 (Nat.zero_le _)
  · simpa [tabB] using this
  · refine ev_succ ?_
    simp only [impl_votesOf.l0]
    exact ev_neg (Int.lt_irrefl _) (ev_eqv (Ev.now _) (by simp))
  · intro i hi ih
    refine ev_succ ?_
    simp only [impl_votesOf.l0]
    have hlen : (tabB q i ++ List.replicate (n - i) false).length = n := by rw [List.length_append, tabB_len, List.length_replicate]; omega
    refine ev_pos (by omega) (ev_bindS (h i hi) (ev_pos (by omega) (ev_pos (by rw [hlen]; omega) ?_)))
    rw [wrap_succ hi (Nat.le_trans hn (by decide)), Int.toNat_natCast, show n - i = (n - (i + 1)) + 1 by omega, List.replicate_succ, tabB_set, tabB_next]
    exact ih
theorem votesOf_ev (p : Int → Option Bool) (q : Nat → Bool) (m : Int) (hm : 0 ≤ m ∧ m ≤ 9) (h : ∀ i : Nat, i < 2 ^ m.toNat → p (i : Int) = some (q i)) : Ev (fun k => impl_votesOf.f k m p) (m, tabB q (2 ^ m.toNat)) := by
  have hp : 2 ^ m.toNat ≤ 512 := Nat.pow_le_pow_right (n := 2) (by decide) (show m.toNat ≤ 9 by omega)
  have hs : shl .i64 1 m = ((2 ^ m.toNat : Nat) : Int) := by rw [shl_one m (by omega)]; simp
  have hl0 := votesOf_l0 p q 0 (2 ^ m.toNat) m (by omega) h
  unfold impl_votesOf.f
  refine ev_pos hm.1 ?_
  rw [hs]
  generalize 2 ^ m.toNat = n at *
  have hn2 : (n : Int).toNat ≤ 281474976710656 := by rw [Int.toNat_natCast]; exact Nat.le_trans hp (by decide)
  refine ev_pos (Int.natCast_nonneg n) (ev_pos hn2 (ev_bindS rfl ?_))
  simp only [Int.toNat_natCast, List.length_replicate]
  exact hl0
theorem votesBy_l0 (m : Int) (l : List (List Int)) (hl : l.length ≤ 1048576) (h : SetsOk m l) : Ev (fun k => impl_votesBy.l0 k m l (l.length : Int) 0 []) (m, winT m l) := by
  have := ev_range l.length (fun k i => impl_votesBy.l0 k m l (l.length : Int) (i : Int) ((l.take i).map fun s => ((maskN 0 s : Nat) : Int))) (fun _ => (m, winT m l)) ?_ ?_ 0 (Nat.zero_le _)
  · simpa using this
  · refine ev_succ ?_
    simp only [impl_votesBy.l0]
    refine ev_neg (Int.lt_irrefl _) ?_
    rw [List.take_length]
    unfold votesOf_votesBy.f
    refine Ev.bind (votesOf_ev _ (winB l) m (by have := h.1; omega) (fun i hi => ?_)) (Ev.now _)
    have hp := pow_le512 h.1
    rw [anyO_some (q := fun x => Go.bits .and .i64 (i : Int) x == x) (fun _ _ => rfl), List.any_map]
    congr 1
    unfold winB
    refine any_eq_mem fun s hs => ?_
    obtain ⟨j, hj, rfl⟩ := List.mem_iff_getElem.1 hs
    have hlt := h.lt hj
    unfold mk at hlt
    rw [getD_get hj] at hlt
    exact and_self_nat (by omega) hlt
  · intro i hi ih
    refine ev_succ ?_
    simp only [impl_votesBy.l0]
    refine ev_pos (by omega) (ev_pos (by omega) (ev_pos (by omega) ?_))
    rw [rdL1_get hi, wrap_succ hi (Nat.le_trans hl (by decide))]
    have hm := (h.masks hi).1
    have hk : mk l i = maskN 0 l[i] := by unfold mk; rw [getD_get hi]
    rw [hk] at hm
    refine Ev.bind hm (ev_pos (by rw [List.length_map, List.length_take]; omega) ?_)
    rw [List.take_succ_eq_append_getElem hi, List.map_append] at ih
    exact ih
theorem votesBy_ev (m : Int) (l : List (List Int)) (hl : l.length ≤ 1048576) (h : SetsOk m l) : Ev (fun k => impl_votesBy.f k m l) (m, winT m l) := by
  unfold impl_votesBy.f
  exact votesBy_l0 m l hl h
theorem Game_votes_ev (m : Int) (l : List (List Int)) (hl : l.length ≤ 1048576) (h : SetsOk m l) : Ev (fun k => impl_Game_votes.f k m l) (m, winT m l) := by
  unfold impl_Game_votes.f
  exact Ev.bind (votesBy_ev m l hl h) (Ev.now _)
theorem gmOk_sets {m : Int} {l : List (List Int)} (h : gmOk m l = true) (hb : ∀ x ∈ l, x.length ≤ 1048576) : SetsOk m l ∧ ∃ n : Nat, m = (n : Int) ∧ n ≤ 9 := by
  unfold gmOk at h
  rw [Bool.and_eq_true, Bool.and_eq_true, Bool.and_eq_true] at h
  have h1 := inB_iff.1 h.1
  obtain ⟨n, rfl⟩ := Int.eq_ofNat_of_zero_le (show 0 ≤ m by omega)
  exact ⟨SetsOk.of h.1 h.2.2.1 hb, n, rfl, by omega⟩
theorem winT_nat (n : Nat) (l : List (List Int)) : winT (n : Int) l = tabB (winB l) (2 ^ n) := by unfold winT; rw [Int.toNat_natCast]
def shiftM (b : Bool) (m : Int) (l : List (List Int)) : List (List Int) × Bool := if gmOk m l = true then (sortL lexB (setsM (spQ b (winB l) m.toNat) (2 ^ m.toNat)), true) else ([], false)
theorem shiftM_ok (b : Bool) (m : Int) (l : List (List Int)) (hb : ∀ x ∈ l, x.length ≤ 1048576) : (shiftM b m l).1.length ≤ 512 ∧ ∀ x ∈ (shiftM b m l).1, x.length ≤ 16 := by
  unfold shiftM
  split
  · rename_i h
    obtain ⟨_, n, rfl, hn⟩ := gmOk_sets h hb
    rw [Int.toNat_natCast]
    have hp := sortL_perm lexB (setsM (spQ b (winB l) n) (2 ^ n))
    have hN : 2 ^ n ≤ 512 := Nat.pow_le_pow_right (by decide) hn
    refine ⟨?_, fun x hx => setsM_mem (hp.mem_iff.1 hx)⟩
    show (sortL lexB _).length ≤ 512
    rw [hp.length_eq]
    exact Nat.le_trans (setsM_len _ _) hN
  · simp
theorem gmAllW_ev {n : Nat} {l : List (List Int)} (hl : l.length ≤ 1048576) (h : SetsOk (n : Int) l) : Ev (fun k => spec_gmAll.f k (n : Int) l) (tabB (winB l) (2 ^ n)) := by
  unfold spec_gmAll.f
  exact Ev.bind (gmWins_ev (n : Int) l hl h) (ev_eqv (Ev.now _) (winT_nat n l))
theorem votesW_ev {n : Nat} {l : List (List Int)} (hl : l.length ≤ 1048576) (h : SetsOk (n : Int) l) : Ev (fun k => impl_Game_votes.f k (n : Int) l) ((n : Int), tabB (winB l) (2 ^ n)) := by
  rw [← winT_nat]; exact Game_votes_ev (n : Int) l hl h
theorem sShiftGreatest_ev (m : Int) (l : List (List Int)) (hl : l.length ≤ 1048576) (hb : ∀ x ∈ l, x.length ≤ 1048576) : Ev (fun k => spec_ShiftGreatest.f k m l) (shiftM false m l) := by
  unfold spec_ShiftGreatest.f shiftM
  refine Ev.bind (gmGood_ev m l hl hb) (ev_bool (fun h => ?_) (fun h => ?_))
  · rw [if_pos h]
    obtain ⟨hs, n, rfl, hn⟩ := gmOk_sets h hb
    rw [Int.toNat_natCast]
    exact Ev.bind (gmAllW_ev hl hs) (Ev.bind (deShifted_ev false _ n hn) (Ev.now _))
  · rw [if_neg (by rw [h]; decide)]; exact Ev.now _
theorem iShiftGreatest_ev (m : Int) (l : List (List Int)) (hl : l.length ≤ 1048576) (hb : ∀ x ∈ l, x.length ≤ 1048576) : Ev (fun k => impl_ShiftGreatest.f k m l) (shiftM false m l) := by
  unfold impl_ShiftGreatest.f shiftM
  refine Ev.bind (IsGame_ev m l hl hb) (ev_bool (fun h => ?_) (fun h => ?_))
  · rw [if_pos h]
    obtain ⟨hs, n, rfl, hn⟩ := gmOk_sets h hb
    rw [Int.toNat_natCast]
    exact Ev.bind (votesW_ev hl hs) (Ev.bind (shiftedG_ev _ n hn) (Ev.now _))
  · rw [if_neg (by rw [h]; decide)]; exact Ev.now _
theorem szIntS_eq (l : List Int) (n : Nat) (hn : n ≤ 1048576) (hl : l.length ≤ 9223372036854775807) : ∃ q, laws_szIntS.f l (n : Int) = some q ∧ (¬ q < 0 → ∃ m : Nat, q = m ∧ m ≤ n ∧ l.length ≤ n) := by
  unfold laws_szIntS.f
  rw [wrap64_id (by omega)]
  by_cases h : (n : Int) - (l.length : Int) < 0
  · exact ⟨-1, by rw [if_pos h], fun h => absurd (by decide) h⟩
  · exact ⟨_, by rw [if_neg h], fun _ => ⟨n - l.length, by omega, by omega, by omega⟩⟩
theorem szIntSS_ev (l : List (List Int)) (n : Nat) (hn : n ≤ 1048576) (hl : l.length ≤ 9223372036854775807) (hx : ∀ x ∈ l, x.length ≤ 9223372036854775807) :
    ∃ q, Ev (fun k => laws_szIntSS.f k l (n : Int)) q ∧ (¬ q < 0 → ∃ m : Nat, q = m ∧ m ≤ n ∧ l.length ≤ n ∧ ∀ x ∈ l, x.length ≤ n) := by
  unfold laws_szIntSS.f
  rw [wrap64_id (by omega)]
  by_cases h : (n : Int) - (l.length : Int) < 0
  · exact ⟨-1, ev_pos h (Ev.now _), fun h => absurd (by decide) h⟩
  have key : ∀ (d i m : Nat), i + d = l.length → m ≤ n → ∃ q, Ev (fun k => laws_szIntSS.l0 k l (m : Int) (i : Int)) q ∧ (¬ q < 0 → ∃ m' : Nat, q = m' ∧ m' ≤ m ∧ ∀ x ∈ l.drop i, x.length ≤ n) := by
    intro d
    induction d with
    | zero =>
      intro i m hi hm
      refine ⟨m, ev_succ ?_, fun _ => ⟨m, rfl, Nat.le_refl _, fun x hx => ?_⟩⟩
      · simp only [laws_szIntSS.l0]; exact ev_neg (by omega) (Ev.now _)
      · rw [List.drop_of_length_le (by omega)] at hx; cases hx
    | succ d ih =>
      intro i m hi hm
      have h1 : i < l.length := by omega
      obtain ⟨q, hq, hq2⟩ := szIntS_eq l[i] m (by omega) (hx _ (List.getElem_mem h1))
      by_cases c : q < 0
      · refine ⟨-1, ev_succ ?_, fun h => absurd (by decide) h⟩
        simp only [laws_szIntSS.l0, rdL1_get h1, hq, Option.bind_some]
        exact ev_pos (by omega) (ev_pos (by omega) (ev_pos c (Ev.now _)))
      · obtain ⟨m', rfl, h2, h3⟩ := hq2 c
        obtain ⟨q2, e2, p2⟩ := ih (i + 1) m' (by omega) (by omega)
        refine ⟨q2, ev_succ ?_, fun hn2 => ?_⟩
        · simp only [laws_szIntSS.l0, rdL1_get h1, hq, Option.bind_some, wrap_succ (i := i) (n := 1048576) (by omega) (by decide)]
          exact ev_pos (by omega) (ev_pos (by omega) (ev_neg c e2))
        · obtain ⟨m'', r1, r2, r3⟩ := p2 hn2
          refine ⟨m'', r1, by omega, fun x hx => ?_⟩
          rw [List.drop_eq_getElem_cons h1] at hx
          rcases List.mem_cons.1 hx with rfl | hx
          · omega
          · exact r3 x hx
  obtain ⟨q, e, p⟩ := key l.length 0 (n - l.length) (by omega) (by omega)
  refine ⟨q, ev_neg h ?_, fun hq => ?_⟩
  · rw [show (n : Int) - (l.length : Int) = ((n - l.length : Nat) : Int) by omega]; exact e
  · obtain ⟨m, r1, r2, r3⟩ := p hq
    exact ⟨m, r1, by omega, by omega, by simpa using r3⟩
theorem szGame_ev (a : Int) (l : List (List Int)) (n : Nat) (hn : n ≤ 1048576) (hl : l.length ≤ 9223372036854775807) (hx : ∀ x ∈ l, x.length ≤ 9223372036854775807) :
    ∃ q, Ev (fun k => laws_szGame.f k a l (n : Int)) q ∧ (¬ q < 0 → ∃ m : Nat, q = m ∧ m ≤ n ∧ l.length ≤ n ∧ ∀ x ∈ l, x.length ≤ n) := by
  obtain ⟨q, e, p⟩ := szIntSS_ev l n hn hl hx
  unfold laws_szGame.f
  by_cases h : q < 0
  · exact ⟨-1, Ev.bind e (ev_pos h (Ev.now _)), fun h => absurd (by decide) h⟩
  · exact ⟨q, Ev.bind e (ev_neg h (Ev.now _)), p⟩
theorem toIntSS_ev (l : List (List Int)) (hl : l.length ≤ 1152921504606) (hx : ∀ x ∈ l, x.length ≤ 1152921504606) : Ev (fun k => laws_toIntSS.f k l) l := by
  unfold laws_toIntSS.f
  refine ev_pos (by omega) (ev_pos (by omega) ?_)
  rw [Int.toNat_natCast]
  have := ev_range l.length (fun k i => laws_toIntSS.l0 k l ((l.take i).map id ++ List.replicate (l.length - i) []) (i : Int)) (fun _ => l) ?_ ?_ 0 (Nat.zero_le _)
  · simpa using this
  · refine ev_succ ?_
    simp only [laws_toIntSS.l0]
    exact ev_neg (by omega) (ev_eqv (Ev.now _) (by simp))
  · intro i hi ih
    refine ev_succ ?_
    simp only [laws_toIntSS.l0]
    refine ev_pos (by omega) (ev_pos (by omega) ?_)
    rw [rdL1_get hi]
    refine Ev.bind (toIntS_ev l[i] (hx _ (List.getElem_mem hi))) (ev_pos (by rw [copy_len _ _ _ _ (by omega)]; omega) ?_)
    rw [wrap_succ hi (by omega), Int.toNat_natCast, show l[i] = id l[i] from rfl, set_copy id _ l i hi]
    exact ih
theorem toGame_ev (m : Int) (l : List (List Int)) (hl : l.length ≤ 1152921504606) (hx : ∀ x ∈ l, x.length ≤ 1152921504606) : Ev (fun k => laws_toGame.f k m l) (m, l) := by
  unfold laws_toGame.f
  exact Ev.bind (toIntSS_ev l hl hx) (Ev.now _)
theorem eqIntSS_ev (a b : List (List Int)) (ha : a.length ≤ 1152921504606) (hx : ∀ x ∈ a, x.length ≤ 1152921504606) : Ev (fun k => laws_eqIntSS.f k a b) (decide (a = b)) := by
  unfold laws_eqIntSS.f
  by_cases hl : a.length = b.length
  · refine ev_pos (by omega) ?_
    refine ev_range a.length (fun k i => laws_eqIntSS.l0 k a b (i : Int)) (fun i => decide (a.drop i = b.drop i)) ?_ ?_ 0 (Nat.zero_le _)
    · refine ev_succ ?_
      simp only [laws_eqIntSS.l0]
      refine ev_neg (by omega) (ev_eqv (Ev.now _) ?_)
      rw [List.drop_of_length_le (by omega), List.drop_of_length_le (by omega)]; simp
    · intro i hi ih
      have h2 : i < b.length := by omega
      refine ev_succ ?_
      simp only [laws_eqIntSS.l0]
      refine ev_pos (by omega) (ev_pos (by omega) (ev_pos (by omega) ?_))
      rw [rdL1_get hi, rdL1_get h2, wrap_succ hi (by omega), eq_drop a b i hi h2]
      refine Ev.bind (eqIntS_ev a[i] b[i] (Nat.le_trans (hx _ (List.getElem_mem hi)) (by decide))) (ev_bool (fun h => ?_) (fun h => ?_))
      · rw [h]; exact ih
      · rw [h]; exact Ev.now _
  · refine ev_neg (by omega) (ev_eqv (Ev.now false) ?_)
    exact (decide_eq_false fun e => hl (by rw [e])).symm
theorem eqGame_ev (m n : Int) (a b : List (List Int)) (ha : a.length ≤ 1152921504606) (hx : ∀ x ∈ a, x.length ≤ 1152921504606) : Ev (fun k => laws_eqGame.f k m a n b) (decide (m = n ∧ a = b)) := by
  unfold laws_eqGame.f
  by_cases hm : m = n
  · refine ev_pos hm (Ev.bind (eqIntSS_ev a b ha hx) (ev_bool (fun h => ev_eqv (Ev.now _) ?_) (fun h => ev_eqv (Ev.now _) ?_)))
    · exact (decide_eq_true ⟨hm, of_decide_eq_true h⟩).symm
    · exact (decide_eq_false fun e => of_decide_eq_false h e.2).symm
  · exact ev_neg hm (ev_eqv (Ev.now _) (decide_eq_false fun e => hm e.1).symm)
theorem FnExactShiftGreatest_pure (a0_0 : Int) (l0_1 : List (List Int)) (g0 : I64 a0_0 ∧ ∀ y ∈ l0_1, ∀ z ∈ y, I64 z) (h1 : l0_1.length ≤ 9223372036854775807) (h2 : ∀ x ∈ l0_1, x.length ≤ 9223372036854775807) : ∃ k, laws_FnExactShiftGreatest.f k a0_0 l0_1 = some true := by
  refine Ev.rounds ?_
  unfold laws_FnExactShiftGreatest.f
  obtain ⟨q, hq, hq2⟩ := szGame_ev a0_0 l0_1 1048576 (by decide) h1 h2
  refine Ev.bind hq ?_
  by_cases h : q < 0
  · exact ev_pos h (Ev.now _)
  refine ev_neg h ?_
  obtain ⟨_, _, _, n1, n2⟩ := hq2 h
  have n3 : ∀ x ∈ l0_1, x.length ≤ 1152921504606 := fun x hx => Nat.le_trans (n2 x hx) (by decide)
  have ht := toGame_ev a0_0 l0_1 (by omega) n3
  have es := sShiftGreatest_ev a0_0 l0_1 n1 n2
  have ei := iShiftGreatest_ev a0_0 l0_1 n1 n2
  obtain ⟨r1, r2⟩ := shiftM_ok false a0_0 l0_1 n2
  generalize shiftM false a0_0 l0_1 = r at es ei r1 r2
  have h3 := totS_ge r.1 1
  have h4 := totS_ge l0_1 1
  have eq := eqSS_ev r.1 r.1 (by omega) (fun x hx => Nat.le_trans (r2 x hx) (by decide))
  refine Ev.bind ht (Ev.bind es (Ev.bind ei (Ev.bind eq (ev_pos (by simp) (ev_pos rfl (Ev.bind (eqGame_ev a0_0 a0_0 l0_1 l0_1 (by omega) n3) (ev_pos (by simp) (Ev.bind (markIntSS_ev l0_1 n1 n2) (ev_neg (by simp only []; omega) ?_)))))))))
  exact Ev.bind (markIntSS_ev r.1 (by omega) (fun x hx => Nat.le_trans (r2 x hx) (by decide))) (Ev.bind (heldIntSS_ev r.1 (by omega) (fun x hx => Nat.le_trans (r2 x hx) (by decide))) (ev_neg (by omega) (ev_pos rfl (Ev.now _))))
end Go.Proofs.Ytaacaifiiedoiaa.Q
end
section
namespace Go.Proofs.Ytaacaifiiedoiaa.Q
open Go.RowKit Go.Proofs.YtaacaifiiedoiaaW.PrintWords Go.Proofs.YtaacaifiiedoiaaW.PrintLast Go.Proofs.YtaacaifiiedoiaaW.PrintMore
set_option linter.unusedVariables false
set_option linter.unusedSimpArgs false
set_option maxRecDepth 100000
section
variable {H : Type} {enc : TypeId × Value → H} {W : World}
theorem opens_ints : Opens enc Try.prog W 71 (Kd.slice 3 (Kd.int .i64)) (fun x => ∀ y ∈ x, I64 y) := opens_slice Try.underlying71 (by kernel_rfl) (opens_int Try.underlying3)
theorem opens_Game : Opens enc Try.prog W 24 (Kd.pair (Kd.int .i64) (Kd.slice 71 (Kd.slice 3 (Kd.int .i64)))) (fun x => I64 x.1 ∧ ∀ y ∈ x.2, ∀ z ∈ y, I64 z) :=
  opens_pair Try.underlying24 (by kernel_rfl) rfl rfl (by kernel_rfl) (by kernel_rfl) (opens_int Try.underlying3) (opens_slice Try.underlying22 (by kernel_rfl) opens_ints)
end
open Go.ChangeShapes Go.WideShapes Go.ChangeAt Go.Deep
section
variable {H : Type} {enc : TypeId × Value → H} {W : World} {r : Reach} {b0 : Nat} {v : Value} {y : DataW H} {p : List MemPlace}
theorem arg_Game (hv : Value.okWide Try.prog W r b0 24 v) (hr : DataW.Trod enc Try.prog W 0 (fun _ => true) true 24 v y p) :
    ∃ a A c l, v = .agg #[.int .i64 a, .slice A (l : List (List Int)).length c] ∧ l.length ≤ c ∧ Kd.C (Kd.slice 3 (Kd.int .i64)) W A l.length l ∧ I64 a ∧ ∀ y ∈ l, ∀ z ∈ y, I64 z := by
  obtain ⟨x, ⟨l⟩, rfl, k, g⟩ := open_struct Try.underlying24 hv hr opens_Game
  obtain ⟨_, _, rfl, rfl, ⟨A, c, rfl, hl, hC⟩⟩ := k
  exact ⟨_, A, c, _, rfl, hl, hC, g⟩
theorem C_inner {w : World} {A : Option Addr} {n : Nat} {xs : List (List Int)} (h : Kd.C (Kd.slice 3 (Kd.int .i64)) w A n xs) : ∀ x ∈ xs, x.length ≤ 9223372036854775807 := fun x hx => by
  obtain ⟨j, hj, rfl⟩ := List.mem_iff_getElem.1 hx
  obtain ⟨ad, _, hc⟩ := h.2.2 (by have := h.1; omega)
  obtain ⟨c, _, ⟨_, _, _, _, hC⟩, _⟩ := hc j _ (List.getElem?_eq_getElem hj)
  exact hC.2.1
end
end Go.Proofs.Ytaacaifiiedoiaa.Q
end
section
namespace Go.Proofs.Ytaacaifiiedoiaa.fnExactShiftGreatest
open Go.ChangeShapes Go.WideShapes Go.ChangeAt Go.RowKit Go.Proofs.Ytaacaifiiedoiaa.Q
open Go.ChangeMaps (open_string shut_string)
set_option linter.unusedVariables false
theorem own : ownKnob Try.prog.godebug = none := by kernel_rfl
theorem laidOut : laidOutB Try.prog = true := by kernel_rfl
set_option maxRecDepth 100000 in
theorem lifted (os : Os) (started : os.Started) (H : Type) (enc : TypeId × Value → H) :
    ReturnsInHanded {} Try.checked os 4 .any (Rows.fnExactShiftGreatestSpec.pre6 enc Try.prog Try.f4 Rows.fnExactShiftGreatestRow.domain false) (Rows.fnExactShiftGreatestSpec.post enc Try.prog Try.f4 false true false false) := by
  refine returnsInHanded_of_change_sized (C := Try.checked) own started (by kernel_rfl) Try.func4
    (ChangeSpec.witness6 (enc := enc) (C := Try.checked) false ⟨#[], #[.agg #[.int .i64 0, .slice none 0 0]], []⟩ 8 (by kernel_rfl) (by kernel_rfl) (by kernel_rfl) (by kernel_rfl)) ?_
  intro W base args ds gs before hval0 hW hcnd hsz0 _
  have hsz : (DataW.weightsEach Try.prog (Try.f4.params.toList ++ Rows.fnExactShiftGreatestSpec.plain.varTypes Try.prog) (ds ++ gs)).all (· ≤ reachBytes) = true := hsz0
  have hval : ∀ (j : Nat) t v, Try.f4.params[j]? = some t → args[j]? = some v → Value.okWide Try.prog W .any base t v := hval0
  have hW' := hW
  obtain ⟨p, q, hA0, hV, rfl, hfz, hnd⟩ := hW
  have hA : DataW.TrodAll enc Try.prog W 0 (fun _ => true) true Try.f4.params.toList args.toList ds p := hA0
  rw [Try.params4] at hA hval hsz
  obtain ⟨v0, vs0, d0, ds0, p0, q0, hargs, rfl, rfl, h0, r0⟩ := trodAll_cons hA
  obtain ⟨rfl, rfl, rfl⟩ := trodAll_nil r0
  obtain rfl : args = #[v0] := by cases args; simp_all
  obtain ⟨rfl, rfl⟩ := trodVars_none hV
  have k0 := h0
  have lt0 : ∀ x ∈ p0, x.block < W.heap.size := by obtain ⟨m, hm⟩ := k0; exact DataW.trod_lt m _ _ _ hm
  obtain ⟨a0_0, A0_1, c0_1, l0_1, rfl, hc0_1, hr0_1, g0⟩ := arg_Game (hval 0 24 v0 rfl rfl) h0
  clear hA0 hval0 hsz0 hsz
  obtain ⟨k, hk⟩ := FnExactShiftGreatest_pure a0_0 l0_1 g0 hr0_1.2.1 (C_inner hr0_1)
  refine (laws_FnExactShiftGreatest.calls k a0_0 A0_1 c0_1 l0_1 true W hr0_1 hc0_1 hk).mono fun e W' ⟨he, bel⟩ => ?_
  subst he
  exact ⟨_, rfl, _, _, _, [], _, [], hW', trodAll_mk1 (shut_bool Try.underlying4 _), (trodAll_cons_mk (Below.trod laidOut (by kernel_rfl) (of_decide_eq_true (by kernel_rfl)) k0 bel lt0) trodAll_mk0), rfl, bel.frame _, fun h => by cases h⟩
theorem over : Rows.fnExactShiftGreatestRow.holds Try.pinned (OpenSpec.ofChange Rows.fnExactShiftGreatestSpec) :=
  OpenClaim.holds_of_wide 4 Try.f4 rfl rfl rfl rfl rfl rfl rfl ⟨rfl, rfl, rfl, rfl, rfl⟩ rfl rfl rfl rfl rfl (by kernel_rfl) Try.func4 (by kernel_rfl)
    (of_decide_eq_true (by kernel_rfl)) (by unfold Func.isWrapper; first | (rw [if_pos (by decide +kernel)]; kernel_rfl) | (rw [if_neg (by decide +kernel)]; exact ⟨rfl, rfl⟩))
    (fun os started H enc _ => lifted os started H enc)
theorem proved : Rows.FnExactShiftGreatestSaid := over
end Go.Proofs.Ytaacaifiiedoiaa.fnExactShiftGreatest
namespace Go.Proofs.Ytaacaifiiedoiaa
theorem fnExactShiftGreatest_holds : Rows.FnExactShiftGreatestSaid := fnExactShiftGreatest.proved
end Go.Proofs.Ytaacaifiiedoiaa
end
#print axioms Go.Proofs.Ytaacaifiiedoiaa.fnExactShiftGreatest_holds

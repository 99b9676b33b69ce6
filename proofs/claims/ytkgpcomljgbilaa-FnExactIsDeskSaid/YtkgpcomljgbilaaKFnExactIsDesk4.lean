/- The row of the law FnExactIsDesk: for every input it returns true, and its arguments read afterwards as before. No condition: FnExactIsDesk_pure says that its pure form answers true at every input, and laws_FnExactIsDesk.calls that the machine comes to just that. -/
import Derived.Test.YtkgpcomljgbilaaKFnExactIsDesk3
import Derived.Test.YtkgpcomljgbilaaRows
import Derived.Laws.StructEq
section
namespace Go.Proofs.Ytkgpcomljgbilaa.Q
open Go.RowKit Go.Proofs.YtkgpcomljgbilaaW.PrintWords Go.Proofs.YtkgpcomljgbilaaW.PrintLast Go.Proofs.YtkgpcomljgbilaaW.PrintMore
set_option linter.unusedVariables false
set_option linter.unusedSimpArgs false
theorem ev_anyO {α : Type} (p : Nat → α → Option Bool) (q : α → Bool) : ∀ l : List α, (∀ x ∈ l, Ev (fun k => p k x) (q x)) → Ev (fun k => anyO (p k) l) (l.any q)
  | [], _ => Ev.now _
  | x :: xs, h => by
    simp only [anyO, List.any_cons]
    refine Ev.bind (h x (List.mem_cons_self ..)) (ev_bool (fun e => ?_) (fun e => ?_))
    · rw [e]; exact Ev.now _
    · rw [e]; exact ev_anyO p q xs (fun y hy => h y (List.mem_cons_of_mem _ hy))
theorem areSets_ev (l : List (List Int)) (n : Int) (hn : -1000000 ≤ n ∧ n ≤ 1000000) (hl : ∀ x ∈ l, x.length ≤ 1048576) : Ev (fun k => impl_areSets.f k l n) (l.all fun s => decide (s ≠ []) && isSetB s n) := by
  unfold impl_areSets.f
  refine ev_eqv (Ev.bind (ev_anyO (fun k => impl_areSets_1.f k n) (fun s => !(decide (s ≠ []) && isSetB s n)) l (fun x hx => ?_)) (Ev.now _)) (any_not_all _ _)
  unfold impl_areSets_1.f
  by_cases h : x = []
  · subst h; exact ev_pos (by simp) (Ev.now _)
  · have : x.length ≠ 0 := fun e => h (List.length_eq_zero_iff.1 e)
    refine ev_neg (by omega) (ev_eqv (Ev.bind (isSet_ev x n hn (Nat.le_trans (hl x hx) (by decide))) (Ev.now _)) ?_)
    rw [decide_eq_true h, Bool.true_and]
def allR (P : Nat → Bool) (n i : Nat) : Bool := ((List.range n).drop i).all P
theorem allR_end (P : Nat → Bool) (n : Nat) : allR P n n = true := by
  unfold allR
  rw [List.drop_of_length_le (by simp)]; rfl
theorem allR_step (P : Nat → Bool) (n i : Nat) (h : i < n) : allR P n i = (P i && allR P n (i + 1)) := by
  unfold allR
  rw [all_drop P (List.range n) i (by simpa using h), List.getElem_range]
theorem allR_iff (P : Nat → Bool) (n : Nat) : allR P n 0 = true ↔ ∀ i, i < n → P i = true := by
  unfold allR
  rw [List.drop_zero, List.all_eq_true]
  exact ⟨fun h i hi => h i (List.mem_range.2 hi), fun h i hi => h i (List.mem_range.1 hi)⟩
def mk (l : List (List Int)) (i : Nat) : Nat := maskN 0 (l.getD i [])
def rises (l : List (List Int)) (i : Nat) : Bool := decide (i = 0) || lexB (l.getD (i - 1) []) (l.getD i [])
def apartS (l : List (List Int)) (i : Nat) : Bool := allR (fun h => !(mk l i &&& mk l h == mk l i) && !(mk l i &&& mk l h == mk l h)) i 0
def apartI (l : List (List Int)) (i : Nat) : Bool := allR (fun h => decide (h = i) || !(mk l i &&& mk l h == mk l h)) l.length 0
theorem maskN_lt2 (n : Nat) (l : List Int) : ∀ m, m < 2 ^ n → (∀ x ∈ l, 0 ≤ x ∧ x ≤ (n : Int) - 1) → maskN m l < 2 ^ n := by
  induction l with
  | nil => intro m hm _; exact hm
  | cons x l ih =>
    intro m hm h
    refine ih _ ?_ (fun y hy => h y (List.mem_cons_of_mem _ hy))
    have hx := h x (List.mem_cons_self ..)
    exact Nat.or_lt_two_pow hm (Nat.pow_lt_pow_right (by decide) (by omega))
def SetsOk (m : Int) (l : List (List Int)) : Prop := (1 ≤ m ∧ m ≤ 9) ∧ ∀ x ∈ l, isSetB x m = true ∧ x.length ≤ 1048576
theorem SetsOk.elem {m : Int} {l : List (List Int)} (h : SetsOk m l) {x : List Int} (hx : x ∈ l) : ∀ y ∈ x, 0 ≤ y ∧ y ≤ (9 : Nat) - 1 := fun y hy => by
  have := isSetB_mem (h.2 x hx).1 y hy
  have := h.1
  omega
theorem SetsOk.lt {m : Int} {l : List (List Int)} (h : SetsOk m l) {i : Nat} (hi : i < l.length) : mk l i < 512 := by
  unfold mk
  rw [getD_get hi]
  exact maskN_lt2 9 _ 0 (by decide) (h.elem (List.getElem_mem hi))
theorem SetsOk.masks {m : Int} {l : List (List Int)} (h : SetsOk m l) {i : Nat} (hi : i < l.length) : Ev (fun k => impl_maskOf.f k l[i]) (mk l i : Int) ∧ Ev (fun k => spec_voBits.f k l[i]) (mk l i : Int) := by
  have hx := List.getElem_mem hi
  have := maskOf_ev l[i] (Nat.le_trans (h.2 _ hx).2 (by decide)) (fun y hy => by have := h.elem hx y hy; omega)
  unfold mk
  rw [getD_get hi]
  exact this
theorem and_eq_nat {a b c : Nat} (ha : a < 512) (hb : b < 512) : (Go.bits .and .i64 (a : Int) (b : Int) = (c : Int)) ↔ ((a &&& b == c) = true) := by
  rw [and_nat a b (by omega) (by omega), beq_iff_eq]
  omega
theorem wrap_pred2 {i : Nat} (h : i < 1152921504606846976) (h0 : 0 < i) : wrap64 ((i : Int) - 1) = ((i - 1 : Nat) : Int) := by unfold wrap64; omega
theorem IsGame_l0 (m : Int) (l : List (List Int)) (hl : l.length ≤ 1048576) (h : SetsOk m l) : Ev (fun k => impl_IsGame.l0 k l (l.length : Int) 0 m l) (allR (fun i => rises l i && apartI l i) l.length 0) := by
  refine ev_range l.length (fun k i => impl_IsGame.l0 k l (l.length : Int) (i : Int) m l) (fun i => allR (fun i => rises l i && apartI l i) l.length i) ?_ ?_ 0 (Nat.zero_le _)
  · refine ev_succ ?_
    simp only [impl_IsGame.l0]
    exact ev_neg (by omega) (ev_eqv (Ev.now _) (allR_end _ _).symm)
  · intro i hi ih
    rw [allR_step _ _ _ hi]
    have inner : rises l i = true → Ev (fun k => impl_IsGame.l1 k (i : Int) l[i] l (l.length : Int) (i : Int) l (l.length : Int) 0 m l) ((rises l i && apartI l i) && allR (fun i => rises l i && apartI l i) l.length (i + 1)) := by
      intro hr
      rw [hr, Bool.true_and]
      refine ev_range l.length (fun k h => impl_IsGame.l1 k (i : Int) l[i] l (l.length : Int) (i : Int) l (l.length : Int) (h : Int) m l) (fun h => allR (fun h => decide (h = i) || !(mk l i &&& mk l h == mk l h)) l.length h && allR (fun i => rises l i && apartI l i) l.length (i + 1)) ?_ ?_ 0 (Nat.zero_le _)
      · refine ev_succ ?_
        simp only [impl_IsGame.l1]
        refine ev_neg (by omega) ?_
        rw [allR_end, Bool.true_and, wrap_succ hi (by omega)]
        exact ih
      · intro j hj ihj
        refine ev_succ ?_
        simp only [impl_IsGame.l1]
        refine ev_pos (by omega) (ev_pos (by omega) (ev_pos (by omega) ?_))
        rw [rdL1_get hj, wrap_succ hj (by omega), allR_step _ _ _ hj]
        by_cases e : j = i
        · refine ev_pos (by omega) ?_
          rw [decide_eq_true e]
          exact ihj
        · refine ev_neg (by omega) (Ev.bind (h.masks hi).1 (Ev.bind (h.masks hj).1 ?_))
          rw [decide_eq_false e]
          by_cases c : (mk l i &&& mk l j == mk l j) = true
          · refine ev_pos ((and_eq_nat (h.lt hi) (h.lt hj)).2 c) ?_
            rw [c]; exact Ev.now _
          · refine ev_neg (fun x => c ((and_eq_nat (h.lt hi) (h.lt hj)).1 x)) ?_
            rw [Bool.not_eq_true] at c
            rw [c]; exact ihj
    refine ev_succ ?_
    simp only [impl_IsGame.l0]
    refine ev_pos (by omega) (ev_pos (by omega) (ev_pos (by omega) ?_))
    rw [rdL1_get hi]
    by_cases h0 : i = 0
    · subst h0
      refine ev_neg (by omega) (ev_succ ?_)
      simp only [impl_IsGame.j2]
      exact ev_neg (by simp) (inner (by simp [rises]))
    · have hp : i - 1 < l.length := by omega
      refine ev_pos (by omega) ?_
      rw [wrap_pred2 (by omega) (by omega)]
      refine ev_pos (by omega) (ev_pos (by omega) ?_)
      rw [rdL1_get hp]
      refine Ev.bind (Compare_ev _ _ (Nat.le_trans (h.2 _ (List.getElem_mem hp)).2 (by decide))) (ev_succ ?_)
      simp only [impl_IsGame.j2]
      have hr : rises l i = lexB l[i - 1] l[i] := by unfold rises; rw [decide_eq_false h0, Bool.false_or, getD_get hp, getD_get hi]
      rw [cmpL_ge, ← hr]
      cases hq : rises l i
      · exact ev_pos (by simp) (Ev.now _)
      · refine ev_neg (by simp) ?_
        have := inner hq
        rw [hq] at this
        exact this
theorem gmGood_l0 (m : Int) (l : List (List Int)) (hl : l.length ≤ 1048576) (h : SetsOk m l) : Ev (fun k => spec_gmGood.l0 k l (l.length : Int) 0 m l) (allR (fun i => rises l i && apartS l i) l.length 0) := by
  refine ev_range l.length (fun k i => spec_gmGood.l0 k l (l.length : Int) (i : Int) m l) (fun i => allR (fun i => rises l i && apartS l i) l.length i) ?_ ?_ 0 (Nat.zero_le _)
  · refine ev_succ ?_
    simp only [spec_gmGood.l0]
    exact ev_neg (by omega) (ev_eqv (Ev.now _) (allR_end _ _).symm)
  · intro i hi ih
    rw [allR_step _ _ _ hi]
    have inner : rises l i = true → Ev (fun k => spec_gmGood.l1 k (mk l i : Int) l (l.length : Int) (i : Int) (l.take i) ((l.take i).length : Int) 0 m l) ((rises l i && apartS l i) && allR (fun i => rises l i && apartS l i) l.length (i + 1)) := by
      intro hr
      rw [hr, Bool.true_and]
      have ht : (l.take i).length = i := by rw [List.length_take]; omega
      rw [ht]
      refine ev_range i (fun k h => spec_gmGood.l1 k (mk l i : Int) l (l.length : Int) (i : Int) (l.take i) (i : Int) (h : Int) m l) (fun h => allR (fun h => !(mk l i &&& mk l h == mk l i) && !(mk l i &&& mk l h == mk l h)) i h && allR (fun i => rises l i && apartS l i) l.length (i + 1)) ?_ ?_ 0 (Nat.zero_le _)
      · refine ev_succ ?_
        simp only [spec_gmGood.l1]
        refine ev_neg (by omega) ?_
        rw [allR_end, Bool.true_and, wrap_succ hi (by omega)]
        exact ih
      · intro j hj ihj
        have hjl : j < l.length := by omega
        have hjt : j < (l.take i).length := by omega
        refine ev_succ ?_
        simp only [spec_gmGood.l1]
        refine ev_pos (by omega) (ev_pos (by omega) (ev_pos (by omega) ?_))
        rw [rdL1_get hjt, List.getElem_take, wrap_succ hj (by omega), allR_step _ _ _ hj]
        refine Ev.bind (h.masks hjl).2 ?_
        by_cases c : (mk l i &&& mk l j == mk l i) = true
        · refine ev_pos ((and_eq_nat (h.lt hi) (h.lt hjl)).2 c) ?_
          rw [c]; exact Ev.now _
        · refine ev_neg (fun x => c ((and_eq_nat (h.lt hi) (h.lt hjl)).1 x)) ?_
          rw [Bool.not_eq_true] at c
          rw [c]
          by_cases c2 : (mk l i &&& mk l j == mk l j) = true
          · refine ev_pos ((and_eq_nat (h.lt hi) (h.lt hjl)).2 c2) ?_
            rw [c2]; exact Ev.now _
          · refine ev_neg (fun x => c2 ((and_eq_nat (h.lt hi) (h.lt hjl)).1 x)) ?_
            rw [Bool.not_eq_true] at c2
            rw [c2]; exact ihj
    have step : rises l i = true → Ev (fun k => spec_gmGood.j1 k (i : Int) l[i] l (l.length : Int) (i : Int) false m l) ((rises l i && apartS l i) && allR (fun i => rises l i && apartS l i) l.length (i + 1)) := by
      intro hr
      refine ev_succ ?_
      simp only [spec_gmGood.j1]
      refine ev_neg (by simp) (Ev.bind (h.masks hi).2 (ev_pos (by omega) (ev_pos (by omega) ?_)))
      simp only [Int.toNat_natCast, Option.bind_some]
      exact inner hr
    refine ev_succ ?_
    simp only [spec_gmGood.l0]
    refine ev_pos (by omega) (ev_pos (by omega) (ev_pos (by omega) ?_))
    rw [rdL1_get hi]
    by_cases h0 : i = 0
    · subst h0
      exact ev_neg (by omega) (step (by simp [rises]))
    · have hp : i - 1 < l.length := by omega
      refine ev_pos (by omega) ?_
      rw [wrap_pred2 (by omega) (by omega)]
      refine ev_pos (by omega) (ev_pos (by omega) ?_)
      rw [rdL1_get hp]
      have hr : rises l i = lexB l[i - 1] l[i] := by unfold rises; rw [decide_eq_false h0, Bool.false_or, getD_get hp, getD_get hi]
      refine Ev.bind (voBefore_ev _ _ (Nat.le_trans (h.2 _ (List.getElem_mem hp)).2 (by decide))) ?_
      rw [← hr]
      cases hq : rises l i
      · refine ev_succ ?_
        simp only [spec_gmGood.j1]
        exact ev_pos (by simp) (Ev.now _)
      · have := step hq
        rw [hq] at this
        exact this
def gmOk (m : Int) (l : List (List Int)) : Bool := inB m 1 9 && (decide (l ≠ []) && ((l.all fun s => decide (s ≠ []) && isSetB s m) && allR (fun i => rises l i && apartI l i) l.length 0))
theorem SetsOk.of {m : Int} {l : List (List Int)} (hm : inB m 1 9 = true) (hs : (l.all fun s => decide (s ≠ []) && isSetB s m) = true) (hb : ∀ x ∈ l, x.length ≤ 1048576) : SetsOk m l := by
  refine ⟨inB_iff.1 hm, fun x hx => ⟨?_, hb x hx⟩⟩
  have := List.all_eq_true.1 hs x hx
  rw [Bool.and_eq_true] at this
  exact this.2
theorem apart_same (l : List (List Int)) : allR (fun i => rises l i && apartS l i) l.length 0 = allR (fun i => rises l i && apartI l i) l.length 0 := by
  rw [Bool.eq_iff_iff, allR_iff, allR_iff]
  constructor
  · intro h i hi
    have hi' := h i hi
    rw [Bool.and_eq_true] at hi' ⊢
    refine ⟨hi'.1, (allR_iff _ _).2 fun j hj => ?_⟩
    rcases Nat.lt_trichotomy j i with c | c | c
    · have := (allR_iff _ _).1 hi'.2 j c
      rw [Bool.and_eq_true] at this
      rw [this.2, Bool.or_true]
    · rw [decide_eq_true c, Bool.true_or]
    · have hj' := h j hj
      rw [Bool.and_eq_true] at hj'
      have := (allR_iff _ _).1 hj'.2 i c
      rw [Bool.and_eq_true] at this
      rw [Nat.and_comm, this.1, Bool.or_true]
  · intro h i hi
    have hi' := h i hi
    rw [Bool.and_eq_true] at hi' ⊢
    refine ⟨hi'.1, (allR_iff _ _).2 fun j hj => ?_⟩
    have hjl : j < l.length := by omega
    have h1 := (allR_iff _ _).1 hi'.2 j hjl
    have hj' := h j hjl
    rw [Bool.and_eq_true] at hj'
    have h2 := (allR_iff _ _).1 hj'.2 i hi
    rw [decide_eq_false (by omega), Bool.false_or] at h1 h2
    rw [Nat.and_comm] at h2
    rw [h1, h2]; rfl
theorem few_sets {m : Int} {l : List (List Int)} (h : SetsOk m l) (ha : allR (fun i => rises l i && apartI l i) l.length 0 = true) : l.length ≤ 126 := by
  have hlen : ((List.range l.length).map (mk l)).length = l.length := by simp
  rw [← hlen]
  refine antichain9 _ (fun x hx => ?_) ?_
  · obtain ⟨i, hi, rfl⟩ := List.mem_map.1 hx
    exact h.lt (List.mem_range.1 hi)
  · rw [List.pairwise_map]
    refine List.pairwise_lt_range.imp_of_mem fun {i j} hi hj hij => ?_
    have key : ∀ i j, i < l.length → j < l.length → i ≠ j → mk l i &&& mk l j ≠ mk l j := fun i j hi hj hne => by
      have := (allR_iff _ _).1 ha i hi
      rw [Bool.and_eq_true] at this
      have := (allR_iff _ _).1 this.2 j hj
      rw [decide_eq_false (by omega), Bool.false_or] at this
      simpa using this
    have hi' := List.mem_range.1 hi
    have hj' := List.mem_range.1 hj
    exact ⟨by rw [Nat.and_comm]; exact key j i hj' hi' (by omega), key i j hi' hj' (by omega)⟩
theorem IsGame_ev (m : Int) (l : List (List Int)) (hl : l.length ≤ 1048576) (hb : ∀ x ∈ l, x.length ≤ 1048576) : Ev (fun k => impl_IsGame.f k m l) (gmOk m l) := by
  unfold impl_IsGame.f gmOk
  simp only [within_eq, Option.bind_some]
  refine ev_bool (fun hm => ?_) (fun hm => ?_)
  · rw [hm]
    have hm' := inB_iff.1 hm
    by_cases h0 : l = []
    · subst h0
      refine ev_pos rfl (ev_succ ?_)
      simp only [impl_IsGame.j0]
      exact ev_pos (by simp) (Ev.now _)
    · have : l.length ≠ 0 := fun e => h0 (List.length_eq_zero_iff.1 e)
      refine ev_neg (by omega) (Ev.bind (areSets_ev l m (by omega) hb) (ev_succ ?_))
      rw [decide_eq_true h0]
      simp only [impl_IsGame.j0]
      cases hs : l.all fun s => decide (s ≠ []) && isSetB s m
      · exact ev_pos (by simp) (Ev.now _)
      · exact ev_neg (by simp) (IsGame_l0 m l hl (SetsOk.of hm hs hb))
  · rw [hm]
    refine ev_succ ?_
    simp only [impl_IsGame.j0]
    exact ev_pos (by simp) (Ev.now _)
theorem gmSets_l0 (m : Int) (l : List (List Int)) (hm : 1 ≤ m ∧ m ≤ 9) (hl : l.length ≤ 1048576) (hb : ∀ x ∈ l, x.length ≤ 1048576) : Ev (fun k => spec_gmSets.l0 k m l (l.length : Int) 0) (l.all fun s => decide (s ≠ []) && isSetB s m) := by
  have := ev_range l.length (fun k i => spec_gmSets.l0 k m l (l.length : Int) (i : Int)) (fun i => (l.drop i).all fun s => decide (s ≠ []) && isSetB s m) ?_ ?_ 0 (Nat.zero_le _)
  · simpa using this
  · refine ev_succ ?_
    simp only [spec_gmSets.l0]
    exact ev_neg (by omega) (ev_eqv (Ev.now _) (by rw [drop_end]; rfl))
  · intro i hi ih
    refine ev_succ ?_
    simp only [spec_gmSets.l0]
    refine ev_pos (by omega) (ev_pos (by omega) (ev_pos (by omega) ?_))
    rw [rdL1_get hi, wrap_succ hi (by omega), all_drop _ _ _ hi]
    by_cases h0 : l[i] = []
    · refine ev_pos (by rw [h0]; rfl) (ev_eqv (Ev.now _) ?_)
      rw [decide_eq_false (by simpa using h0)]; rfl
    · have : l[i].length ≠ 0 := fun e => h0 (List.length_eq_zero_iff.1 e)
      refine ev_neg (by omega) (Ev.bind (voSet_ev l[i] m (by omega) (Nat.le_trans (hb _ (List.getElem_mem hi)) (by decide))) ?_)
      rw [decide_eq_true h0, Bool.true_and]
      exact ev_bool (fun h => by rw [h]; exact ih) (fun h => by rw [h]; exact Ev.now _)
theorem gmGood_ev (m : Int) (l : List (List Int)) (hl : l.length ≤ 1048576) (hb : ∀ x ∈ l, x.length ≤ 1048576) : Ev (fun k => spec_gmGood.f k m l) (gmOk m l) := by
  unfold spec_gmGood.f
  have hS : Ev (fun k => spec_gmSets.f k m l 126) (inB m 1 9 && (inB (l.length : Int) 1 126 && l.all fun s => decide (s ≠ []) && isSetB s m)) := by
    unfold spec_gmSets.f
    simp only [l1In_eq, Option.bind_some]
    refine ev_bool (fun hm => ?_) (fun hm => ?_)
    · rw [hm]
      refine ev_succ ?_
      simp only [spec_gmSets.j0]
      cases hn : inB (l.length : Int) 1 126
      · exact ev_pos (by simp) (Ev.now _)
      · exact ev_neg (by simp) (gmSets_l0 m l (inB_iff.1 hm) hl hb)
    · rw [hm]
      refine ev_succ ?_
      simp only [spec_gmSets.j0]
      exact ev_pos (by simp) (Ev.now _)
  refine Ev.bind hS (ev_bool (fun h => ?_) (fun h => ?_))
  · rw [Bool.and_eq_true, Bool.and_eq_true] at h
    refine ev_eqv (gmGood_l0 m l hl (SetsOk.of h.1 h.2.2 hb)) ?_
    have hn := inB_iff.1 h.2.1
    unfold gmOk
    rw [h.1, h.2.2, decide_eq_true (show l ≠ [] from fun e => by subst e; simp at hn), apart_same]; rfl
  · refine ev_eqv (Ev.now _) ?_
    symm
    rw [← Bool.not_eq_true]
    intro hg
    unfold gmOk at hg
    rw [Bool.and_eq_true, Bool.and_eq_true, Bool.and_eq_true] at hg
    obtain ⟨hm, h0, hs, ha⟩ := hg
    have := few_sets (SetsOk.of hm hs hb) ha
    have h0' : l.length ≠ 0 := fun e => (of_decide_eq_true h0) (List.length_eq_zero_iff.1 e)
    rw [hm, hs, show inB (l.length : Int) 1 126 = true from inB_iff.2 (by omega)] at h
    cases h
end Go.Proofs.Ytkgpcomljgbilaa.Q
end
section
namespace Go.Proofs.Ytkgpcomljgbilaa.Q
open Go.RowKit Go.Proofs.YtkgpcomljgbilaaW.PrintWords Go.Proofs.YtkgpcomljgbilaaW.PrintLast Go.Proofs.YtkgpcomljgbilaaW.PrintMore
set_option linter.unusedVariables false
set_option linter.unusedSimpArgs false
theorem szIntS_eq (l : List Int) (n : Nat) (hn : n ≤ 1048576) (hl : l.length ≤ 9223372036854775807) : ∃ q, laws_szIntS.f l (n : Int) = some q ∧ (¬ q < 0 → ∃ m : Nat, q = m ∧ m ≤ n ∧ l.length ≤ n) := by
  unfold laws_szIntS.f
  rw [wrap64_id (by omega)]
  by_cases h : (n : Int) - (l.length : Int) < 0
  · exact ⟨-1, by rw [if_pos h], fun h => absurd (by decide) h⟩
  · exact ⟨_, by rw [if_neg h], fun _ => ⟨n - l.length, by omega, by omega, by omega⟩⟩
theorem szIntSS_ev (l : List (List Int)) (n : Nat) (hn : n ≤ 1048576) (hl : l.length ≤ 9223372036854775807) (hx : ∀ x ∈ l, x.length ≤ 9223372036854775807) :
    ∃ q, Ev (fun k => laws_szIntSS.f k l (n : Int)) q ∧ (¬ q < 0 → ∃ m : Nat, q = m ∧ m ≤ n ∧ l.length ≤ n ∧ ∀ x ∈ l, x.length ≤ n) := by
  unfold laws_szIntSS.f
  rw [wrap64_id (by omega)]
  by_cases h : (n : Int) - (l.length : Int) < 0
  · exact ⟨-1, ev_pos h (Ev.now _), fun h => absurd (by decide) h⟩
  have key : ∀ (d i m : Nat), i + d = l.length → m ≤ n → ∃ q, Ev (fun k => laws_szIntSS.l0 k l (m : Int) (i : Int)) q ∧ (¬ q < 0 → ∃ m' : Nat, q = m' ∧ m' ≤ m ∧ ∀ x ∈ l.drop i, x.length ≤ n) := by
    intro d
    induction d with
    | zero =>
      intro i m hi hm
      refine ⟨m, ev_succ ?_, fun _ => ⟨m, rfl, Nat.le_refl _, fun x hx => ?_⟩⟩
      · simp only [laws_szIntSS.l0]; exact ev_neg (by omega) (Ev.now _)
      · rw [List.drop_of_length_le (by omega)] at hx; cases hx
    | succ d ih =>
      intro i m hi hm
      have h1 : i < l.length := by omega
      obtain ⟨q, hq, hq2⟩ := szIntS_eq l[i] m (by omega) (hx _ (List.getElem_mem h1))
      by_cases c : q < 0
      · refine ⟨-1, ev_succ ?_, fun h => absurd (by decide) h⟩
        simp only [laws_szIntSS.l0, rdL1_get h1, hq, Option.bind_some]
        exact ev_pos (by omega) (ev_pos (by omega) (ev_pos c (Ev.now _)))
      · obtain ⟨m', rfl, h2, h3⟩ := hq2 c
        obtain ⟨q2, e2, p2⟩ := ih (i + 1) m' (by omega) (by omega)
        refine ⟨q2, ev_succ ?_, fun hn2 => ?_⟩
        · simp only [laws_szIntSS.l0, rdL1_get h1, hq, Option.bind_some, wrap_succ (i := i) (n := 1048576) (by omega) (by decide)]
          exact ev_pos (by omega) (ev_pos (by omega) (ev_neg c e2))
        · obtain ⟨m'', r1, r2, r3⟩ := p2 hn2
          refine ⟨m'', r1, by omega, fun x hx => ?_⟩
          rw [List.drop_eq_getElem_cons h1] at hx
          rcases List.mem_cons.1 hx with rfl | hx
          · omega
          · exact r3 x hx
  obtain ⟨q, e, p⟩ := key l.length 0 (n - l.length) (by omega) (by omega)
  refine ⟨q, ev_neg h ?_, fun hq => ?_⟩
  · rw [show (n : Int) - (l.length : Int) = ((n - l.length : Nat) : Int) by omega]; exact e
  · obtain ⟨m, r1, r2, r3⟩ := p hq
    exact ⟨m, r1, by omega, by omega, by simpa using r3⟩
theorem szGame_ev (a : Int) (l : List (List Int)) (n : Nat) (hn : n ≤ 1048576) (hl : l.length ≤ 9223372036854775807) (hx : ∀ x ∈ l, x.length ≤ 9223372036854775807) :
    ∃ q, Ev (fun k => laws_szGame.f k a l (n : Int)) q ∧ (¬ q < 0 → ∃ m : Nat, q = m ∧ m ≤ n ∧ l.length ≤ n ∧ ∀ x ∈ l, x.length ≤ n) := by
  obtain ⟨q, e, p⟩ := szIntSS_ev l n hn hl hx
  unfold laws_szGame.f
  by_cases h : q < 0
  · exact ⟨-1, Ev.bind e (ev_pos h (Ev.now _)), fun h => absurd (by decide) h⟩
  · exact ⟨q, Ev.bind e (ev_neg h (Ev.now _)), p⟩
theorem szCommittee_eq (a : Int) (l : List Int) (n : Nat) (hn : n ≤ 1048576) (hl : l.length ≤ 9223372036854775807) : ∃ q, laws_szCommittee.f a l (n : Int) = some q ∧ (¬ q < 0 → ∃ m : Nat, q = m ∧ m ≤ n ∧ l.length ≤ n) := by
  obtain ⟨q, e, p⟩ := szIntS_eq l n hn hl
  unfold laws_szCommittee.f
  rw [e, Option.bind_some]
  by_cases h : q < 0
  · exact ⟨-1, if_pos h, fun h => absurd (by decide) h⟩
  · exact ⟨q, if_neg h, p⟩
theorem szDesk_ev (a : Int) (l : List Int) (b : Int) (s : List (List Int)) (n : Nat) (hn : n ≤ 1048576) (hl : l.length ≤ 9223372036854775807) (hs : s.length ≤ 9223372036854775807) (hx : ∀ x ∈ s, x.length ≤ 9223372036854775807) :
    ∃ q, Ev (fun k => laws_szDesk.f k a l b s (n : Int)) q ∧ (¬ q < 0 → l.length ≤ n ∧ s.length ≤ n ∧ ∀ x ∈ s, x.length ≤ n) := by
  obtain ⟨q, e, p⟩ := szCommittee_eq a l n hn hl
  unfold laws_szDesk.f
  simp only [e, Option.bind_some]
  by_cases h : q < 0
  · exact ⟨-1, ev_pos h (Ev.now _), fun h => absurd (by decide) h⟩
  obtain ⟨m, rfl, h2, h3⟩ := p h
  obtain ⟨q2, e2, p2⟩ := szGame_ev b s m (by omega) hs hx
  by_cases h' : q2 < 0
  · exact ⟨-1, ev_neg h (Ev.bind e2 (ev_pos h' (Ev.now _))), fun h => absurd (by decide) h⟩
  obtain ⟨m2, rfl, r1, r2, r3⟩ := p2 h'
  exact ⟨_, ev_neg h (Ev.bind e2 (ev_neg h' (Ev.now _))), fun _ => ⟨h3, by omega, fun x hx => by have := r3 x hx; omega⟩⟩
theorem toIntSS_ev (l : List (List Int)) (hl : l.length ≤ 1152921504606) (hx : ∀ x ∈ l, x.length ≤ 1152921504606) : Ev (fun k => laws_toIntSS.f k l) l := by
  unfold laws_toIntSS.f
  refine ev_pos (by omega) (ev_pos (by omega) ?_)
  rw [Int.toNat_natCast]
  have := ev_range l.length (fun k i => laws_toIntSS.l0 k l ((l.take i).map id ++ List.replicate (l.length - i) []) (i : Int)) (fun _ => l) ?_ ?_ 0 (Nat.zero_le _)
  · simpa using this
  · refine ev_succ ?_
    simp only [laws_toIntSS.l0]
    exact ev_neg (by omega) (ev_eqv (Ev.now _) (by simp))
  · intro i hi ih
    refine ev_succ ?_
    simp only [laws_toIntSS.l0]
    refine ev_pos (by omega) (ev_pos (by omega) ?_)
    rw [rdL1_get hi]
    refine Ev.bind (toIntS_ev l[i] (hx _ (List.getElem_mem hi))) (ev_pos (by rw [copy_len _ _ _ _ (by omega)]; omega) ?_)
    rw [wrap_succ hi (by omega), Int.toNat_natCast, show l[i] = id l[i] from rfl, set_copy id _ l i hi]
    exact ih
theorem toGame_ev (m : Int) (l : List (List Int)) (hl : l.length ≤ 1152921504606) (hx : ∀ x ∈ l, x.length ≤ 1152921504606) : Ev (fun k => laws_toGame.f k m l) (m, l) := by
  unfold laws_toGame.f
  exact Ev.bind (toIntSS_ev l hl hx) (Ev.now _)
theorem toCommittee_ev (m : Int) (l : List Int) (hl : l.length ≤ 1152921504606) : Ev (fun k => laws_toCommittee.f k m l) (m, l) := by
  unfold laws_toCommittee.f
  exact Ev.bind (toIntS_ev l hl) (Ev.now _)
theorem toDesk_ev (a : Int) (l : List Int) (b : Int) (s : List (List Int)) (hl : l.length ≤ 1152921504606) (hs : s.length ≤ 1152921504606) (hx : ∀ x ∈ s, x.length ≤ 1152921504606) : Ev (fun k => laws_toDesk.f k a l b s) (a, l, b, s) := by
  unfold laws_toDesk.f
  exact Ev.bind (toCommittee_ev a l hl) (Ev.bind (toGame_ev b s hs hx) (Ev.now _))
theorem eqIntSS_ev (a b : List (List Int)) (ha : a.length ≤ 1152921504606) (hx : ∀ x ∈ a, x.length ≤ 1152921504606) : Ev (fun k => laws_eqIntSS.f k a b) (decide (a = b)) := by
  unfold laws_eqIntSS.f
  by_cases hl : a.length = b.length
  · refine ev_pos (by omega) ?_
    refine ev_range a.length (fun k i => laws_eqIntSS.l0 k a b (i : Int)) (fun i => decide (a.drop i = b.drop i)) ?_ ?_ 0 (Nat.zero_le _)
    · refine ev_succ ?_
      simp only [laws_eqIntSS.l0]
      refine ev_neg (by omega) (ev_eqv (Ev.now _) ?_)
      rw [List.drop_of_length_le (by omega), List.drop_of_length_le (by omega)]; simp
    · intro i hi ih
      have h2 : i < b.length := by omega
      refine ev_succ ?_
      simp only [laws_eqIntSS.l0]
      refine ev_pos (by omega) (ev_pos (by omega) (ev_pos (by omega) ?_))
      rw [rdL1_get hi, rdL1_get h2, wrap_succ hi (by omega), eq_drop a b i hi h2]
      refine Ev.bind (eqIntS_ev a[i] b[i] (Nat.le_trans (hx _ (List.getElem_mem hi)) (by decide))) (ev_bool (fun h => ?_) (fun h => ?_))
      · rw [h]; exact ih
      · rw [h]; exact Ev.now _
  · refine ev_neg (by omega) (ev_eqv (Ev.now false) ?_)
    exact (decide_eq_false fun e => hl (by rw [e])).symm
theorem eqGame_ev (m n : Int) (a b : List (List Int)) (ha : a.length ≤ 1152921504606) (hx : ∀ x ∈ a, x.length ≤ 1152921504606) : Ev (fun k => laws_eqGame.f k m a n b) (decide (m = n ∧ a = b)) := by
  unfold laws_eqGame.f
  by_cases hm : m = n
  · refine ev_pos hm (Ev.bind (eqIntSS_ev a b ha hx) (ev_bool (fun h => ev_eqv (Ev.now _) ?_) (fun h => ev_eqv (Ev.now _) ?_)))
    · exact (decide_eq_true ⟨hm, of_decide_eq_true h⟩).symm
    · exact (decide_eq_false fun e => of_decide_eq_false h e.2).symm
  · exact ev_neg hm (ev_eqv (Ev.now _) (decide_eq_false fun e => hm e.1).symm)
theorem eqCommittee_ev (m n : Int) (a b : List Int) (ha : a.length ≤ 1152921504606) : Ev (fun k => laws_eqCommittee.f k m a n b) (decide (m = n ∧ a = b)) := by
  unfold laws_eqCommittee.f
  by_cases hm : m = n
  · refine ev_pos hm (Ev.bind (eqIntS_ev a b (Nat.le_trans ha (by decide))) (ev_bool (fun h => ev_eqv (Ev.now _) ?_) (fun h => ev_eqv (Ev.now _) ?_)))
    · exact (decide_eq_true ⟨hm, of_decide_eq_true h⟩).symm
    · exact (decide_eq_false fun e => of_decide_eq_false h e.2).symm
  · exact ev_neg hm (ev_eqv (Ev.now _) (decide_eq_false fun e => hm e.1).symm)
theorem eqDesk_ev (a : Int) (l : List Int) (b : Int) (s : List (List Int)) (a' : Int) (l' : List Int) (b' : Int) (s' : List (List Int)) (hl : l.length ≤ 1152921504606) (hs : s.length ≤ 1152921504606) (hx : ∀ x ∈ s, x.length ≤ 1152921504606) :
    Ev (fun k => laws_eqDesk.f k a l b s a' l' b' s') (decide ((a = a' ∧ l = l') ∧ (b = b' ∧ s = s'))) := by
  unfold laws_eqDesk.f
  refine Ev.bind (eqCommittee_ev a a' l l' hl) (ev_bool (fun h => ?_) (fun h => ?_))
  · refine Ev.bind (eqGame_ev b b' s s' hs hx) (ev_bool (fun h2 => ev_eqv (Ev.now _) ?_) (fun h2 => ev_eqv (Ev.now _) ?_))
    · exact (decide_eq_true ⟨of_decide_eq_true h, of_decide_eq_true h2⟩).symm
    · exact (decide_eq_false fun e => of_decide_eq_false h2 e.2).symm
  · exact ev_eqv (Ev.now _) (decide_eq_false fun e => of_decide_eq_false h e.1).symm
theorem sIsDesk_ev (a : Int) (l : List Int) (b : Int) (s : List (List Int)) (hl : l.length ≤ 1048576) (hs : s.length ≤ 1048576) (hx : ∀ x ∈ s, x.length ≤ 1048576) : Ev (fun k => spec_IsDesk.f k a l b s) (coOk a l && gmOk b s) := by
  unfold spec_IsDesk.f spec_coGood.f
  refine Ev.bind (Ev.bind (voGood_ev a l (by omega)) (ev_bool (fun h => ?_) (fun h => ?_))) (Ev.now _)
  · rw [h]; exact Ev.bind (gmGood_ev b s hs hx) (Ev.now _)
  · rw [h]; exact Ev.now _
theorem IsDesk_ev (a : Int) (l : List Int) (b : Int) (s : List (List Int)) (hl : l.length ≤ 1048576) (hs : s.length ≤ 1048576) (hx : ∀ x ∈ s, x.length ≤ 1048576) : Ev (fun k => impl_IsDesk.f k a l b s) (coOk a l && gmOk b s) := by
  unfold impl_IsDesk.f
  refine Ev.bind (IsCommittee_ev a l (by omega)) (ev_bool (fun h => ?_) (fun h => ?_))
  · rw [h]; exact Ev.bind (IsGame_ev b s hs hx) (Ev.now _)
  · rw [h]; exact Ev.now _
end Go.Proofs.Ytkgpcomljgbilaa.Q
end
section
namespace Go.Proofs.Ytkgpcomljgbilaa.Q
open Go.RowKit Go.Proofs.YtkgpcomljgbilaaW.PrintWords Go.Proofs.YtkgpcomljgbilaaW.PrintLast Go.Proofs.YtkgpcomljgbilaaW.PrintMore
set_option linter.unusedVariables false
set_option linter.unusedSimpArgs false
theorem FnExactIsDesk_pure (a0_0 : Int) (l0_1 : List Int) (a0_2 : Int) (l0_3 : List (List Int)) (g0 : (I64 a0_0 ∧ ∀ y ∈ l0_1, I64 y) ∧ I64 a0_2 ∧ ∀ y ∈ l0_3, ∀ z ∈ y, I64 z) (h1 : l0_1.length ≤ 9223372036854775807) (h3 : l0_3.length ≤ 9223372036854775807) (h4 : ∀ x ∈ l0_3, x.length ≤ 9223372036854775807) :
    ∃ k, laws_FnExactIsDesk.f k a0_0 l0_1 a0_2 l0_3 = some true := by
  refine Ev.rounds ?_
  unfold laws_FnExactIsDesk.f
  obtain ⟨q, hq, hq2⟩ := szDesk_ev a0_0 l0_1 a0_2 l0_3 1048576 (by decide) h1 h3 h4
  refine Ev.bind hq ?_
  by_cases h : q < 0
  · exact ev_pos h (Ev.now _)
  obtain ⟨n1, n3, n4⟩ := hq2 h
  refine ev_neg h ?_
  have ht := toDesk_ev a0_0 l0_1 a0_2 l0_3 (by omega) (by omega) (fun x hx => Nat.le_trans (n4 x hx) (by decide))
  refine Ev.bind ht (Ev.bind (sIsDesk_ev a0_0 l0_1 a0_2 l0_3 n1 n3 n4) (Ev.bind ht (Ev.bind (IsDesk_ev a0_0 l0_1 a0_2 l0_3 n1 n3 n4) (ev_neg (by simp) (Ev.bind ht (Ev.bind (eqDesk_ev a0_0 l0_1 a0_2 l0_3 a0_0 l0_1 a0_2 l0_3 (by omega) (by omega) (fun x hx => Nat.le_trans (n4 x hx) (by decide))) (ev_pos (by simp) (Ev.now _))))))))
end Go.Proofs.Ytkgpcomljgbilaa.Q
end
section
namespace Go.Proofs.Ytkgpcomljgbilaa.Q
open Go.RowKit Go.Proofs.YtkgpcomljgbilaaW.PrintWords Go.Proofs.YtkgpcomljgbilaaW.PrintLast Go.Proofs.YtkgpcomljgbilaaW.PrintMore
set_option linter.unusedVariables false
set_option linter.unusedSimpArgs false
set_option maxRecDepth 100000
section
variable {H : Type} {enc : TypeId × Value → H} {W : World}
theorem opens_ints : Opens enc Try.prog W 22 (Kd.slice 3 (Kd.int .i64)) (fun x => ∀ y ∈ x, I64 y) := opens_slice Try.underlying22 (by kernel_rfl) (opens_int Try.underlying3)
theorem opens_Game : Opens enc Try.prog W 35 (Kd.pair (Kd.int .i64) (Kd.slice 22 (Kd.slice 3 (Kd.int .i64)))) (fun x => I64 x.1 ∧ ∀ y ∈ x.2, ∀ z ∈ y, I64 z) :=
  opens_pair Try.underlying35 (by kernel_rfl) rfl rfl (by kernel_rfl) (by kernel_rfl) (opens_int Try.underlying3) (opens_slice Try.underlying25 (by kernel_rfl) opens_ints)
theorem opens_Committee : Opens enc Try.prog W 34 (Kd.pair (Kd.int .i64) (Kd.slice 3 (Kd.int .i64))) (fun x => I64 x.1 ∧ ∀ y ∈ x.2, I64 y) :=
  opens_pair Try.underlying34 (by kernel_rfl) rfl rfl (by kernel_rfl) (by kernel_rfl) (opens_int Try.underlying3) (opens_slice Try.underlying22 (by kernel_rfl) (opens_int Try.underlying3))
theorem opens_Desk : Opens enc Try.prog W 37 (Kd.pair (Kd.pair (Kd.int .i64) (Kd.slice 3 (Kd.int .i64))) (Kd.pair (Kd.int .i64) (Kd.slice 22 (Kd.slice 3 (Kd.int .i64))))) (fun x => (I64 x.1.1 ∧ ∀ y ∈ x.1.2, I64 y) ∧ I64 x.2.1 ∧ ∀ y ∈ x.2.2, ∀ z ∈ y, I64 z) :=
  opens_pair Try.underlying37 (by kernel_rfl) rfl rfl (by kernel_rfl) (by kernel_rfl) opens_Committee opens_Game
end
open Go.ChangeShapes Go.WideShapes Go.ChangeAt Go.Deep
section
variable {H : Type} {enc : TypeId × Value → H} {W : World} {r : Reach} {b0 : Nat} {v : Value} {y : DataW H} {p : List MemPlace}
theorem arg_Desk (hv : Value.okWide Try.prog W r b0 37 v) (hr : DataW.Trod enc Try.prog W 0 (fun _ => true) true 37 v y p) :
    ∃ a A c l a2 A2 c2 l2, v = .agg #[.int .i64 a, .slice A (l : List Int).length c, .int .i64 a2, .slice A2 (l2 : List (List Int)).length c2] ∧ l.length ≤ c ∧ Kd.C (Kd.int .i64) W A l.length l ∧ l2.length ≤ c2 ∧ Kd.C (Kd.slice 3 (Kd.int .i64)) W A2 l2.length l2 ∧ (I64 a ∧ ∀ y ∈ l, I64 y) ∧ I64 a2 ∧ ∀ y ∈ l2, ∀ z ∈ y, I64 z := by
  obtain ⟨x, ⟨l⟩, rfl, k, g⟩ := open_struct Try.underlying37 hv hr opens_Desk
  obtain ⟨_, _, rfl, ⟨_, _, rfl, rfl, ⟨A, c, rfl, hl, hC⟩⟩, ⟨_, _, rfl, rfl, ⟨A2, c2, rfl, hl2, hC2⟩⟩⟩ := k
  exact ⟨_, A, c, _, _, A2, c2, _, rfl, hl, hC, hl2, hC2, g⟩
theorem C_inner {w : World} {A : Option Addr} {n : Nat} {xs : List (List Int)} (h : Kd.C (Kd.slice 3 (Kd.int .i64)) w A n xs) : ∀ x ∈ xs, x.length ≤ 9223372036854775807 := fun x hx => by
  obtain ⟨j, hj, rfl⟩ := List.mem_iff_getElem.1 hx
  obtain ⟨ad, _, hc⟩ := h.2.2 (by have := h.1; omega)
  obtain ⟨c, _, ⟨_, _, _, _, hC⟩, _⟩ := hc j _ (List.getElem?_eq_getElem hj)
  exact hC.2.1
end
end Go.Proofs.Ytkgpcomljgbilaa.Q
end
section
namespace Go.Proofs.Ytkgpcomljgbilaa.fnExactIsDesk
open Go.ChangeShapes Go.WideShapes Go.ChangeAt Go.RowKit Go.Proofs.Ytkgpcomljgbilaa.Q
open Go.ChangeMaps (open_string shut_string)
set_option linter.unusedVariables false
theorem own : ownKnob Try.prog.godebug = none := by kernel_rfl
theorem laidOut : laidOutB Try.prog = true := by kernel_rfl
set_option maxRecDepth 100000 in
theorem lifted (os : Os) (started : os.Started) (H : Type) (enc : TypeId × Value → H) :
    ReturnsInHanded {} Try.checked os 4 .any (Rows.fnExactIsDeskSpec.pre6 enc Try.prog Try.f4 Rows.fnExactIsDeskRow.domain false) (Rows.fnExactIsDeskSpec.post enc Try.prog Try.f4 false true false false) := by
  refine returnsInHanded_of_change_sized (C := Try.checked) own started (by kernel_rfl) Try.func4
    (ChangeSpec.witness6 (enc := enc) (C := Try.checked) false ⟨#[], #[.agg #[.int .i64 0, .slice none 0 0, .int .i64 0, .slice none 0 0]], []⟩ 8 (by kernel_rfl) (by kernel_rfl) (by kernel_rfl) (by kernel_rfl)) ?_
  intro W base args ds gs before hval0 hW hcnd hsz0 _
  have hsz : (DataW.weightsEach Try.prog (Try.f4.params.toList ++ Rows.fnExactIsDeskSpec.plain.varTypes Try.prog) (ds ++ gs)).all (· ≤ reachBytes) = true := hsz0
  have hval : ∀ (j : Nat) t v, Try.f4.params[j]? = some t → args[j]? = some v → Value.okWide Try.prog W .any base t v := hval0
  have hW' := hW
  obtain ⟨p, q, hA0, hV, rfl, hfz, hnd⟩ := hW
  have hA : DataW.TrodAll enc Try.prog W 0 (fun _ => true) true Try.f4.params.toList args.toList ds p := hA0
  rw [Try.params4] at hA hval hsz
  obtain ⟨v0, vs0, d0, ds0, p0, q0, hargs, rfl, rfl, h0, r0⟩ := trodAll_cons hA
  obtain ⟨rfl, rfl, rfl⟩ := trodAll_nil r0
  obtain rfl : args = #[v0] := by cases args; simp_all
  obtain ⟨rfl, rfl⟩ := trodVars_none hV
  have k0 := h0
  have lt0 : ∀ x ∈ p0, x.block < W.heap.size := by obtain ⟨m, hm⟩ := k0; exact DataW.trod_lt m _ _ _ hm
  obtain ⟨a0_0, A0_1, c0_1, l0_1, a0_2, A0_3, c0_3, l0_3, rfl, hc0_1, hr0_1, hc0_3, hr0_3, g0⟩ := arg_Desk (hval 0 37 v0 rfl rfl) h0
  clear hA0 hval0 hsz0 hsz
  obtain ⟨k, hk⟩ := FnExactIsDesk_pure a0_0 l0_1 a0_2 l0_3 g0 hr0_1.2.1 hr0_3.2.1 (C_inner hr0_3)
  refine (laws_FnExactIsDesk.calls k a0_0 A0_1 c0_1 l0_1 a0_2 A0_3 c0_3 l0_3 true W hr0_1 hc0_1 hr0_3 hc0_3 hk).mono fun e W' ⟨he, bel⟩ => ?_
  subst he
  exact ⟨_, rfl, _, _, _, [], _, [], hW', trodAll_mk1 (shut_bool Try.underlying4 _), (trodAll_cons_mk (Below.trod laidOut (by kernel_rfl) (of_decide_eq_true (by kernel_rfl)) k0 bel lt0) trodAll_mk0), rfl, bel.frame _, fun h => by cases h⟩
theorem over : Rows.fnExactIsDeskRow.holds Try.pinned (OpenSpec.ofChange Rows.fnExactIsDeskSpec) :=
  OpenClaim.holds_of_wide 4 Try.f4 rfl rfl rfl rfl rfl rfl rfl ⟨rfl, rfl, rfl, rfl, rfl⟩ rfl rfl rfl rfl rfl (by kernel_rfl) Try.func4 (by kernel_rfl)
    (of_decide_eq_true (by kernel_rfl)) (by unfold Func.isWrapper; first | (rw [if_pos (by decide +kernel)]; kernel_rfl) | (rw [if_neg (by decide +kernel)]; exact ⟨rfl, rfl⟩))
    (fun os started H enc _ => lifted os started H enc)
theorem proved : Rows.FnExactIsDeskSaid := over
end Go.Proofs.Ytkgpcomljgbilaa.fnExactIsDesk
namespace Go.Proofs.Ytkgpcomljgbilaa
theorem fnExactIsDesk_holds : Rows.FnExactIsDeskSaid := fnExactIsDesk.proved
end Go.Proofs.Ytkgpcomljgbilaa
end
#print axioms Go.Proofs.Ytkgpcomljgbilaa.fnExactIsDesk_holds

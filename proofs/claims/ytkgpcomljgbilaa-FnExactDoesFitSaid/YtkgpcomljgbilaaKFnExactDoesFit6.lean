/- The row of the law FnExactDoesFit: for every input it returns true, and its arguments read afterwards as before. No condition: FnExactDoesFit_pure says that its pure form answers true at every input, and laws_FnExactDoesFit.calls that the machine comes to just that. -/
import Derived.Test.YtkgpcomljgbilaaKFnExactDoesFit5
import Derived.Test.YtkgpcomljgbilaaRows
section
namespace Go.Proofs.Ytkgpcomljgbilaa.Q
open Go.RowKit Go.Proofs.YtkgpcomljgbilaaW.PrintWords Go.Proofs.YtkgpcomljgbilaaW.PrintLast Go.Proofs.YtkgpcomljgbilaaW.PrintMore
set_option linter.unusedVariables false
set_option linter.unusedSimpArgs false
def swB (g : Nat → Bool) (i m : Nat) : Bool := !bitB m i && (!g m && g (m + 2 ^ i))
theorem or_shl (m i : Nat) (hm : m < 512) (hi : i < 9) (hb : bitB m i = false) : Go.bits .or .i64 (m : Int) (shl .i64 1 (i : Int)) = ((m + 2 ^ i : Nat) : Int) := by
  have hp := (pow_lt9 (show i < 9 from hi) (Nat.le_refl _)).1
  rw [shl_one_nat i (by omega), or_nat m (2 ^ i) (by omega) (by omega), or_bit m i hm hi, if_neg (by simp [hb])]
theorem add_lt (m i n : Nat) (hn : n ≤ 9) (hm : m < 2 ^ n) (hi : i < n) (hb : bitB m i = false) : m + 2 ^ i < 2 ^ n := by
  have hp := (pow_lt9 hi hn).2
  have := Nat.or_lt_two_pow hm (pow_lt9 hi hn).1
  rw [or_bit m i (by omega) (by omega), if_neg (by simp [hb])] at this
  exact this
theorem isSwing_eq (a : Int) (g : Nat → Bool) (n m i : Nat) (hn : n ≤ 9) (hm : m < 2 ^ n) (hi : i < n) : impl_votes_isSwing.f a (tabB g (2 ^ n)) (m : Int) (i : Int) = some (swB g i m) := by
  have hp := (pow_lt9 hi hn).2
  unfold impl_votes_isSwing.f swB
  rw [has_eq m i (by omega) (by omega), Option.bind_some, rdOf_tab hm, tabB_len]
  cases hb : bitB m i
  · rw [if_neg (by decide), if_pos (by omega), if_pos (by omega)]
    cases hg : g m
    · rw [if_neg (by decide), if_pos (by omega), or_shl m i (by omega) (by omega) hb, if_pos (Int.natCast_nonneg _), if_pos (Int.ofNat_lt.2 (add_lt m i n hn hm hi hb)), rdOf_tab (add_lt m i n hn hm hi hb)]
      rfl
    · rw [if_pos rfl]; rfl
  · rw [if_pos rfl]; rfl
theorem set_same {α : Type} (l : List α) (i : Nat) (h : i < l.length) (x : α) (hx : l[i] = x) : l.set i x = l := by subst hx; exact List.set_getElem_self h
theorem swings_ev (m : Int) (h : 1 ≤ m ∧ m ≤ 9) (g : Nat → Bool) : Ev (fun k => impl_votes_swings.f k m (tabB g (2 ^ m.toNat))) (tab (fun i => cntB (swB g i) (2 ^ m.toNat) 0) m.toNat) := by
  obtain ⟨n, rfl⟩ := Int.eq_ofNat_of_zero_le (show 0 ≤ m by omega)
  have hn : n ≤ 9 := by omega
  have hp := pow_le512 h
  unfold impl_votes_swings.f
  rw [Int.toNat_natCast] at *
  have key : ∀ x : List Int, x.length = n → ∀ i, i < n → rd x (i : Int) = 0 → ∀ r, Ev (fun k => impl_votes_swings.l0 k (x.set i (cntB (swB g i) (2 ^ n) 0)) (n : Int) ((i + 1 : Nat) : Int) (n : Int) (tabB g (2 ^ n))) r →
      Ev (fun k => impl_votes_swings.l1 k x (i : Int) (n : Int) (i : Int) ((2 ^ n : Nat) : Int) 0 (n : Int) (tabB g (2 ^ n))) r := by
    intro x hx i hi h0 r hr
    have := ev_rangeS (2 ^ n) (fun k j (y : List Int) => impl_votes_swings.l1 k y (i : Int) (n : Int) (i : Int) ((2 ^ n : Nat) : Int) (j : Int) (n : Int) (tabB g (2 ^ n))) (fun _ _ => r)
      (fun j y => ∃ c : Int, 0 ≤ c ∧ c ≤ j ∧ y = x.set i c ∧ c + cntB (swB g i) (2 ^ n) j = cntB (swB g i) (2 ^ n) 0) ?_ ?_ 0 x (Nat.zero_le _) ⟨0, Int.le_refl _, Int.le_refl _, ?_, by omega⟩
    · simpa using this
    · rintro y ⟨c, _, _, rfl, hc⟩
      refine ev_succ ?_
      simp only [impl_votes_swings.l1]
      refine ev_neg (Int.lt_irrefl _) ?_
      rw [cntB_end, Int.add_zero] at hc
      rw [hc, wrap_succ hi (by omega)]
      exact hr
    · rintro j y hj ⟨c, hc0, hcj, rfl, hc⟩ ih
      refine ev_succ ?_
      simp only [impl_votes_swings.l1]
      refine ev_pos (by omega) (ev_bindS (isSwing_eq _ g n j i hn hj hi) ?_)
      rw [wrap_succ hj (by omega)]
      rw [cntB_step _ _ _ hj] at hc
      refine ev_bool (fun e => ?_) (fun e => ?_)
      · rw [if_pos e] at hc
        refine ev_pos (by omega) (ev_pos (by rw [List.length_set]; omega) (ih _ ⟨c + 1, by omega, by omega, ?_, by omega⟩))
        rw [rd_get (by rw [List.length_set]; omega), List.getElem_set_self, Int.toNat_natCast, List.set_set, wrap64_id (by omega)]
      · rw [if_neg (by simp [e])] at hc
        exact ih _ ⟨c, hc0, by omega, rfl, by omega⟩
    · exact (set_same x i (by omega) 0 (by rw [rd_get (by omega)] at h0; exact h0)).symm
  refine ev_pos (by omega) (ev_pos (by omega) (ev_bindS rfl ?_))
  have := ev_range n (fun k i => impl_votes_swings.l0 k (tab (fun i => cntB (swB g i) (2 ^ n) 0) i ++ List.replicate (n - i) 0) (n : Int) (i : Int) (n : Int) (tabB g (2 ^ n))) (fun _ => tab (fun i => cntB (swB g i) (2 ^ n) 0) n) ?_ ?_ 0 (Nat.zero_le _)
  · simpa [tab] using this
  · refine ev_succ ?_
    simp only [impl_votes_swings.l0]
    exact ev_neg (Int.lt_irrefl _) (ev_eqv (Ev.now _) (by simp))
  · intro i hi ih
    refine ev_succ ?_
    simp only [impl_votes_swings.l0, tabB_len]
    have hl : (tab (fun i => cntB (swB g i) (2 ^ n) 0) i ++ List.replicate (n - i) 0).length = n := by rw [List.length_append, tab_len, List.length_replicate]; omega
    refine ev_pos (by omega) (key _ hl i hi ?_ _ ?_)
    · rw [rd_get (by omega), List.getElem_append_right (by rw [tab_len]; omega)]; simp
    · rw [show n - i = (n - (i + 1)) + 1 by omega, List.replicate_succ, List.set_append_right _ _ (by rw [tab_len]; omega), tab_len, Nat.sub_self, List.set_cons_zero]
      rw [tab_succ, List.append_assoc] at ih
      exact ih
theorem pwSwings_ev (n i : Nat) (hn : n ≤ 9) (hi : i < n) (g : Nat → Bool) : Ev (fun k => spec_pwSwings.f k (tabB g (2 ^ n)) (i : Int)) (((List.range (2 ^ n)).filter (swB g i)).map fun (x : Nat) => (x : Int)) := by
  have hp := (pow_lt9 hi hn).2
  have hp1 := (pow_lt9 hi hn).1
  unfold spec_pwSwings.f
  have := ev_rangeS (2 ^ n) (fun k j (y : List Int) => spec_pwSwings.l0 k (tabB g (2 ^ n)) (i : Int) y (tabB g (2 ^ n)) ((2 ^ n : Nat) : Int) (j : Int)) (fun j y => y ++ (((List.range (2 ^ n)).drop j).filter (swB g i)).map fun (x : Nat) => (x : Int))
      (fun j y => y.length ≤ j) ?_ ?_ 0 ([] : List Int) (Nat.zero_le _) (Nat.le_refl _)
  · simpa [tabB_len] using this
  · intro y _
    refine ev_succ ?_
    simp only [spec_pwSwings.l0]
    exact ev_neg (Int.lt_irrefl _) (ev_eqv (Ev.now _) (by rw [List.drop_of_length_le (by simp)]; simp))
  · intro j y hj hy ih
    refine ev_succ ?_
    simp only [spec_pwSwings.l0, tabB_len]
    have hd : (List.range (2 ^ n)).drop j = j :: (List.range (2 ^ n)).drop (j + 1) := by rw [List.drop_eq_getElem_cons (by simpa using hj), List.getElem_range]
    rw [hd, List.filter_cons]
    refine ev_pos (by omega) (ev_pos (by omega) (ev_pos (by omega) (ev_pos (by omega) ?_)))
    rw [wrap_succ hj (by omega), rdOf_tab hj]
    refine ev_ite (fun hb => ?_) (fun hb => ?_)
    · rw [tmod_bit j i (by omega)] at hb
      refine ev_bool (fun e => ?_) (fun e => ?_)
      · rw [if_neg (by simp [swB, e])]; exact ih y (by omega)
      · have hw : wrap64 ((j : Int) + shl .i64 1 (i : Int)) = ((j + 2 ^ i : Nat) : Int) := by
          rw [shl_one_nat i (by omega)]
          generalize 2 ^ i = q at *
          unfold wrap64; omega
        have hl := add_lt j i n hn hj hi hb
        rw [hw, rdOf_tab hl]
        refine ev_pos (Int.natCast_nonneg _) (ev_pos (Int.ofNat_lt.2 hl) (ev_bool (fun e2 => ?_) (fun e2 => ?_)))
        · refine ev_pos (by omega) (ev_eqv (ih (y ++ [(j : Int)]) (by simp; omega)) ?_)
          rw [if_pos (by simp [swB, e, hb, e2]), List.map_cons, List.append_assoc]; rfl
        · rw [if_neg (by simp [swB, e2])]; exact ih y (by omega)
    · rw [tmod_bit j i (by omega), Bool.not_eq_false] at hb
      rw [if_neg (by simp [swB, hb])]; exact ih y (by omega)
theorem rest_lt (n M : Nat) : 2 ^ n - 1 - M < 2 ^ n := by
  have : 1 ≤ 2 ^ n := Nat.one_le_two_pow
  generalize 2 ^ n = N at *
  omega
def tellA (k a : Int) (g : Nat → Bool) (N : Nat) : Int :=
  if k = 1 then cntB g N 0 else if k = 4 then (if properB g N = true then 1 else 0) else if k = 5 then (if strongB g N = true then 1 else 0) else a
def tellB (k a : Int) (g : Nat → Bool) (N : Nat) : Int :=
  if k = 0 then (if g a.toNat = true then 1 else 0) else if k = 2 then (if g (N - 1 - 2 ^ a.toNat) = true then 0 else 1) else if k = 3 then cntB (swB g a.toNat) N 0 else 0
def AskOk (n : Nat) (k a : Int) : Prop := (k = 0 → 0 ≤ a ∧ a < ((2 ^ n : Nat) : Int)) ∧ (k = 2 → 0 ≤ a ∧ a < (n : Int)) ∧ (k = 3 → 0 ≤ a ∧ a < (n : Int))
theorem clueOk_ask {n : Nat} {k a b : Int} (h : clueOk (n : Int) k a b = true) : AskOk n k a := by
  unfold clueOk at h
  refine ⟨?_, ?_, ?_⟩
  · rintro rfl
    rw [if_pos rfl, Bool.and_eq_true, inB_iff, Int.toNat_natCast] at h
    refine ⟨h.1.1, ?_⟩
    have := h.1.2
    push_cast
    omega
  · rintro rfl
    rw [if_neg (by decide), if_neg (by decide), if_pos rfl, Bool.and_eq_true, inB_iff] at h
    omega
  · rintro rfl
    rw [if_neg (by decide), if_neg (by decide), if_neg (by decide), if_pos rfl, Bool.and_eq_true, inB_iff] at h
    omega
theorem told_ev (n : Nat) (h : 1 ≤ n ∧ n ≤ 9) (g : Nat → Bool) (k a : Int) (hk : 0 ≤ k ∧ k ≤ 5) (ha : AskOk n k a) :
    Ev (fun r => impl_votes_told.f r (n : Int) (tabB g (2 ^ n)) k a) (k, if k = 0 ∨ k = 1 ∨ k = 2 ∨ k = 3 ∨ k = 4 ∨ k = 5 then tellA k a g (2 ^ n) else 0, tellB k a g (2 ^ n)) := by
  have hm : 1 ≤ (n : Int) ∧ (n : Int) ≤ 9 := by omega
  have e0 : (n : Int).toNat = n := Int.toNat_natCast n
  have hj : ∀ x y z : Int, Ev (fun r => impl_votes_told.j0 r x y z) (x, y, z) := fun x y z => by
    refine ev_succ ?_
    simp only [impl_votes_told.j0]
    exact Ev.now _
  have hp : 2 ^ n ≤ 512 := Nat.pow_le_pow_right (n := 2) (by decide) (show n ≤ 9 by omega)
  unfold impl_votes_told.f
  have hcase : k = 0 ∨ k = 1 ∨ k = 2 ∨ k = 3 ∨ k = 4 ∨ k = 5 := by omega
  rw [if_pos hcase]
  rcases hcase with rfl | rfl | rfl | rfl | rfl | rfl
  · obtain ⟨h0, h1⟩ := ha.1 rfl
    obtain ⟨x, rfl⟩ := Int.eq_ofNat_of_zero_le h0
    have hx : x < 2 ^ n := by exact_mod_cast h1
    refine ev_pos rfl (ev_pos h0 (ev_pos (by rw [tabB_len]; exact h1) ?_))
    rw [rdOf_tab hx]
    refine ev_bindS (oneIf_eq _) (ev_eqv (hj _ _ _) ?_)
    unfold tellA tellB
    simp
  · refine ev_neg (by decide) (ev_pos rfl (Ev.bind (countWins_ev _ g _ hp) (ev_eqv (hj _ _ _) ?_)))
    unfold tellA tellB
    simp
  · obtain ⟨h0, h1⟩ := ha.2.1 rfl
    obtain ⟨x, rfl⟩ := Int.eq_ofNat_of_zero_le h0
    have hx : x < n := by exact_mod_cast h1
    have hq := (pow_lt9 hx h.2).1
    have hr := rest_mask (n : Int) hm (2 ^ x) (by rw [e0]; exact hq)
    have hall := all_eq (n : Int) (tabB g (2 ^ n)) hm
    rw [e0] at hr hall
    refine ev_neg (by decide) (ev_neg (by decide) (ev_pos rfl (ev_bindS hall (ev_pos h0 ?_))))
    rw [shl_one_nat x (by omega), hr, tabB_len]
    refine ev_pos (Int.natCast_nonneg _) (ev_pos (Int.ofNat_lt.2 (rest_lt n _)) ?_)
    rw [rdOf_tab (rest_lt n (2 ^ x))]
    refine ev_bindS (oneIf_eq _) (ev_eqv (hj _ _ _) ?_)
    unfold tellA tellB
    simp
    by_cases hg : g (2 ^ n - 1 - 2 ^ x) = true <;> simp [hg]
  · obtain ⟨h0, h1⟩ := ha.2.2 rfl
    obtain ⟨x, rfl⟩ := Int.eq_ofNat_of_zero_le h0
    have hx : x < n := by exact_mod_cast h1
    have hs := swings_ev (n : Int) hm g
    rw [e0] at hs
    refine ev_neg (by decide) (ev_neg (by decide) (ev_neg (by decide) (ev_pos rfl (Ev.bind hs (ev_pos h0 (ev_pos (by rw [tab_len]; exact h1) (ev_eqv (hj _ _ _) ?_)))))))
    rw [rd_get (by rw [tab_len]; exact hx), tab_get]
    unfold tellA tellB
    simp
  · have hs := isProper_ev (n : Int) hm g
    rw [e0] at hs
    refine ev_neg (by decide) (ev_neg (by decide) (ev_neg (by decide) (ev_neg (by decide) (ev_pos rfl (Ev.bind hs (ev_bindS (oneIf_eq _) (ev_eqv (hj _ _ _) ?_)))))))
    unfold tellA tellB
    simp
  · have hs := isStrong_ev (n : Int) hm g
    rw [e0] at hs
    refine ev_neg (by decide) (ev_neg (by decide) (ev_neg (by decide) (ev_neg (by decide) (ev_neg (by decide) (ev_pos rfl (Ev.bind hs (ev_bindS (oneIf_eq _) (ev_eqv (hj _ _ _) ?_))))))))
    unfold tellA tellB
    simp
def tellV (k a : Int) (g : Nat → Bool) (N : Nat) : Int := if k = 1 ∨ 3 < k then tellA k a g N else tellB k a g N
theorem pzValue_ev (n : Nat) (h : 1 ≤ n ∧ n ≤ 9) (g : Nat → Bool) (k a : Int) (hk : 0 ≤ k ∧ k ≤ 5) (ha : AskOk n k a) : Ev (fun r => spec_pzValue.f r k a (tabB g (2 ^ n))) (tellV k a g (2 ^ n)) := by
  have hp : 2 ^ n ≤ 512 := Nat.pow_le_pow_right (n := 2) (by decide) (show n ≤ 9 by omega)
  have h1p : 1 ≤ 2 ^ n := Nat.one_le_two_pow
  unfold spec_pzValue.f
  rw [tabB_len]
  have hw : wrap64 (((2 ^ n : Nat) : Int) - 1) = ((2 ^ n - 1 : Nat) : Int) := by
    generalize 2 ^ n = N at *
    unfold wrap64; omega
  rw [hw]
  have hcase : k = 0 ∨ k = 1 ∨ k = 2 ∨ k = 3 ∨ (k = 4 ∨ k = 5) := by omega
  rcases hcase with rfl | rfl | rfl | rfl | hk45
  · obtain ⟨h0, h1⟩ := ha.1 rfl
    obtain ⟨x, rfl⟩ := Int.eq_ofNat_of_zero_le h0
    have hx : x < 2 ^ n := by exact_mod_cast h1
    refine ev_pos rfl (ev_pos h0 (ev_pos h1 ?_))
    rw [rdOf_tab hx]
    refine ev_bindS (pzOne_eq _) (ev_eqv (Ev.now _) ?_)
    simp [tellV, tellB]
  · exact ev_neg (by decide) (ev_pos rfl (ev_eqv (pzValue_l0 g _ hp) (by simp [tellV, tellA])))
  · obtain ⟨h0, h1⟩ := ha.2.1 rfl
    obtain ⟨x, rfl⟩ := Int.eq_ofNat_of_zero_le h0
    have hx : x < n := by exact_mod_cast h1
    have hq := (pow_lt9 hx h.2).1
    have hw2 : wrap64 (((2 ^ n - 1 : Nat) : Int) - shl .i64 1 (x : Int)) = ((2 ^ n - 1 - 2 ^ x : Nat) : Int) := by
      rw [shl_one_nat x (by omega)]
      generalize 2 ^ n = N at *
      generalize 2 ^ x = M at *
      unfold wrap64; omega
    refine ev_neg (by decide) (ev_neg (by decide) (ev_pos rfl (ev_pos h0 ?_)))
    rw [hw2]
    refine ev_pos (Int.natCast_nonneg _) (ev_pos (Int.ofNat_lt.2 (rest_lt n _)) ?_)
    rw [rdOf_tab (rest_lt n (2 ^ x))]
    refine ev_bindS (pzOne_eq _) (ev_eqv (Ev.now _) ?_)
    simp [tellV, tellB]
    by_cases hg : g (2 ^ n - 1 - 2 ^ x) = true <;> simp [hg]
  · obtain ⟨h0, h1⟩ := ha.2.2 rfl
    obtain ⟨x, rfl⟩ := Int.eq_ofNat_of_zero_le h0
    have hx : x < n := by exact_mod_cast h1
    refine ev_neg (by decide) (ev_neg (by decide) (ev_neg (by decide) (ev_pos rfl (Ev.bind (pwSwings_ev n x h.2 hx g) (ev_eqv (Ev.now _) ?_)))))
    simp [tellV, tellB, cntB]
  · refine ev_neg (by omega) (ev_neg (by omega) (ev_neg (by omega) (ev_neg (by omega) (ev_eqv (pzValue_l1 k hk45 g _ hp h1p) ?_))))
    rcases hk45 with rfl | rfl <;> simp [tellV, tellA]
theorem pzFits_ev (n : Nat) (h : 1 ≤ n ∧ n ≤ 9) (g : Nat → Bool) (k a b : Int) (hk : 0 ≤ k ∧ k ≤ 5) (ha : AskOk n k a) (hb : k = 1 ∨ 3 < k → b = 0) :
    Ev (fun r => spec_pzFits.f r k a b (tabB g (2 ^ n))) (decide (tellA k a g (2 ^ n) = a ∧ tellB k a g (2 ^ n) = b)) := by
  have key : ∀ x, x = decide (k = 1 ∨ 3 < k) → Ev (fun r => spec_pzFits.j0 r (tabB g (2 ^ n)) x k a b) (decide (tellA k a g (2 ^ n) = a ∧ tellB k a g (2 ^ n) = b)) := by
    rintro x rfl
    refine ev_succ ?_
    simp only [spec_pzFits.j0]
    by_cases c : k = 1 ∨ 3 < k
    · refine ev_pos (by simpa using c) (Ev.bind (pzValue_ev n h g k 0 hk ⟨by omega, by omega, by omega⟩) (ev_eqv (Ev.now _) ?_))
      have e1 : tellV k 0 g (2 ^ n) = tellA k a g (2 ^ n) := by
        have : k = 1 ∨ k = 4 ∨ k = 5 := by omega
        rcases this with rfl | rfl | rfl <;> simp [tellV, tellA]
      have e2 : tellB k a g (2 ^ n) = 0 := by
        have : k = 1 ∨ k = 4 ∨ k = 5 := by omega
        rcases this with rfl | rfl | rfl <;> simp [tellB]
      rw [e1, e2, hb c, Bool.eq_iff_iff]; simp
    · refine ev_neg (by simpa using c) (Ev.bind (pzValue_ev n h g k a hk ha) (ev_eqv (Ev.now _) ?_))
      have e1 : tellV k a g (2 ^ n) = tellB k a g (2 ^ n) := by unfold tellV; rw [if_neg c]
      have e2 : tellA k a g (2 ^ n) = a := by
        have : k = 0 ∨ k = 2 ∨ k = 3 := by omega
        rcases this with rfl | rfl | rfl <;> simp [tellA]
      rw [e1, e2, Bool.eq_iff_iff]; simp
  unfold spec_pzFits.f
  exact ev_ite (fun e => key _ (by simp [e])) (fun e => key _ (by simp [e]))
end Go.Proofs.Ytkgpcomljgbilaa.Q
end
section
namespace Go.Proofs.Ytkgpcomljgbilaa.Q
open Go.RowKit Go.Proofs.YtkgpcomljgbilaaW.PrintWords Go.Proofs.YtkgpcomljgbilaaW.PrintLast Go.Proofs.YtkgpcomljgbilaaW.PrintMore
set_option linter.unusedVariables false
set_option linter.unusedSimpArgs false
theorem szIntS_eq (l : List Int) (n : Nat) (hn : n ≤ 1048576) (hl : l.length ≤ 9223372036854775807) : ∃ q, laws_szIntS.f l (n : Int) = some q ∧ (¬ q < 0 → ∃ m : Nat, q = m ∧ m ≤ n ∧ l.length ≤ n) := by
  unfold laws_szIntS.f
  rw [wrap64_id (by omega)]
  by_cases h : (n : Int) - (l.length : Int) < 0
  · exact ⟨-1, by rw [if_pos h], fun h => absurd (by decide) h⟩
  · exact ⟨_, by rw [if_neg h], fun _ => ⟨n - l.length, by omega, by omega, by omega⟩⟩
theorem szIntSS_ev (l : List (List Int)) (n : Nat) (hn : n ≤ 1048576) (hl : l.length ≤ 9223372036854775807) (hx : ∀ x ∈ l, x.length ≤ 9223372036854775807) :
    ∃ q, Ev (fun k => laws_szIntSS.f k l (n : Int)) q ∧ (¬ q < 0 → ∃ m : Nat, q = m ∧ m ≤ n ∧ l.length ≤ n ∧ ∀ x ∈ l, x.length ≤ n) := by
  unfold laws_szIntSS.f
  rw [wrap64_id (by omega)]
  by_cases h : (n : Int) - (l.length : Int) < 0
  · exact ⟨-1, ev_pos h (Ev.now _), fun h => absurd (by decide) h⟩
  have key : ∀ (d i m : Nat), i + d = l.length → m ≤ n → ∃ q, Ev (fun k => laws_szIntSS.l0 k l (m : Int) (i : Int)) q ∧ (¬ q < 0 → ∃ m' : Nat, q = m' ∧ m' ≤ m ∧ ∀ x ∈ l.drop i, x.length ≤ n) := by
    intro d
    induction d with
    | zero =>
      intro i m hi hm
      refine ⟨m, ev_succ ?_, fun _ => ⟨m, rfl, Nat.le_refl _, fun x hx => ?_⟩⟩
      · simp only [laws_szIntSS.l0]; exact ev_neg (by omega) (Ev.now _)
      · rw [List.drop_of_length_le (by omega)] at hx; cases hx
    | succ d ih =>
      intro i m hi hm
      have h1 : i < l.length := by omega
      obtain ⟨q, hq, hq2⟩ := szIntS_eq l[i] m (by omega) (hx _ (List.getElem_mem h1))
      by_cases c : q < 0
      · refine ⟨-1, ev_succ ?_, fun h => absurd (by decide) h⟩
        simp only [laws_szIntSS.l0, rdL1_get h1, hq, Option.bind_some]
        exact ev_pos (by omega) (ev_pos (by omega) (ev_pos c (Ev.now _)))
      · obtain ⟨m', rfl, h2, h3⟩ := hq2 c
        obtain ⟨q2, e2, p2⟩ := ih (i + 1) m' (by omega) (by omega)
        refine ⟨q2, ev_succ ?_, fun hn2 => ?_⟩
        · simp only [laws_szIntSS.l0, rdL1_get h1, hq, Option.bind_some, wrap_succ (i := i) (n := 1048576) (by omega) (by decide)]
          exact ev_pos (by omega) (ev_pos (by omega) (ev_neg c e2))
        · obtain ⟨m'', r1, r2, r3⟩ := p2 hn2
          refine ⟨m'', r1, by omega, fun x hx => ?_⟩
          rw [List.drop_eq_getElem_cons h1] at hx
          rcases List.mem_cons.1 hx with rfl | hx
          · omega
          · exact r3 x hx
  obtain ⟨q, e, p⟩ := key l.length 0 (n - l.length) (by omega) (by omega)
  refine ⟨q, ev_neg h ?_, fun hq => ?_⟩
  · rw [show (n : Int) - (l.length : Int) = ((n - l.length : Nat) : Int) by omega]; exact e
  · obtain ⟨m, r1, r2, r3⟩ := p hq
    exact ⟨m, r1, by omega, by omega, by simpa using r3⟩
theorem szGame_ev (a : Int) (l : List (List Int)) (n : Nat) (hn : n ≤ 1048576) (hl : l.length ≤ 9223372036854775807) (hx : ∀ x ∈ l, x.length ≤ 9223372036854775807) :
    ∃ q, Ev (fun k => laws_szGame.f k a l (n : Int)) q ∧ (¬ q < 0 → ∃ m : Nat, q = m ∧ m ≤ n ∧ l.length ≤ n ∧ ∀ x ∈ l, x.length ≤ n) := by
  obtain ⟨q, e, p⟩ := szIntSS_ev l n hn hl hx
  unfold laws_szGame.f
  by_cases h : q < 0
  · exact ⟨-1, Ev.bind e (ev_pos h (Ev.now _)), fun h => absurd (by decide) h⟩
  · exact ⟨q, Ev.bind e (ev_neg h (Ev.now _)), p⟩
theorem toIntSS_ev (l : List (List Int)) (hl : l.length ≤ 1152921504606) (hx : ∀ x ∈ l, x.length ≤ 1152921504606) : Ev (fun k => laws_toIntSS.f k l) l := by
  unfold laws_toIntSS.f
  refine ev_pos (by omega) (ev_pos (by omega) ?_)
  rw [Int.toNat_natCast]
  have := ev_range l.length (fun k i => laws_toIntSS.l0 k l ((l.take i).map id ++ List.replicate (l.length - i) []) (i : Int)) (fun _ => l) ?_ ?_ 0 (Nat.zero_le _)
  · simpa using this
  · refine ev_succ ?_
    simp only [laws_toIntSS.l0]
    exact ev_neg (by omega) (ev_eqv (Ev.now _) (by simp))
  · intro i hi ih
    refine ev_succ ?_
    simp only [laws_toIntSS.l0]
    refine ev_pos (by omega) (ev_pos (by omega) ?_)
    rw [rdL1_get hi]
    refine Ev.bind (toIntS_ev l[i] (hx _ (List.getElem_mem hi))) (ev_pos (by rw [copy_len _ _ _ _ (by omega)]; omega) ?_)
    rw [wrap_succ hi (by omega), Int.toNat_natCast, show l[i] = id l[i] from rfl, set_copy id _ l i hi]
    exact ih
theorem toGame_ev (m : Int) (l : List (List Int)) (hl : l.length ≤ 1152921504606) (hx : ∀ x ∈ l, x.length ≤ 1152921504606) : Ev (fun k => laws_toGame.f k m l) (m, l) := by
  unfold laws_toGame.f
  exact Ev.bind (toIntSS_ev l hl hx) (Ev.now _)
theorem eqIntSS_ev (a b : List (List Int)) (ha : a.length ≤ 1152921504606) (hx : ∀ x ∈ a, x.length ≤ 1152921504606) : Ev (fun k => laws_eqIntSS.f k a b) (decide (a = b)) := by
  unfold laws_eqIntSS.f
  by_cases hl : a.length = b.length
  · refine ev_pos (by omega) ?_
    refine ev_range a.length (fun k i => laws_eqIntSS.l0 k a b (i : Int)) (fun i => decide (a.drop i = b.drop i)) ?_ ?_ 0 (Nat.zero_le _)
    · refine ev_succ ?_
      simp only [laws_eqIntSS.l0]
      refine ev_neg (by omega) (ev_eqv (Ev.now _) ?_)
      rw [List.drop_of_length_le (by omega), List.drop_of_length_le (by omega)]; simp
    · intro i hi ih
      have h2 : i < b.length := by omega
      refine ev_succ ?_
      simp only [laws_eqIntSS.l0]
      refine ev_pos (by omega) (ev_pos (by omega) (ev_pos (by omega) ?_))
      rw [rdL1_get hi, rdL1_get h2, wrap_succ hi (by omega), eq_drop a b i hi h2]
      refine Ev.bind (eqIntS_ev a[i] b[i] (Nat.le_trans (hx _ (List.getElem_mem hi)) (by decide))) (ev_bool (fun h => ?_) (fun h => ?_))
      · rw [h]; exact ih
      · rw [h]; exact Ev.now _
  · refine ev_neg (by omega) (ev_eqv (Ev.now false) ?_)
    exact (decide_eq_false fun e => hl (by rw [e])).symm
theorem eqGame_ev (m n : Int) (a b : List (List Int)) (ha : a.length ≤ 1152921504606) (hx : ∀ x ∈ a, x.length ≤ 1152921504606) : Ev (fun k => laws_eqGame.f k m a n b) (decide (m = n ∧ a = b)) := by
  unfold laws_eqGame.f
  by_cases hm : m = n
  · refine ev_pos hm (Ev.bind (eqIntSS_ev a b ha hx) (ev_bool (fun h => ev_eqv (Ev.now _) ?_) (fun h => ev_eqv (Ev.now _) ?_)))
    · exact (decide_eq_true ⟨hm, of_decide_eq_true h⟩).symm
    · exact (decide_eq_false fun e => of_decide_eq_false h e.2).symm
  · exact ev_neg hm (ev_eqv (Ev.now _) (decide_eq_false fun e => hm e.1).symm)
end Go.Proofs.Ytkgpcomljgbilaa.Q
end
section
namespace Go.Proofs.Ytkgpcomljgbilaa.Q
open Go.RowKit Go.Proofs.YtkgpcomljgbilaaW.PrintWords Go.Proofs.YtkgpcomljgbilaaW.PrintLast Go.Proofs.YtkgpcomljgbilaaW.PrintMore
set_option linter.unusedVariables false
set_option linter.unusedSimpArgs false
theorem any_eq_mem {α : Type} {p q : α → Bool} : ∀ {l : List α}, (∀ x ∈ l, p x = q x) → l.any p = l.any q
  | [], _ => rfl
  | x :: xs, h => by rw [List.any_cons, List.any_cons, h x (List.mem_cons_self ..), any_eq_mem fun y hy => h y (List.mem_cons_of_mem _ hy)]
theorem votesOf_l0 (p : Int → Option Bool) (q : Nat → Bool) (a n : Nat) (m : Int) (hn : n ≤ 1048576) (h : ∀ i, i < n → p (i : Int) = some (q i)) : Ev (fun k => impl_votesOf.l0 p k (n : Int) 0 m (List.replicate n false)) (m, tabB q n) := by
  have := ev_range n (fun k i => impl_votesOf.l0 p k (n : Int) (i : Int) m (tabB q i ++ List.replicate (n - i) false)) (fun _ => (m, tabB q n)) ?_ ?_ 0 (Nat.zero_le _)
  · simpa [tabB] using this
  · refine ev_succ ?_
    simp only [impl_votesOf.l0]
    exact ev_neg (Int.lt_irrefl _) (ev_eqv (Ev.now _) (by simp))
  · intro i hi ih
    refine ev_succ ?_
    simp only [impl_votesOf.l0]
    have hlen : (tabB q i ++ List.replicate (n - i) false).length = n := by rw [List.length_append, tabB_len, List.length_replicate]; omega
    refine ev_pos (by omega) (ev_bindS (h i hi) (ev_pos (by omega) (ev_pos (by rw [hlen]; omega) ?_)))
    rw [wrap_succ hi (Nat.le_trans hn (by decide)), Int.toNat_natCast, show n - i = (n - (i + 1)) + 1 by omega, List.replicate_succ, tabB_set, tabB_next]
    exact ih
theorem votesOf_ev (p : Int → Option Bool) (q : Nat → Bool) (m : Int) (hm : 0 ≤ m ∧ m ≤ 9) (h : ∀ i : Nat, i < 2 ^ m.toNat → p (i : Int) = some (q i)) : Ev (fun k => impl_votesOf.f k m p) (m, tabB q (2 ^ m.toNat)) := by
  have hp : 2 ^ m.toNat ≤ 512 := Nat.pow_le_pow_right (n := 2) (by decide) (show m.toNat ≤ 9 by omega)
  have hs : shl .i64 1 m = ((2 ^ m.toNat : Nat) : Int) := by rw [shl_one m (by omega)]; simp
  have hl0 := votesOf_l0 p q 0 (2 ^ m.toNat) m (by omega) h
  unfold impl_votesOf.f
  refine ev_pos hm.1 ?_
  rw [hs]
  generalize 2 ^ m.toNat = n at *
  have hn2 : (n : Int).toNat ≤ 281474976710656 := by rw [Int.toNat_natCast]; exact Nat.le_trans hp (by decide)
  refine ev_pos (Int.natCast_nonneg n) (ev_pos hn2 (ev_bindS rfl ?_))
  simp only [Int.toNat_natCast, List.length_replicate]
  exact hl0
theorem votesBy_l0 (m : Int) (l : List (List Int)) (hl : l.length ≤ 1048576) (h : SetsOk m l) : Ev (fun k => impl_votesBy.l0 k m l (l.length : Int) 0 []) (m, winT m l) := by
  have := ev_range l.length (fun k i => impl_votesBy.l0 k m l (l.length : Int) (i : Int) ((l.take i).map fun s => ((maskN 0 s : Nat) : Int))) (fun _ => (m, winT m l)) ?_ ?_ 0 (Nat.zero_le _)
  · simpa using this
  · refine ev_succ ?_
    simp only [impl_votesBy.l0]
    refine ev_neg (Int.lt_irrefl _) ?_
    rw [List.take_length]
    unfold votesOf_votesBy.f
    refine Ev.bind (votesOf_ev _ (winB l) m (by have := h.1; omega) (fun i hi => ?_)) (Ev.now _)
    have hp := pow_le512 h.1
    rw [anyO_some (q := fun x => Go.bits .and .i64 (i : Int) x == x) (fun _ _ => rfl), List.any_map]
    congr 1
    unfold winB
    refine any_eq_mem fun s hs => ?_
    obtain ⟨j, hj, rfl⟩ := List.mem_iff_getElem.1 hs
    have hlt := h.lt hj
    unfold mk at hlt
    rw [getD_get hj] at hlt
    exact and_self_nat (by omega) hlt
  · intro i hi ih
    refine ev_succ ?_
    simp only [impl_votesBy.l0]
    refine ev_pos (by omega) (ev_pos (by omega) (ev_pos (by omega) ?_))
    rw [rdL1_get hi, wrap_succ hi (Nat.le_trans hl (by decide))]
    have hm := (h.masks hi).1
    have hk : mk l i = maskN 0 l[i] := by unfold mk; rw [getD_get hi]
    rw [hk] at hm
    refine Ev.bind hm (ev_pos (by rw [List.length_map, List.length_take]; omega) ?_)
    rw [List.take_succ_eq_append_getElem hi, List.map_append] at ih
    exact ih
theorem votesBy_ev (m : Int) (l : List (List Int)) (hl : l.length ≤ 1048576) (h : SetsOk m l) : Ev (fun k => impl_votesBy.f k m l) (m, winT m l) := by
  unfold impl_votesBy.f
  exact votesBy_l0 m l hl h
theorem Game_votes_ev (m : Int) (l : List (List Int)) (hl : l.length ≤ 1048576) (h : SetsOk m l) : Ev (fun k => impl_Game_votes.f k m l) (m, winT m l) := by
  unfold impl_Game_votes.f
  exact Ev.bind (votesBy_ev m l hl h) (Ev.now _)
end Go.Proofs.Ytkgpcomljgbilaa.Q
end
section
namespace Go.Proofs.Ytkgpcomljgbilaa.Q
open Go.RowKit Go.Proofs.YtkgpcomljgbilaaW.PrintWords Go.Proofs.YtkgpcomljgbilaaW.PrintLast Go.Proofs.YtkgpcomljgbilaaW.PrintMore
set_option linter.unusedVariables false
set_option linter.unusedSimpArgs false
theorem clueOk_kind {n k a b : Int} (h : clueOk n k a b = true) : (0 ≤ k ∧ k ≤ 5) ∧ (k = 1 ∨ 3 < k → b = 0) := by
  unfold clueOk at h
  split at h
  · omega
  split at h
  · simp at h; omega
  split at h
  · omega
  split at h
  · omega
  split at h
  · simp at h; omega
  split at h
  · simp at h; omega
  · cases h
def fitB (k a b m : Int) (l : List (List Int)) : Bool × Bool :=
  if gmOk m l = true ∧ inB m 1 4 = true ∧ clueOk m k a b = true then (decide (tellA k a (winB l) (2 ^ m.toNat) = a ∧ tellB k a (winB l) (2 ^ m.toNat) = b), true) else (false, false)
theorem gmOk_sets {m : Int} {l : List (List Int)} (h : gmOk m l = true) (hb : ∀ x ∈ l, x.length ≤ 1048576) : SetsOk m l := by
  unfold gmOk at h
  rw [Bool.and_eq_true, Bool.and_eq_true, Bool.and_eq_true] at h
  exact SetsOk.of h.1 h.2.2.1 hb
theorem DoesFit_ev (k a b m : Int) (l : List (List Int)) (hl : l.length ≤ 1048576) (hb : ∀ x ∈ l, x.length ≤ 1048576) : Ev (fun r => impl_DoesFit.f r k a b m l) (fitB k a b m l) := by
  unfold impl_DoesFit.f
  have hbad : ¬ (gmOk m l = true ∧ inB m 1 4 = true ∧ clueOk m k a b = true) → Ev (fun r => impl_DoesFit.j0 r true k a b m l) (fitB k a b m l) := fun h => by
    refine ev_succ ?_
    simp only [impl_DoesFit.j0]
    refine ev_pos (by simp) (ev_eqv (Ev.now _) ?_)
    unfold fitB; rw [if_neg h]
  refine Ev.bind (IsGame_ev m l hl hb) (ev_bool (fun h => ?_) (fun h => hbad (by simp [h])))
  refine ev_bindS (IsClue_eq m k a b) ?_
  cases hc : (inB m 1 4 && clueOk m k a b)
  · exact hbad (by rw [Bool.and_eq_false_iff] at hc; rintro ⟨_, h2, h3⟩; simp [h2, h3] at hc)
  · rw [Bool.and_eq_true] at hc
    have hs := gmOk_sets h hb
    obtain ⟨n, rfl⟩ := Int.eq_ofNat_of_zero_le (show 0 ≤ m by have := hs.1; omega)
    obtain ⟨hk, hk2⟩ := clueOk_kind hc.2
    have hn : 1 ≤ n ∧ n ≤ 9 := by have := hs.1; omega
    refine ev_succ ?_
    simp only [impl_DoesFit.j0]
    refine ev_neg (by decide) (Ev.bind (Game_votes_ev (n : Int) l hl hs) ?_)
    have ht := told_ev n hn (winB l) k a hk (clueOk_ask hc.2)
    rw [if_pos (show k = 0 ∨ k = 1 ∨ k = 2 ∨ k = 3 ∨ k = 4 ∨ k = 5 by omega)] at ht
    unfold winT
    rw [Int.toNat_natCast]
    refine Ev.bind ht (ev_eqv (Ev.now _) ?_)
    unfold fitB
    rw [if_pos ⟨h, hc⟩, Int.toNat_natCast]
    congr 1
    rw [Bool.eq_iff_iff]
    simp
theorem sDoesFit_ev (k a b m : Int) (l : List (List Int)) (hl : l.length ≤ 1048576) (hb : ∀ x ∈ l, x.length ≤ 1048576) : Ev (fun r => spec_DoesFit.f r k a b m l) (fitB k a b m l) := by
  unfold spec_DoesFit.f spec_pzGame.f
  have hbad : ¬ (gmOk m l = true ∧ inB m 1 4 = true ∧ clueOk m k a b = true) → Ev (fun r => spec_DoesFit.j0 r true k a b m l) (fitB k a b m l) := fun h => by
    refine ev_succ ?_
    simp only [spec_DoesFit.j0]
    refine ev_pos (by simp) (ev_eqv (Ev.now _) ?_)
    unfold fitB; rw [if_neg h]
  have hg : Ev (fun r => (spec_gmGood.f r m l).bind fun t => if t = true then some (decide (m ≤ 4)) else some false) (gmOk m l && decide (m ≤ 4)) :=
    Ev.bind (gmGood_ev m l hl hb) (ev_bool (fun h => ev_eqv (Ev.now _) (by rw [h]; rfl)) (fun h => ev_eqv (Ev.now _) (by rw [h]; rfl)))
  refine Ev.bind hg (ev_bool (fun h => ?_) (fun h => hbad ?_))
  · rw [Bool.and_eq_true, decide_eq_true_eq] at h
    have hs := gmOk_sets h.1 hb
    rw [pzClue_eq m k a b (by have := hs.1; omega)]
    have hm : inB m 1 4 = true := inB_iff.2 (by have := hs.1; omega)
    simp only [Option.bind_some]
    cases hc : clueOk m k a b
    · exact hbad (by simp [hc])
    · obtain ⟨n, rfl⟩ := Int.eq_ofNat_of_zero_le (show 0 ≤ m by have := hs.1; omega)
      obtain ⟨hk, hk2⟩ := clueOk_kind hc
      have hn : 1 ≤ n ∧ n ≤ 9 := by have := hs.1; omega
      refine ev_succ ?_
      simp only [spec_DoesFit.j0, spec_gmAll.f]
      refine ev_neg (by decide) (Ev.bind (Ev.bind (gmWins_ev (n : Int) l hl hs) (Ev.now _)) ?_)
      unfold winT
      rw [Int.toNat_natCast]
      refine Ev.bind (pzFits_ev n hn (winB l) k a b hk (clueOk_ask hc) hk2) (ev_eqv (Ev.now _) ?_)
      unfold fitB
      rw [if_pos ⟨h.1, hm, hc⟩, Int.toNat_natCast]
  · rintro ⟨h1, h2, h3⟩
    rw [h1, Bool.true_and, decide_eq_false_iff_not] at h
    exact h (inB_iff.1 h2).2
theorem FnExactDoesFit_pure (a0_0 a0_1 a0_2 a1_0 : Int) (l1_1 : List (List Int)) (_ : I64 a0_0 ∧ I64 a0_1 ∧ I64 a0_2) (g1 : I64 a1_0 ∧ ∀ y ∈ l1_1, ∀ z ∈ y, I64 z) (h1 : l1_1.length ≤ 9223372036854775807) (h2 : ∀ x ∈ l1_1, x.length ≤ 9223372036854775807) :
    ∃ k, laws_FnExactDoesFit.f k a0_0 a0_1 a0_2 a1_0 l1_1 = some true := by
  refine Ev.rounds ?_
  unfold laws_FnExactDoesFit.f
  obtain ⟨q, hq, hq2⟩ := szGame_ev a1_0 l1_1 1048576 (by decide) h1 h2
  refine Ev.bind hq (ev_ite (fun _ => Ev.now _) (fun h => ?_))
  obtain ⟨_, _, _, n1, n2⟩ := hq2 h
  have n3 : ∀ x ∈ l1_1, x.length ≤ 1152921504606 := fun x hx => Nat.le_trans (n2 x hx) (by decide)
  have ht := toGame_ev a1_0 l1_1 (by omega) n3
  unfold laws_toClue.f
  simp only [Option.bind_some]
  refine Ev.bind ht (Ev.bind (sDoesFit_ev _ _ _ _ _ n1 n2) (Ev.bind ht (Ev.bind (DoesFit_ev _ _ _ _ _ n1 n2) (ev_neg (by simp) (ev_neg (by simp) (Ev.bind ht (Ev.bind (eqGame_ev a1_0 a1_0 l1_1 l1_1 (by omega) n3) (ev_pos (by simp) (Ev.now _)))))))))
end Go.Proofs.Ytkgpcomljgbilaa.Q
end
section
namespace Go.Proofs.Ytkgpcomljgbilaa.Q
open Go.RowKit Go.Proofs.YtkgpcomljgbilaaW.PrintWords Go.Proofs.YtkgpcomljgbilaaW.PrintLast Go.Proofs.YtkgpcomljgbilaaW.PrintMore
set_option linter.unusedVariables false
set_option linter.unusedSimpArgs false
set_option maxRecDepth 100000
section
variable {H : Type} {enc : TypeId × Value → H} {W : World}
theorem opens_Clue : Opens enc Try.prog W 43 k43 (fun x => I64 x.f0 ∧ I64 x.f1 ∧ I64 x.f2) :=
  opens_iso _ (fun x => ⟨x.1, x.2.1, x.2.2⟩) (fun _ => rfl) (opens_triple Try.underlying43 (by kernel_rfl) rfl rfl rfl (by kernel_rfl) (by kernel_rfl) (by kernel_rfl) (opens_int Try.underlying3) (opens_int Try.underlying3) (opens_int Try.underlying3))
theorem opens_ints : Opens enc Try.prog W 22 (Kd.slice 3 (Kd.int .i64)) (fun x => ∀ y ∈ x, I64 y) := opens_slice Try.underlying22 (by kernel_rfl) (opens_int Try.underlying3)
theorem opens_Game : Opens enc Try.prog W 35 (Kd.pair (Kd.int .i64) (Kd.slice 22 (Kd.slice 3 (Kd.int .i64)))) (fun x => I64 x.1 ∧ ∀ y ∈ x.2, ∀ z ∈ y, I64 z) :=
  opens_pair Try.underlying35 (by kernel_rfl) rfl rfl (by kernel_rfl) (by kernel_rfl) (opens_int Try.underlying3) (opens_slice Try.underlying25 (by kernel_rfl) opens_ints)
end
open Go.ChangeShapes Go.WideShapes Go.ChangeAt Go.Deep
section
variable {H : Type} {enc : TypeId × Value → H} {W : World} {r : Reach} {b0 : Nat} {v : Value} {y : DataW H} {p : List MemPlace}
theorem arg_Clue (hv : Value.okWide Try.prog W r b0 43 v) (hr : DataW.Trod enc Try.prog W 0 (fun _ => true) true 43 v y p) :
    ∃ a b c, v = .agg #[.int .i64 a, .int .i64 b, .int .i64 c] ∧ I64 a ∧ I64 b ∧ I64 c := by
  obtain ⟨x, ⟨l⟩, rfl, k, g⟩ := open_struct Try.underlying43 hv hr opens_Clue
  obtain rfl := k43_open k
  exact ⟨_, _, _, rfl, g⟩
theorem arg_Game (hv : Value.okWide Try.prog W r b0 35 v) (hr : DataW.Trod enc Try.prog W 0 (fun _ => true) true 35 v y p) :
    ∃ a A c l, v = .agg #[.int .i64 a, .slice A (l : List (List Int)).length c] ∧ l.length ≤ c ∧ Kd.C (Kd.slice 3 (Kd.int .i64)) W A l.length l ∧ I64 a ∧ ∀ y ∈ l, ∀ z ∈ y, I64 z := by
  obtain ⟨x, ⟨l⟩, rfl, k, g⟩ := open_struct Try.underlying35 hv hr opens_Game
  obtain ⟨_, _, rfl, rfl, ⟨A, c, rfl, hl, hC⟩⟩ := k
  exact ⟨_, A, c, _, rfl, hl, hC, g⟩
theorem C_inner {w : World} {A : Option Addr} {n : Nat} {xs : List (List Int)} (h : Kd.C (Kd.slice 3 (Kd.int .i64)) w A n xs) : ∀ x ∈ xs, x.length ≤ 9223372036854775807 := fun x hx => by
  obtain ⟨j, hj, rfl⟩ := List.mem_iff_getElem.1 hx
  obtain ⟨ad, _, hc⟩ := h.2.2 (by have := h.1; omega)
  obtain ⟨c, _, ⟨_, _, _, _, hC⟩, _⟩ := hc j _ (List.getElem?_eq_getElem hj)
  exact hC.2.1
end
end Go.Proofs.Ytkgpcomljgbilaa.Q
end
section
namespace Go.Proofs.Ytkgpcomljgbilaa.fnExactDoesFit
open Go.ChangeShapes Go.WideShapes Go.ChangeAt Go.RowKit Go.Proofs.Ytkgpcomljgbilaa.Q
open Go.ChangeMaps (open_string shut_string)
set_option linter.unusedVariables false
theorem own : ownKnob Try.prog.godebug = none := by kernel_rfl
theorem laidOut : laidOutB Try.prog = true := by kernel_rfl
set_option maxRecDepth 100000 in
theorem lifted (os : Os) (started : os.Started) (H : Type) (enc : TypeId × Value → H) :
    ReturnsInHanded {} Try.checked os 5 .any (Rows.fnExactDoesFitSpec.pre6 enc Try.prog Try.f5 Rows.fnExactDoesFitRow.domain false) (Rows.fnExactDoesFitSpec.post enc Try.prog Try.f5 false true false false) := by
  refine returnsInHanded_of_change_sized (C := Try.checked) own started (by kernel_rfl) Try.func5
    (ChangeSpec.witness6 (enc := enc) (C := Try.checked) false ⟨#[], #[.agg #[.int .i64 0, .int .i64 0, .int .i64 0], .agg #[.int .i64 0, .slice none 0 0]], []⟩ 8 (by kernel_rfl) (by kernel_rfl) (by kernel_rfl) (by kernel_rfl)) ?_
  intro W base args ds gs before hval0 hW hcnd hsz0 _
  have hsz : (DataW.weightsEach Try.prog (Try.f5.params.toList ++ Rows.fnExactDoesFitSpec.plain.varTypes Try.prog) (ds ++ gs)).all (· ≤ reachBytes) = true := hsz0
  have hval : ∀ (j : Nat) t v, Try.f5.params[j]? = some t → args[j]? = some v → Value.okWide Try.prog W .any base t v := hval0
  have hW' := hW
  obtain ⟨p, q, hA0, hV, rfl, hfz, hnd⟩ := hW
  have hA : DataW.TrodAll enc Try.prog W 0 (fun _ => true) true Try.f5.params.toList args.toList ds p := hA0
  rw [Try.params5] at hA hval hsz
  obtain ⟨v0, vs0, d0, ds0, p0, q0, hargs, rfl, rfl, h0, r0⟩ := trodAll_cons hA
  obtain ⟨v1, vs1, d1, ds1, p1, q1, rfl, rfl, rfl, h1, r1⟩ := trodAll_cons r0
  obtain ⟨rfl, rfl, rfl⟩ := trodAll_nil r1
  obtain rfl : args = #[v0, v1] := by cases args; simp_all
  obtain ⟨rfl, rfl⟩ := trodVars_none hV
  have k0 := h0
  have lt0 : ∀ x ∈ p0, x.block < W.heap.size := by obtain ⟨m, hm⟩ := k0; exact DataW.trod_lt m _ _ _ hm
  obtain ⟨a0_0, a0_1, a0_2, rfl, g0⟩ := arg_Clue (hval 0 43 v0 rfl rfl) h0
  have k1 := h1
  have lt1 : ∀ x ∈ p1, x.block < W.heap.size := by obtain ⟨m, hm⟩ := k1; exact DataW.trod_lt m _ _ _ hm
  obtain ⟨a1_0, A1_1, c1_1, l1_1, rfl, hc1_1, hr1_1, g1⟩ := arg_Game (hval 1 35 v1 rfl rfl) h1
  clear hA0 hval0 hsz0 hsz
  obtain ⟨k, hk⟩ := FnExactDoesFit_pure a0_0 a0_1 a0_2 a1_0 l1_1 g0 g1 hr1_1.2.1 (C_inner hr1_1)
  refine (laws_FnExactDoesFit.calls k a0_0 a0_1 a0_2 a1_0 A1_1 c1_1 l1_1 true W hr1_1 hc1_1 hk).mono fun e W' ⟨he, bel⟩ => ?_
  subst he
  exact ⟨_, rfl, _, _, _, [], _, [], hW', trodAll_mk1 (shut_bool Try.underlying4 _), (trodAll_cons_mk (Below.trod laidOut (by kernel_rfl) (of_decide_eq_true (by kernel_rfl)) k0 bel lt0) (trodAll_cons_mk (Below.trod laidOut (by kernel_rfl) (of_decide_eq_true (by kernel_rfl)) k1 bel lt1) trodAll_mk0)), rfl, bel.frame _, fun h => by cases h⟩
theorem over : Rows.fnExactDoesFitRow.holds Try.pinned (OpenSpec.ofChange Rows.fnExactDoesFitSpec) :=
  OpenClaim.holds_of_wide 5 Try.f5 rfl rfl rfl rfl rfl rfl rfl ⟨rfl, rfl, rfl, rfl, rfl⟩ rfl rfl rfl rfl rfl (by kernel_rfl) Try.func5 (by kernel_rfl)
    (of_decide_eq_true (by kernel_rfl)) (by unfold Func.isWrapper; first | (rw [if_pos (by decide +kernel)]; kernel_rfl) | (rw [if_neg (by decide +kernel)]; exact ⟨rfl, rfl⟩))
    (fun os started H enc _ => lifted os started H enc)
theorem proved : Rows.FnExactDoesFitSaid := over
end Go.Proofs.Ytkgpcomljgbilaa.fnExactDoesFit
namespace Go.Proofs.Ytkgpcomljgbilaa
theorem fnExactDoesFit_holds : Rows.FnExactDoesFitSaid := fnExactDoesFit.proved
end Go.Proofs.Ytkgpcomljgbilaa
end
#print axioms Go.Proofs.Ytkgpcomljgbilaa.fnExactDoesFit_holds

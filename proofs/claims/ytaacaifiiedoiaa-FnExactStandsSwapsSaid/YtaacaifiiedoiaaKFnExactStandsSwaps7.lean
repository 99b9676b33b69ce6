/- The row of the law FnExactStandsSwaps: for every input it returns true, and its arguments read afterwards as before. No condition: FnExactStandsSwaps_pure says that its pure form answers true at every input, and laws_FnExactStandsSwaps.calls that the machine comes to just that. -/
import Derived.Test.YtaacaifiiedoiaaKFnExactStandsSwaps6
import Derived.Test.YtaacaifiiedoiaaRows
import Derived.Laws.StructEq
section
namespace Go.Proofs.Ytaacaifiiedoiaa.Q
open Go.RowKit Go.Proofs.YtaacaifiiedoiaaW.PrintWords Go.Proofs.YtaacaifiiedoiaaW.PrintLast Go.Proofs.YtaacaifiiedoiaaW.PrintMore
set_option linter.unusedVariables false
set_option linter.unusedSimpArgs false
def ordL (N : Nat) : List Nat := (sortL lexB (setsM (fun _ => true) N)).map (maskN 0)
theorem setL_in_K : ((List.range 512).all fun m => (setL m).all fun x => decide (0 ≤ x ∧ x ≤ 15)) = true := by decide +kernel
theorem setL_mask (m : Nat) (hm : m < 512) : maskN 0 (setL m) = m := by
  have := List.all_eq_true.1 setL_mask_K m (List.mem_range.2 hm)
  simpa using this
theorem ordL_perm (N : Nat) (hN : N ≤ 512) : (ordL N).Perm (List.range N) := by
  unfold ordL
  refine ((sortL_perm lexB _).map (maskN 0)).trans ?_
  unfold setsM
  rw [List.filter_eq_self.2 (fun _ _ => rfl), List.map_map, show (List.range N).map (maskN 0 ∘ setL) = (List.range N).map id from List.map_congr_left fun m hm => setL_mask m (by have := List.mem_range.1 hm; omega), List.map_id]
theorem ordL_len (N : Nat) (hN : N ≤ 512) : (ordL N).length = N := by rw [(ordL_perm N hN).length_eq, List.length_range]
theorem ordL_lt (N : Nat) (hN : N ≤ 512) {x : Nat} (h : x ∈ ordL N) : x < N := List.mem_range.1 ((ordL_perm N hN).mem_iff.1 h)
def cI (l : List Nat) : List Int := l.map fun (m : Nat) => (m : Int)
theorem cI_len (l : List Nat) : (cI l).length = l.length := by unfold cI; rw [List.length_map]
theorem rd_cI {l : List Nat} {i : Nat} (h : i < l.length) : rd (cI l) (i : Int) = (l[i] : Int) := by
  rw [rd_get (by rw [cI_len]; exact h)]
  unfold cI
  rw [List.getElem_map]
theorem ordered_ev (g : Nat → Bool) (n : Nat) (hn : n ≤ 9) : Ev (fun k => impl_votes_ordered.f k (n : Int) (tabB g (2 ^ n))) (cI (ordL (2 ^ n))) := by
  have hN : 2 ^ n ≤ 512 := Nat.pow_le_pow_right (by decide) hn
  unfold impl_votes_ordered.f setsAll.f
  refine Ev.bind (sets_fix (n : Int) (tabB g (2 ^ n)) (2 ^ n) (tabB_len _ _) hN (fun _ => some true) (fun _ => true) (fun _ _ => rfl)) ?_
  have hp := sortL_perm lexB (setsM (fun _ => true) (2 ^ n))
  have hin : ∀ x ∈ sortL lexB (setsM (fun _ => true) (2 ^ n)), x.length ≤ 16 ∧ ∀ y ∈ x, 0 ≤ y ∧ y ≤ 15 := by
    intro x hx
    obtain ⟨m, hm, rfl⟩ := List.mem_map.1 (hp.mem_iff.1 hx)
    have hm2 := List.mem_range.1 (List.mem_filter.1 hm).1
    refine ⟨bitsL_len _ _ _, fun y hy => ?_⟩
    exact of_decide_eq_true (List.all_eq_true.1 (List.all_eq_true.1 setL_in_K m (List.mem_range.2 (by omega))) y hy)
  have hl : (sortL lexB (setsM (fun _ => true) (2 ^ n))).length ≤ 512 := by rw [hp.length_eq]; exact Nat.le_trans (setsM_len _ _) hN
  unfold ordL cI
  generalize sortL lexB (setsM (fun _ => true) (2 ^ n)) = S at hin hl
  rw [List.map_map]
  refine ev_range S.length (fun k i => impl_votes_ordered.l0 k ((S.take i).map ((fun (m : Nat) => (m : Int)) ∘ maskN 0)) S (S.length : Int) (i : Int)) (fun _ => S.map ((fun (m : Nat) => (m : Int)) ∘ maskN 0)) ?_ ?_ 0 (Nat.zero_le _)
  · refine ev_succ ?_
    simp only [impl_votes_ordered.l0, List.take_length]
    exact ev_neg (by omega) (Ev.now _)
  · intro i hi ih
    obtain ⟨h1, h2⟩ := hin _ (List.getElem_mem hi)
    refine ev_succ ?_
    simp only [impl_votes_ordered.l0]
    rw [rdL1_get hi, wrap_succ hi (by omega)]
    rw [List.take_succ_eq_append_getElem hi, List.map_append] at ih
    exact ev_pos (by omega) (ev_pos (by omega) (ev_pos (by omega) (Ev.bind (maskOf_ev S[i] (by omega) h2).1 (ev_pos (by rw [List.length_map, List.length_take]; omega) ih))))
theorem index_ex (l : List Int) (x : Int) (hl : l.length ≤ 1000) : ∃ v : Int, (v ≥ 0 ↔ x ∈ l) ∧ Ev (fun k => slices_Index_int_int.f k l x) v := by
  unfold slices_Index_int_int.f
  have key : ∀ d i : Nat, i + d = l.length → ∃ v : Int, (v ≥ 0 ↔ x ∈ l.drop i) ∧ Ev (fun k => slices_Index_int_int.l0 k l x (l.length : Int) (i : Int)) v := by
    intro d
    induction d with
    | zero =>
      intro i hi
      refine ⟨-1, ?_, ev_succ ?_⟩
      · rw [List.drop_of_length_le (by omega)]; simp
      · simp only [slices_Index_int_int.l0]
        exact ev_neg (by omega) (Ev.now _)
    | succ d ih =>
      intro i hi
      have hil : i < l.length := by omega
      obtain ⟨v, h1, h2⟩ := ih (i + 1) (by omega)
      rw [List.drop_eq_getElem_cons hil]
      by_cases e : x = l[i]
      · refine ⟨(i : Int), ?_, ev_succ ?_⟩
        · rw [e]; exact ⟨fun _ => List.mem_cons_self .., fun _ => by omega⟩
        · simp only [slices_Index_int_int.l0]
          rw [rd_get hil]
          exact ev_pos (by omega) (ev_pos (by omega) (ev_pos (by omega) (ev_pos e (Ev.now _))))
      · refine ⟨v, ?_, ev_succ ?_⟩
        · rw [h1, List.mem_cons]; simp [e]
        · simp only [slices_Index_int_int.l0]
          rw [rd_get hil, wrap_succ hil (by omega)]
          exact ev_pos (by omega) (ev_pos (by omega) (ev_pos (by omega) (ev_neg e h2)))
  obtain ⟨v, h1, h2⟩ := key l.length 0 (Nat.zero_add _)
  exact ⟨v, by simpa using h1, h2⟩
theorem contains_ev (l : List Nat) (x : Nat) (hl : l.length ≤ 1000) : Ev (fun k => slices_Contains_int_int.f k (cI l) (x : Int)) (l.contains x) := by
  obtain ⟨v, h1, h2⟩ := index_ex (cI l) (x : Int) (by rw [cI_len]; exact hl)
  unfold slices_Contains_int_int.f
  refine Ev.bind h2 (ev_eqv (Ev.now _) ?_)
  rw [Bool.eq_iff_iff, decide_eq_true_eq, h1, List.contains_iff_mem]
  unfold cI
  rw [List.mem_map]
  constructor
  · rintro ⟨a, ha, h⟩
    have e : a = x := by omega
    rw [← e]; exact ha
  · intro h
    exact ⟨x, h, rfl⟩
theorem pairs_ex (s t u w : Nat) (h : s < 512 ∧ t < 512 ∧ u < 512 ∧ w < 512) : ∃ r, Ev (fun k => impl_pairs.f k [(s : Int), (t : Int)] [(u : Int), (w : Int)]) r := by
  refine ⟨([setL s, setL t], [setL u, setL w]), ?_⟩
  have w1 : wrap64 (0 + 1) = 1 := by unfold wrap64; omega
  have w2 : wrap64 (1 + 1) = 2 := by unfold wrap64; omega
  have r1 : rd [(s : Int), (t : Int)] 0 = (s : Int) := rfl
  have r2 : rd [(u : Int), (w : Int)] 0 = (u : Int) := rfl
  have r3 : rd [(s : Int), (t : Int)] 1 = (t : Int) := rfl
  have r4 : rd [(u : Int), (w : Int)] 1 = (w : Int) := rfl
  unfold impl_pairs.f
  refine ev_succ ?_
  simp only [impl_pairs.l0, w1, r1, r2]
  refine ev_pos (by simp) (ev_pos (by simp) (ev_pos (by simp) (Ev.bind (setOf_ev s (by omega)) (ev_pos (by simp) (ev_pos (by simp) (Ev.bind (setOf_ev u (by omega)) (ev_pos (by simp) (ev_succ ?_))))))))
  simp only [impl_pairs.l0, w2, r3, r4]
  refine ev_pos (by simp) (ev_pos (by simp) (ev_pos (by simp) (Ev.bind (setOf_ev t (by omega)) (ev_pos (by simp) (ev_pos (by simp) (Ev.bind (setOf_ev w (by omega)) (ev_pos (by simp) (ev_succ ?_))))))))
  simp only [impl_pairs.l0]
  exact ev_neg (by simp) (ev_eqv (Ev.now _) rfl)
theorem isSwap_eq (s t u w : Nat) (h : s < 64 ∧ t < 64 ∧ u < 64 ∧ w < 64) : impl_isSwap.f (s : Int) (t : Int) (u : Int) (w : Int) = some (swapB s t u w) := by
  have e : ∀ a b : Nat, a < 64 → b < 64 → impl_isSwap_1.f (a : Int) (b : Int) = some (nearB a b) := fun a b ha hb => by
    have := List.all_eq_true.1 (List.all_eq_true.1 isSwap1_K a (List.mem_range.2 ha)) b (List.mem_range.2 hb)
    exact eq_of_beq this
  unfold impl_isSwap.f swapB
  rw [e s u h.1 h.2.2.1, e t w h.2.1 h.2.2.2, e s w h.1 h.2.2.2, e t u h.2.1 h.2.2.1]
  cases nearB s u <;> cases nearB t w <;> cases nearB s w <;> cases nearB t u <;> rfl
def pIm (g : Nat → Bool) (O : List Nat) (s t k : Nat) : Bool := (!g (O.getD k 0) && betw s t (O.getD k 0)) && (!g (wOf s t (O.getD k 0)) && ((O.drop k).contains (wOf s t (O.getD k 0)) && swapB s t (O.getD k 0) (wOf s t (O.getD k 0))))
theorem wOf_lt {n s t u : Nat} (hs : s < 2 ^ n) (ht : t < 2 ^ n) : wOf s t u < 2 ^ n := by
  unfold wOf aN
  exact Nat.or_lt_two_pow (Nat.and_lt_two_pow _ ht) (Nat.xor_lt_two_pow (Nat.or_lt_two_pow hs ht) (Nat.lt_of_le_of_lt Nat.and_le_left (Nat.or_lt_two_pow hs ht)))
section
variable (g : Nat → Bool) (n : Nat) (hn : n ≤ 6) (O : List Nat) (hO : O.length ≤ 64) (hOl : ∀ x ∈ O, x < 2 ^ n) (s t : Nat) (hs : s < 2 ^ n) (ht : t < 2 ^ n) (x18 x27 x26 : Int) (x25 : List Int) (rest : Bool)
include hn hO hOl hs ht
theorem fo_j4 (k : Nat) (hk : k < O.length) (x75 : Bool) (h75 : x75 = !(!g (O.getD k 0) && betw s t (O.getD k 0))) (rs : Bool)
    (hnx : Fnd (fun r => impl_votes_firstOfTwo.l2 impl_isSwap.f r (cI O) (s : Int) (t : Int) (cI O) (O.length : Int) x18 x25 x26 x27 (cI O) (O.length : Int) (wrap64 ((k : Int) + 1)) (n : Int) (tabB g (2 ^ n))) rs) :
    Fnd (fun r => impl_votes_firstOfTwo.j4 impl_isSwap.f r (cI O) (s : Int) (t : Int) (k : Int) ((O.getD k 0 : Nat) : Int) (cI O) (O.length : Int) x18 x25 x26 x27 (cI O) (O.length : Int) (k : Int) x75 (n : Int) (tabB g (2 ^ n))) (pIm g O s t k || rs) := by
  have hp : 2 ^ n ≤ 64 := Nat.le_trans (Nat.pow_le_pow_right (n := 2) (by decide) hn) (by decide)
  have hu : O.getD k 0 < 2 ^ n := by rw [getD_get hk]; exact hOl _ (List.getElem_mem hk)
  unfold pIm
  generalize O.getD k 0 = u at hu h75
  have hw := wOf_lt (u := u) hs ht
  have hst : s ||| t < 2 ^ n := Nat.or_lt_two_pow hs ht
  have hsa : s &&& t < 2 ^ n := Nat.and_lt_two_pow _ ht
  have hx : aN (s ||| t) u < 2 ^ n := Nat.xor_lt_two_pow hst (Nat.lt_of_le_of_lt Nat.and_le_left hst)
  have e : Go.bits .or .i64 (Go.bits .and .i64 (s : Int) (t : Int)) (Go.bits .andNot .i64 (Go.bits .or .i64 (s : Int) (t : Int)) (u : Int)) = ((wOf s t u : Nat) : Int) := by
    rw [and_nat s t (by omega) (by omega), or_nat s t (by omega) (by omega), andNot_nat (s ||| t) u (by omega) (by omega)]
    exact or_nat (s &&& t) (aN (s ||| t) u) (by omega) (by omega)
  refine Fnd.succ ?_
  simp only [impl_votes_firstOfTwo.j4, e]
  refine Fnd.bool (fun e1 => ?_) (fun e1 => ?_)
  · refine hnx.eqv ?_
    rw [h75] at e1
    rw [show (!g u && betw s t u) = false from by cases h : (!g u && betw s t u) with
      | false => rfl
      | true => rw [h] at e1; cases e1]
    simp
  · have hb : (!g u && betw s t u) = true := by
      rw [h75] at e1
      cases h : (!g u && betw s t u) with
      | true => rfl
      | false => rw [h] at e1; cases e1
    rw [hb, Bool.true_and, tabB_len, rdOf_tab hw]
    refine Fnd.pos (Int.natCast_nonneg _) (Fnd.pos (Int.ofNat_lt.2 hw) (Fnd.bool (fun e2 => ?_) (fun e2 => ?_)))
    · exact hnx.eqv (by rw [e2]; simp)
    · rw [e2, Bool.not_false, Bool.true_and]
      refine Fnd.pos (by omega) (Fnd.pos (by rw [cI_len]; omega) ?_)
      have hd : (cI O).drop (k : Int).toNat = cI (O.drop k) := by unfold cI; rw [Int.toNat_natCast, List.map_drop]
      rw [hd]
      refine Fnd.bind (contains_ev (O.drop k) (wOf s t u) (by rw [List.length_drop]; omega)) (Fnd.bool (fun e3 => ?_) (fun e3 => ?_))
      · rw [e3, Bool.true_and]
        refine Fnd.bind (Ev.of (fun _ => LeO.refl _) (k := 0) (isSwap_eq s t u (wOf s t u) ⟨by omega, by omega, by omega, by omega⟩)) (Fnd.bool (fun e4 => ?_) (fun e4 => ?_))
        · obtain ⟨r, hr⟩ := pairs_ex s t u (wOf s t u) ⟨by omega, by omega, by omega, by omega⟩
          rw [e4]
          exact ⟨(r.1, r.2, true), by simp, Ev.bind hr (Ev.now _)⟩
        · exact hnx.eqv (by rw [e4]; simp)
      · exact hnx.eqv (by rw [e3]; simp)
theorem fo_l2 (hnx : Fnd (fun r => impl_votes_firstOfTwo.l1 impl_isSwap.f r (cI O) (s : Int) (cI O) (O.length : Int) x18 x25 x26 (wrap64 (x27 + 1)) (n : Int) (tabB g (2 ^ n))) rest) :
    ∀ d k : Nat, k + d = O.length → Fnd (fun r => impl_votes_firstOfTwo.l2 impl_isSwap.f r (cI O) (s : Int) (t : Int) (cI O) (O.length : Int) x18 x25 x26 x27 (cI O) (O.length : Int) (k : Int) (n : Int) (tabB g (2 ^ n))) (exB (pIm g O s t) O.length k || rest) := by
  have hp : 2 ^ n ≤ 64 := Nat.le_trans (Nat.pow_le_pow_right (n := 2) (by decide) hn) (by decide)
  intro d
  induction d with
  | zero =>
    intro k hk
    obtain rfl : k = O.length := by omega
    refine Fnd.succ ?_
    simp only [impl_votes_firstOfTwo.l2]
    rw [exB_end, Bool.false_or]
    exact Fnd.neg (Int.lt_irrefl _) hnx
  | succ d ih =>
    intro k hk
    have hkl : k < O.length := by omega
    have hih := ih (k + 1) (by omega)
    have hw : wrap64 ((k : Int) + 1) = ((k + 1 : Nat) : Int) := wrap_succ hkl (by omega)
    rw [← hw] at hih
    have hj := fun x75 h75 => fo_j4 g n hn O hO hOl s t hs ht x18 x27 x26 x25 k hkl x75 h75 _ hih
    have hu : O.getD k 0 < 2 ^ n := by rw [getD_get hkl]; exact hOl _ (List.getElem_mem hkl)
    have hr : rd (cI O) (k : Int) = ((O.getD k 0 : Nat) : Int) := by rw [rd_cI hkl, getD_get hkl]
    refine Fnd.succ ?_
    simp only [impl_votes_firstOfTwo.l2, hr]
    rw [exB_step _ _ _ hkl, Bool.or_assoc]
    generalize O.getD k 0 = u at hu hj
    have hst : s ||| t < 2 ^ n := Nat.or_lt_two_pow hs ht
    have hsa : s &&& t < 2 ^ n := Nat.and_lt_two_pow _ ht
    rw [tabB_len, rdOf_tab hu, cI_len]
    refine Fnd.pos (by omega) (Fnd.pos (by omega) (Fnd.pos (by omega) (Fnd.pos (Int.natCast_nonneg _) (Fnd.pos (Int.ofNat_lt.2 hu) (Fnd.bool (fun e1 => ?_) (fun e1 => ?_))))))
    · exact hj true (by rw [e1]; rfl)
    · rw [and_nat s t (by omega) (by omega), and_nat u (s &&& t) (by omega) (by omega), or_nat s t (by omega) (by omega), andNot_nat u (s ||| t) (by omega) (by omega)]
      by_cases e2 : u &&& (s &&& t) = s &&& t
      · refine Fnd.pos (by rw [e2]) (hj _ ?_)
        rw [e1]
        unfold betw aN
        rw [e2]
        simp only [Bool.not_false, Bool.true_and, beq_self_eq_true]
        rw [Bool.eq_iff_iff]
        simp
      · refine Fnd.neg (by omega) (hj true ?_)
        rw [e1]
        unfold betw
        rw [show (u &&& (s &&& t) == s &&& t) = false from by simpa using e2]
        rfl
end
def fT (g : Nat → Bool) (O : List Nat) (s : Nat) (T : List Nat) (j : Nat) : Bool := g s && g (T.getD j 0) && exB (pIm g O s (T.getD j 0)) O.length 0
theorem fo_l1 (g : Nat → Bool) (n : Nat) (hn : n ≤ 6) (O : List Nat) (hO : O.length ≤ 64) (hOl : ∀ x ∈ O, x < 2 ^ n) (s : Nat) (hs : s < 2 ^ n) (x18 : Int) (T : List Nat) (hT : T.length ≤ 64) (hTl : ∀ x ∈ T, x < 2 ^ n) (rest : Bool)
    (hnx : Fnd (fun r => impl_votes_firstOfTwo.l0 impl_isSwap.f r (cI O) (cI O) (O.length : Int) (wrap64 (x18 + 1)) (n : Int) (tabB g (2 ^ n))) rest) :
    ∀ d j : Nat, j + d = T.length → Fnd (fun r => impl_votes_firstOfTwo.l1 impl_isSwap.f r (cI O) (s : Int) (cI O) (O.length : Int) x18 (cI T) (T.length : Int) (j : Int) (n : Int) (tabB g (2 ^ n))) (exB (fT g O s T) T.length j || rest) := by
  intro d
  induction d with
  | zero =>
    intro j hj
    obtain rfl : j = T.length := by omega
    refine Fnd.succ ?_
    simp only [impl_votes_firstOfTwo.l1]
    rw [exB_end, Bool.false_or]
    exact Fnd.neg (Int.lt_irrefl _) hnx
  | succ d ih =>
    intro j hj
    have hjl : j < T.length := by omega
    have hih := ih (j + 1) (by omega)
    have hw : wrap64 ((j : Int) + 1) = ((j + 1 : Nat) : Int) := wrap_succ hjl (by omega)
    rw [← hw] at hih
    have ht : T.getD j 0 < 2 ^ n := by rw [getD_get hjl]; exact hTl _ (List.getElem_mem hjl)
    have hr : rd (cI T) (j : Int) = ((T.getD j 0 : Nat) : Int) := by rw [rd_cI hjl, getD_get hjl]
    have h2 : ∀ x44 : Bool, x44 = !(g s && g (T.getD j 0)) → Fnd (fun r => impl_votes_firstOfTwo.j2 impl_isSwap.f r (cI O) (s : Int) ((T.getD j 0 : Nat) : Int) (cI O) (O.length : Int) x18 (cI T) (T.length : Int) (j : Int) x44 (n : Int) (tabB g (2 ^ n))) (fT g O s T j || (exB (fT g O s T) T.length (j + 1) || rest)) := by
      intro x44 hx
      refine Fnd.succ ?_
      simp only [impl_votes_firstOfTwo.j2]
      refine Fnd.bool (fun e => ?_) (fun e => ?_)
      · refine hih.eqv ?_
        have : (g s && g (T.getD j 0)) = false := by
          rw [hx] at e
          cases h : (g s && g (T.getD j 0)) with
          | false => rfl
          | true => rw [h] at e; cases e
        unfold fT; rw [this]; simp
      · have : (g s && g (T.getD j 0)) = true := by
          rw [hx] at e
          cases h : (g s && g (T.getD j 0)) with
          | true => rfl
          | false => rw [h] at e; cases e
        rw [cI_len]
        refine (fo_l2 g n hn O hO hOl s (T.getD j 0) hs ht x18 (j : Int) (T.length : Int) (cI T) _ hih O.length 0 (Nat.zero_add _)).eqv ?_
        unfold fT; rw [this]; simp
    refine Fnd.succ ?_
    simp only [impl_votes_firstOfTwo.l1, hr]
    rw [exB_step _ _ _ hjl, Bool.or_assoc, tabB_len, rdOf_tab hs, rdOf_tab ht, cI_len]
    refine Fnd.pos (by omega) (Fnd.pos (by omega) (Fnd.pos (by omega) (Fnd.pos (Int.natCast_nonneg _) (Fnd.pos (Int.ofNat_lt.2 hs) (Fnd.bool (fun e => ?_) (fun e => ?_))))))
    · exact Fnd.pos (Int.natCast_nonneg _) (Fnd.pos (Int.ofNat_lt.2 ht) (h2 _ (by rw [e]; simp)))
    · exact h2 _ (by rw [e]; simp)
def swI (g : Nat → Bool) (O : List Nat) : Bool := exB (fun i => exB (fT g O (O.getD i 0) (O.drop i)) (O.drop i).length 0) O.length 0
theorem firstOfSwaps_ev (g : Nat → Bool) (n : Nat) (hn : n ≤ 6) : Fnd (fun k => firstOfSwaps.f k (n : Int) (tabB g (2 ^ n))) (swI g (ordL (2 ^ n))) := by
  have hp : 2 ^ n ≤ 64 := Nat.le_trans (Nat.pow_le_pow_right (n := 2) (by decide) hn) (by decide)
  have hO : (ordL (2 ^ n)).length ≤ 64 := by rw [ordL_len _ (by omega)]; omega
  have hOl : ∀ x ∈ ordL (2 ^ n), x < 2 ^ n := fun x hx => ordL_lt _ (by omega) hx
  unfold firstOfSwaps.f impl_votes_firstOfTwo.f
  refine Fnd.bind (ordered_ev g n (by omega)) ?_
  rw [cI_len]
  generalize ordL (2 ^ n) = O at hO hOl
  have key : ∀ d i : Nat, i + d = O.length → Fnd (fun k => impl_votes_firstOfTwo.l0 impl_isSwap.f k (cI O) (cI O) (O.length : Int) (i : Int) (n : Int) (tabB g (2 ^ n))) (exB (fun i => exB (fT g O (O.getD i 0) (O.drop i)) (O.drop i).length 0) O.length i) := by
    intro d
    induction d with
    | zero =>
      intro i hi
      obtain rfl : i = O.length := by omega
      refine Fnd.succ ?_
      simp only [impl_votes_firstOfTwo.l0]
      rw [exB_end]
      exact Fnd.neg (Int.lt_irrefl _) ⟨([], [], false), rfl, Ev.now _⟩
    | succ d ih =>
      intro i hi
      have hil : i < O.length := by omega
      have hih := ih (i + 1) (by omega)
      have hw : wrap64 ((i : Int) + 1) = ((i + 1 : Nat) : Int) := wrap_succ hil (by omega)
      rw [← hw] at hih
      have hr : rd (cI O) (i : Int) = ((O.getD i 0 : Nat) : Int) := by rw [rd_cI hil, getD_get hil]
      have hd : (cI O).drop (i : Int).toNat = cI (O.drop i) := by unfold cI; rw [Int.toNat_natCast, List.map_drop]
      refine Fnd.succ ?_
      simp only [impl_votes_firstOfTwo.l0, hr, hd, Option.bind_some, cI_len]
      rw [exB_step _ _ _ hil]
      refine Fnd.pos (by omega) (Fnd.pos (by omega) (Fnd.pos (by omega) (Fnd.pos (by omega) ?_)))
      exact fo_l1 g n hn O hO hOl (O.getD i 0) (by rw [getD_get hil]; exact hOl _ (List.getElem_mem hil)) (i : Int) (O.drop i) (by rw [List.length_drop]; omega) (fun x hx => hOl x (List.mem_of_mem_drop hx)) _ hih (O.drop i).length 0 (Nat.zero_add _)
  exact key O.length 0 (Nat.zero_add _)
theorem near_ex {s u : Nat} (hs : s < 64) (hu : u < 64) (h : nearB s u = true) : ∃ i j, i < 6 ∧ j < 6 ∧ bitB s i = true ∧ bitB s j = false ∧ u = s ^^^ 2 ^ i ^^^ 2 ^ j := by
  have := List.all_eq_true.1 (List.all_eq_true.1 near_K s (List.mem_range.2 hs)) u (List.mem_range.2 hu)
  rw [h, Bool.not_true, Bool.false_or, List.any_eq_true] at this
  obtain ⟨i, hi, h2⟩ := this
  obtain ⟨j, hj, h3⟩ := List.any_eq_true.1 h2
  rw [Bool.and_eq_true, Bool.and_eq_true] at h3
  exact ⟨i, j, List.mem_range.1 hi, List.mem_range.1 hj, h3.1.1, by simpa using h3.1.2, by simpa using h3.2⟩
theorem bet_ex {s t i j : Nat} (hs : s < 64) (ht : t < 64) (hi : i < 6) (hj : j < 6) (h1 : bitB s i = true) (h2 : bitB s j = false) (h3 : betw s t (s ^^^ 2 ^ i ^^^ 2 ^ j) = true) : cross s t i j = true ∧ wOf s t (s ^^^ 2 ^ i ^^^ 2 ^ j) = t ^^^ 2 ^ i ^^^ 2 ^ j := by
  have := List.all_eq_true.1 (List.all_eq_true.1 (List.all_eq_true.1 (List.all_eq_true.1 bet_K s (List.mem_range.2 hs)) t (List.mem_range.2 ht)) i (List.mem_range.2 hi)) j (List.mem_range.2 hj)
  rw [h1, h2, h3] at this
  simpa using this
theorem cross_ex {s t i j : Nat} (hs : s < 64) (ht : t < 64) (hi : i < 6) (hj : j < 6) (h : cross s t i j = true) :
    betw s t (s ^^^ 2 ^ i ^^^ 2 ^ j) = true ∧ wOf s t (s ^^^ 2 ^ i ^^^ 2 ^ j) = t ^^^ 2 ^ i ^^^ 2 ^ j ∧ betw s t (t ^^^ 2 ^ i ^^^ 2 ^ j) = true ∧ wOf s t (t ^^^ 2 ^ i ^^^ 2 ^ j) = s ^^^ 2 ^ i ^^^ 2 ^ j ∧ swapB s t (s ^^^ 2 ^ i ^^^ 2 ^ j) (t ^^^ 2 ^ i ^^^ 2 ^ j) = true ∧ swapB s t (t ^^^ 2 ^ i ^^^ 2 ^ j) (s ^^^ 2 ^ i ^^^ 2 ^ j) = true := by
  have := List.all_eq_true.1 (List.all_eq_true.1 (List.all_eq_true.1 (List.all_eq_true.1 swapC_K s (List.mem_range.2 hs)) t (List.mem_range.2 ht)) i (List.mem_range.2 hi)) j (List.mem_range.2 hj)
  rw [h, Bool.not_true, Bool.false_or] at this
  simp only [Bool.and_eq_true, beq_iff_eq] at this
  obtain ⟨⟨⟨⟨⟨h1, h2⟩, h3⟩, h4⟩, h5⟩, h6⟩ := this
  exact ⟨h1, h2, h3, h4, h5, h6⟩
theorem betw_comm (s t u : Nat) : betw s t u = betw t s u := by unfold betw; rw [Nat.and_comm s t, Nat.or_comm s t]
theorem wOf_comm (s t u : Nat) : wOf s t u = wOf t s u := by unfold wOf; rw [Nat.and_comm s t, Nat.or_comm s t]
theorem cross_swap {s t i j : Nat} (h : cross s t i j = true) : cross t s j i = true := by
  unfold cross at *
  revert h
  cases bitB s i <;> cases bitB t i <;> cases bitB s j <;> cases bitB t j <;> simp
theorem bit_lt {n s i : Nat} (hs : s < 2 ^ n) (hn : n ≤ 6) (hi : i < 6) (h : bitB s i = true) : i < n := by
  have hp : 2 ^ n ≤ 64 := Nat.le_trans (Nat.pow_le_pow_right (n := 2) (by decide) hn) (by decide)
  have h1 := bit_le s i (by omega) (by omega) h
  exact (Nat.pow_lt_pow_iff_right (a := 2) (by decide)).1 (Nat.lt_of_le_of_lt h1 hs)
def SwapAt (g : Nat → Bool) (s t i j : Nat) : Prop := g s = true ∧ g t = true ∧ cross s t i j = true ∧ g (s ^^^ 2 ^ i ^^^ 2 ^ j) = false ∧ g (t ^^^ 2 ^ i ^^^ 2 ^ j) = false
theorem swS_iff (g : Nat → Bool) (n : Nat) : swS g n = true ↔ ∃ s t i j, s < 2 ^ n ∧ t < s ∧ i < n ∧ j < n ∧ SwapAt g s t i j := by
  unfold swS
  rw [exB_iff]
  constructor
  · rintro ⟨s, hs, h⟩
    obtain ⟨t, ht, h⟩ := (exB_iff _ _).1 h
    unfold swT at h
    rw [Bool.and_eq_true, Bool.and_eq_true] at h
    obtain ⟨i, hi, h2⟩ := (exB_iff _ _).1 h.2
    obtain ⟨j, hj, h3⟩ := (exB_iff _ _).1 h2
    unfold pSw at h3
    rw [Bool.and_eq_true, Bool.and_eq_true] at h3
    exact ⟨s, t, i, j, hs, ht, hi, hj, h.1.1, h.1.2, h3.1, by simpa using h3.2.1, by simpa using h3.2.2⟩
  · rintro ⟨s, t, i, j, hs, ht, hi, hj, h1, h2, h3, h4, h5⟩
    refine ⟨s, hs, (exB_iff _ _).2 ⟨t, ht, ?_⟩⟩
    unfold swT
    rw [h1, h2, Bool.and_self, Bool.true_and]
    refine (exB_iff _ _).2 ⟨i, hi, (exB_iff _ _).2 ⟨j, hj, ?_⟩⟩
    unfold pSw
    rw [h3, h4, h5]; rfl
theorem swapAt_sym {g : Nat → Bool} {s t i j : Nat} (h : SwapAt g s t i j) : SwapAt g t s j i := by
  obtain ⟨h1, h2, h3, h4, h5⟩ := h
  have hx : ∀ a : Nat, a ^^^ 2 ^ j ^^^ 2 ^ i = a ^^^ 2 ^ i ^^^ 2 ^ j := fun a => by rw [Nat.xor_assoc, Nat.xor_comm (2 ^ j), ← Nat.xor_assoc]
  exact ⟨h2, h1, cross_swap h3, by rw [hx]; exact h5, by rw [hx]; exact h4⟩
theorem cross_ne {s i j : Nat} : cross s s i j = false := by
  unfold cross
  cases bitB s i <;> simp
theorem swI_S (g : Nat → Bool) (n : Nat) (hn : n ≤ 6) (O : List Nat) (hOl : ∀ x ∈ O, x < 2 ^ n) (h : swI g O = true) : swS g n = true := by
  have hp : 2 ^ n ≤ 64 := Nat.le_trans (Nat.pow_le_pow_right (n := 2) (by decide) hn) (by decide)
  unfold swI at h
  obtain ⟨a, ha, h⟩ := (exB_iff _ _).1 h
  obtain ⟨b, hb, h⟩ := (exB_iff _ _).1 h
  unfold fT at h
  rw [Bool.and_eq_true, Bool.and_eq_true] at h
  obtain ⟨⟨h1, h2⟩, h⟩ := h
  obtain ⟨k, hk, h⟩ := (exB_iff _ _).1 h
  unfold pIm at h
  rw [getD_get ha] at h1 h
  rw [getD_get hb] at h2 h
  rw [getD_get hk] at h
  have hs := hOl _ (List.getElem_mem ha)
  have ht := hOl _ (List.mem_of_mem_drop (List.getElem_mem hb))
  have hu := hOl _ (List.getElem_mem hk)
  generalize O[a] = s at h1 h hs
  generalize (O.drop a)[b] = t at h2 h ht
  generalize O[k] = u at h hu
  simp only [Bool.and_eq_true] at h
  obtain ⟨⟨h3, h4⟩, h5, _, h6⟩ := h
  have h3' : g u = false := by simpa using h3
  have h5' : g (wOf s t u) = false := by simpa using h5
  have hw := wOf_lt (u := u) hs ht
  have key : ∃ i j, i < n ∧ j < n ∧ SwapAt g s t i j := by
    unfold swapB at h6
    rw [Bool.or_eq_true, Bool.and_eq_true, Bool.and_eq_true] at h6
    rcases h6 with ⟨h7, _⟩ | ⟨_, h7⟩
    · obtain ⟨i, j, hi, hj, e1, e2, rfl⟩ := near_ex (by omega) (by omega) h7
      obtain ⟨hc, hw2⟩ := bet_ex (by omega) (by omega) hi hj e1 e2 h4
      rw [hw2] at h5'
      refine ⟨i, j, bit_lt hs hn hi e1, bit_lt ht hn hj ?_, h1, h2, hc, h3', h5'⟩
      unfold cross at hc
      rw [Bool.and_eq_true] at hc
      exact hc.2
    · obtain ⟨i, j, hi, hj, e1, e2, rfl⟩ := near_ex (by omega) (by omega) h7
      rw [betw_comm] at h4
      rw [wOf_comm] at h5'
      obtain ⟨hc, hw2⟩ := bet_ex (by omega) (by omega) hi hj e1 e2 h4
      rw [hw2] at h5'
      have hc2 : bitB s j = true := by
        unfold cross at hc
        rw [Bool.and_eq_true] at hc
        exact hc.2
      exact ⟨j, i, bit_lt hs hn hj hc2, bit_lt ht hn hi e1, swapAt_sym ⟨h2, h1, hc, h3', h5'⟩⟩
  obtain ⟨i, j, hi, hj, hS⟩ := key
  rcases Nat.lt_trichotomy t s with h8 | h8 | h8
  · exact (swS_iff g n).2 ⟨s, t, i, j, hs, h8, hi, hj, hS⟩
  · subst h8
    have := hS.2.2.1
    rw [cross_ne] at this
    cases this
  · exact (swS_iff g n).2 ⟨t, s, j, i, ht, h8, hj, hi, swapAt_sym hS⟩
theorem swS_I (g : Nat → Bool) (n : Nat) (hn : n ≤ 6) (O : List Nat) (hO : ∀ x, x < 2 ^ n → x ∈ O) (h : swS g n = true) : swI g O = true := by
  have hp : 2 ^ n ≤ 64 := Nat.le_trans (Nat.pow_le_pow_right (n := 2) (by decide) hn) (by decide)
  obtain ⟨s0, t0, i0, j0, hs0, ht0, hi0, hj0, hS0⟩ := (swS_iff g n).1 h
  have step : ∀ s t i j, s < 2 ^ n → t < 2 ^ n → i < n → j < n → SwapAt g s t i j → (∃ a b, ∃ (ha : a < O.length) (hb : b < (O.drop a).length), O[a] = s ∧ (O.drop a)[b] = t) → swI g O = true := by
    rintro s t i j hs ht hi hj ⟨h1, h2, h3, h4, h5⟩ ⟨a, b, ha, hb, es, et⟩
    obtain ⟨c1, c2, c3, c4, c5, c6⟩ := cross_ex (by omega) (by omega) (by omega) (by omega) h3
    have hua := hO _ (xor2_lt hs hi hj)
    have hub := hO _ (xor2_lt ht hi hj)
    unfold swI
    refine (exB_iff _ _).2 ⟨a, ha, (exB_iff _ _).2 ⟨b, hb, ?_⟩⟩
    unfold fT
    rw [getD_get ha, getD_get hb, es, et, h1, h2, Bool.and_self, Bool.true_and]
    obtain ⟨k, hk, ek⟩ := List.getElem_of_mem hua
    obtain ⟨k2, hk2, ek2⟩ := List.getElem_of_mem hub
    by_cases hle : k ≤ k2
    · refine (exB_iff _ _).2 ⟨k, hk, ?_⟩
      unfold pIm
      rw [getD_get hk, ek, c2, h4, c1, h5, c5]
      have hm : (O.drop k).contains (t ^^^ 2 ^ i ^^^ 2 ^ j) = true := by
        rw [List.contains_iff_mem, ← ek2]
        exact List.mem_of_getElem (l := O.drop k) (i := k2 - k) (h := by rw [List.length_drop]; omega) (by rw [List.getElem_drop]; congr 1; omega)
      rw [hm]; rfl
    · refine (exB_iff _ _).2 ⟨k2, hk2, ?_⟩
      unfold pIm
      rw [getD_get hk2, ek2, c4, h5, c3, h4, c6]
      have hm : (O.drop k2).contains (s ^^^ 2 ^ i ^^^ 2 ^ j) = true := by
        rw [List.contains_iff_mem, ← ek]
        exact List.mem_of_getElem (l := O.drop k2) (i := k - k2) (h := by rw [List.length_drop]; omega) (by rw [List.getElem_drop]; congr 1; omega)
      rw [hm]; rfl
  obtain ⟨p, hp1, ep⟩ := List.getElem_of_mem (hO s0 hs0)
  obtain ⟨q, hq1, eq⟩ := List.getElem_of_mem (hO t0 (by omega))
  by_cases hle : p ≤ q
  · exact step s0 t0 i0 j0 hs0 (by omega) hi0 hj0 hS0 ⟨p, q - p, hp1, by rw [List.length_drop]; omega, ep, by rw [List.getElem_drop, ← eq]; congr 1; omega⟩
  · exact step t0 s0 j0 i0 (by omega) hs0 hj0 hi0 (swapAt_sym hS0) ⟨q, p - q, hq1, by rw [List.length_drop]; omega, eq, by rw [List.getElem_drop, ← ep]; congr 1; omega⟩
theorem sw_same (g : Nat → Bool) (n : Nat) (hn : n ≤ 6) : swI g (ordL (2 ^ n)) = swS g n := by
  have hp : 2 ^ n ≤ 64 := Nat.le_trans (Nat.pow_le_pow_right (n := 2) (by decide) hn) (by decide)
  rw [Bool.eq_iff_iff]
  exact ⟨swI_S g n hn _ (fun x hx => ordL_lt _ (by omega) hx), swS_I g n hn _ (fun x hx => (ordL_perm _ (by omega)).mem_iff.2 (List.mem_range.2 hx))⟩
theorem any_eq_mem {α : Type} {p q : α → Bool} : ∀ {l : List α}, (∀ x ∈ l, p x = q x) → l.any p = l.any q
  | [], _ => rfl
  | x :: xs, h => by rw [List.any_cons, List.any_cons, h x (List.mem_cons_self ..), any_eq_mem fun y hy => h y (List.mem_cons_of_mem _ hy)]
theorem votesOf_l0 (p : Int → Option Bool) (q : Nat → Bool) (a n : Nat) (m : Int) (hn : n ≤ 1048576) (h : ∀ i, i < n → p (i : Int) = some (q i)) : Ev (fun k => impl_votesOf.l0 p k (n : Int) 0 m (List.replicate n false)) (m, tabB q n) := by
  have := ev_range n (fun k i => impl_votesOf.l0 p k (n : Int) (i : Int) m (tabB q i ++ List.replicate (n - i) false)) (fun _ => (m, tabB q n)) ?_ ?_ 0 (Nat.zero_le _)
  · simpa [tabB] using this
  · refine ev_succ ?_
    simp only [impl_votesOf.l0]
    exact ev_neg (Int.lt_irrefl _) (ev_eqv (Ev.now _) (by simp))
  · intro i hi ih
    refine ev_succ ?_
    simp only [impl_votesOf.l0]
    have hlen : (tabB q i ++ List.replicate (n - i) false).length = n := by rw [List.length_append, tabB_len, List.length_replicate]; omega
    refine ev_pos (by omega) (ev_bindS (h i hi) (ev_pos (by omega) (ev_pos (by rw [hlen]; omega) ?_)))
    rw [wrap_succ hi (Nat.le_trans hn (by decide)), Int.toNat_natCast, show n - i = (n - (i + 1)) + 1 by omega, List.replicate_succ, tabB_set, tabB_next]
    exact ih
theorem votesOf_ev (p : Int → Option Bool) (q : Nat → Bool) (m : Int) (hm : 0 ≤ m ∧ m ≤ 9) (h : ∀ i : Nat, i < 2 ^ m.toNat → p (i : Int) = some (q i)) : Ev (fun k => impl_votesOf.f k m p) (m, tabB q (2 ^ m.toNat)) := by
  have hp : 2 ^ m.toNat ≤ 512 := Nat.pow_le_pow_right (n := 2) (by decide) (show m.toNat ≤ 9 by omega)
  have hs : shl .i64 1 m = ((2 ^ m.toNat : Nat) : Int) := by rw [shl_one m (by omega)]; simp
  have hl0 := votesOf_l0 p q 0 (2 ^ m.toNat) m (by omega) h
  unfold impl_votesOf.f
  refine ev_pos hm.1 ?_
  rw [hs]
  generalize 2 ^ m.toNat = n at *
  have hn2 : (n : Int).toNat ≤ 281474976710656 := by rw [Int.toNat_natCast]; exact Nat.le_trans hp (by decide)
  refine ev_pos (Int.natCast_nonneg n) (ev_pos hn2 (ev_bindS rfl ?_))
  simp only [Int.toNat_natCast, List.length_replicate]
  exact hl0
theorem votesBy_l0 (m : Int) (l : List (List Int)) (hl : l.length ≤ 1048576) (h : SetsOk m l) : Ev (fun k => impl_votesBy.l0 k m l (l.length : Int) 0 []) (m, winT m l) := by
  have := ev_range l.length (fun k i => impl_votesBy.l0 k m l (l.length : Int) (i : Int) ((l.take i).map fun s => ((maskN 0 s : Nat) : Int))) (fun _ => (m, winT m l)) ?_ ?_ 0 (Nat.zero_le _)
  · simpa using this
  · refine ev_succ ?_
    simp only [impl_votesBy.l0]
    refine ev_neg (Int.lt_irrefl _) ?_
    rw [List.take_length]
    unfold votesOf_votesBy.f
    refine Ev.bind (votesOf_ev _ (winB l) m (by have := h.1; omega) (fun i hi => ?_)) (Ev.now _)
    have hp := pow_le512 h.1
    rw [anyO_some (q := fun x => Go.bits .and .i64 (i : Int) x == x) (fun _ _ => rfl), List.any_map]
    congr 1
    unfold winB
    refine any_eq_mem fun s hs => ?_
    obtain ⟨j, hj, rfl⟩ := List.mem_iff_getElem.1 hs
    have hlt := h.lt hj
    unfold mk at hlt
    rw [getD_get hj] at hlt
    exact and_self_nat (by omega) hlt
  · intro i hi ih
    refine ev_succ ?_
    simp only [impl_votesBy.l0]
    refine ev_pos (by omega) (ev_pos (by omega) (ev_pos (by omega) ?_))
    rw [rdL1_get hi, wrap_succ hi (Nat.le_trans hl (by decide))]
    have hm := (h.masks hi).1
    have hk : mk l i = maskN 0 l[i] := by unfold mk; rw [getD_get hi]
    rw [hk] at hm
    refine Ev.bind hm (ev_pos (by rw [List.length_map, List.length_take]; omega) ?_)
    rw [List.take_succ_eq_append_getElem hi, List.map_append] at ih
    exact ih
theorem votesBy_ev (m : Int) (l : List (List Int)) (hl : l.length ≤ 1048576) (h : SetsOk m l) : Ev (fun k => impl_votesBy.f k m l) (m, winT m l) := by
  unfold impl_votesBy.f
  exact votesBy_l0 m l hl h
theorem Game_votes_ev (m : Int) (l : List (List Int)) (hl : l.length ≤ 1048576) (h : SetsOk m l) : Ev (fun k => impl_Game_votes.f k m l) (m, winT m l) := by
  unfold impl_Game_votes.f
  exact Ev.bind (votesBy_ev m l hl h) (Ev.now _)
theorem gmOk_sets {m : Int} {l : List (List Int)} (h : gmOk m l = true) (hb : ∀ x ∈ l, x.length ≤ 1048576) : SetsOk m l ∧ ∃ n : Nat, m = (n : Int) ∧ n ≤ 9 := by
  unfold gmOk at h
  rw [Bool.and_eq_true, Bool.and_eq_true, Bool.and_eq_true] at h
  have h1 := inB_iff.1 h.1
  obtain ⟨n, rfl⟩ := Int.eq_ofNat_of_zero_le (show 0 ≤ m by omega)
  exact ⟨SetsOk.of h.1 h.2.2.1 hb, n, rfl, by omega⟩
theorem winT_nat (n : Nat) (l : List (List Int)) : winT (n : Int) l = tabB (winB l) (2 ^ n) := by unfold winT; rw [Int.toNat_natCast]
theorem gmAllW_ev {n : Nat} {l : List (List Int)} (hl : l.length ≤ 1048576) (h : SetsOk (n : Int) l) : Ev (fun k => spec_gmAll.f k (n : Int) l) (tabB (winB l) (2 ^ n)) := by
  unfold spec_gmAll.f
  exact Ev.bind (gmWins_ev (n : Int) l hl h) (ev_eqv (Ev.now _) (winT_nat n l))
theorem votesW_ev {n : Nat} {l : List (List Int)} (hl : l.length ≤ 1048576) (h : SetsOk (n : Int) l) : Ev (fun k => impl_Game_votes.f k (n : Int) l) ((n : Int), tabB (winB l) (2 ^ n)) := by
  rw [← winT_nat]; exact Game_votes_ev (n : Int) l hl h
theorem szIntS_eq (l : List Int) (n : Nat) (hn : n ≤ 1048576) (hl : l.length ≤ 9223372036854775807) : ∃ q, laws_szIntS.f l (n : Int) = some q ∧ (¬ q < 0 → ∃ m : Nat, q = m ∧ m ≤ n ∧ l.length ≤ n) := by
  unfold laws_szIntS.f
  rw [wrap64_id (by omega)]
  by_cases h : (n : Int) - (l.length : Int) < 0
  · exact ⟨-1, by rw [if_pos h], fun h => absurd (by decide) h⟩
  · exact ⟨_, by rw [if_neg h], fun _ => ⟨n - l.length, by omega, by omega, by omega⟩⟩
theorem szIntSS_ev (l : List (List Int)) (n : Nat) (hn : n ≤ 1048576) (hl : l.length ≤ 9223372036854775807) (hx : ∀ x ∈ l, x.length ≤ 9223372036854775807) :
    ∃ q, Ev (fun k => laws_szIntSS.f k l (n : Int)) q ∧ (¬ q < 0 → ∃ m : Nat, q = m ∧ m ≤ n ∧ l.length ≤ n ∧ ∀ x ∈ l, x.length ≤ n) := by
  unfold laws_szIntSS.f
  rw [wrap64_id (by omega)]
  by_cases h : (n : Int) - (l.length : Int) < 0
  · exact ⟨-1, ev_pos h (Ev.now _), fun h => absurd (by decide) h⟩
  have key : ∀ (d i m : Nat), i + d = l.length → m ≤ n → ∃ q, Ev (fun k => laws_szIntSS.l0 k l (m : Int) (i : Int)) q ∧ (¬ q < 0 → ∃ m' : Nat, q = m' ∧ m' ≤ m ∧ ∀ x ∈ l.drop i, x.length ≤ n) := by
    intro d
    induction d with
    | zero =>
      intro i m hi hm
      refine ⟨m, ev_succ ?_, fun _ => ⟨m, rfl, Nat.le_refl _, fun x hx => ?_⟩⟩
      · simp only [laws_szIntSS.l0]; exact ev_neg (by omega) (Ev.now _)
      · rw [List.drop_of_length_le (by omega)] at hx; cases hx
    | succ d ih =>
      intro i m hi hm
      have h1 : i < l.length := by omega
      obtain ⟨q, hq, hq2⟩ := szIntS_eq l[i] m (by omega) (hx _ (List.getElem_mem h1))
      by_cases c : q < 0
      · refine ⟨-1, ev_succ ?_, fun h => absurd (by decide) h⟩
        simp only [laws_szIntSS.l0, rdL1_get h1, hq, Option.bind_some]
        exact ev_pos (by omega) (ev_pos (by omega) (ev_pos c (Ev.now _)))
      · obtain ⟨m', rfl, h2, h3⟩ := hq2 c
        obtain ⟨q2, e2, p2⟩ := ih (i + 1) m' (by omega) (by omega)
        refine ⟨q2, ev_succ ?_, fun hn2 => ?_⟩
        · simp only [laws_szIntSS.l0, rdL1_get h1, hq, Option.bind_some, wrap_succ (i := i) (n := 1048576) (by omega) (by decide)]
          exact ev_pos (by omega) (ev_pos (by omega) (ev_neg c e2))
        · obtain ⟨m'', r1, r2, r3⟩ := p2 hn2
          refine ⟨m'', r1, by omega, fun x hx => ?_⟩
          rw [List.drop_eq_getElem_cons h1] at hx
          rcases List.mem_cons.1 hx with rfl | hx
          · omega
          · exact r3 x hx
  obtain ⟨q, e, p⟩ := key l.length 0 (n - l.length) (by omega) (by omega)
  refine ⟨q, ev_neg h ?_, fun hq => ?_⟩
  · rw [show (n : Int) - (l.length : Int) = ((n - l.length : Nat) : Int) by omega]; exact e
  · obtain ⟨m, r1, r2, r3⟩ := p hq
    exact ⟨m, r1, by omega, by omega, by simpa using r3⟩
theorem szGame_ev (a : Int) (l : List (List Int)) (n : Nat) (hn : n ≤ 1048576) (hl : l.length ≤ 9223372036854775807) (hx : ∀ x ∈ l, x.length ≤ 9223372036854775807) :
    ∃ q, Ev (fun k => laws_szGame.f k a l (n : Int)) q ∧ (¬ q < 0 → ∃ m : Nat, q = m ∧ m ≤ n ∧ l.length ≤ n ∧ ∀ x ∈ l, x.length ≤ n) := by
  obtain ⟨q, e, p⟩ := szIntSS_ev l n hn hl hx
  unfold laws_szGame.f
  by_cases h : q < 0
  · exact ⟨-1, Ev.bind e (ev_pos h (Ev.now _)), fun h => absurd (by decide) h⟩
  · exact ⟨q, Ev.bind e (ev_neg h (Ev.now _)), p⟩
theorem toIntSS_ev (l : List (List Int)) (hl : l.length ≤ 1152921504606) (hx : ∀ x ∈ l, x.length ≤ 1152921504606) : Ev (fun k => laws_toIntSS.f k l) l := by
  unfold laws_toIntSS.f
  refine ev_pos (by omega) (ev_pos (by omega) ?_)
  rw [Int.toNat_natCast]
  have := ev_range l.length (fun k i => laws_toIntSS.l0 k l ((l.take i).map id ++ List.replicate (l.length - i) []) (i : Int)) (fun _ => l) ?_ ?_ 0 (Nat.zero_le _)
  · simpa using this
  · refine ev_succ ?_
    simp only [laws_toIntSS.l0]
    exact ev_neg (by omega) (ev_eqv (Ev.now _) (by simp))
  · intro i hi ih
    refine ev_succ ?_
    simp only [laws_toIntSS.l0]
    refine ev_pos (by omega) (ev_pos (by omega) ?_)
    rw [rdL1_get hi]
    refine Ev.bind (toIntS_ev l[i] (hx _ (List.getElem_mem hi))) (ev_pos (by rw [copy_len _ _ _ _ (by omega)]; omega) ?_)
    rw [wrap_succ hi (by omega), Int.toNat_natCast, show l[i] = id l[i] from rfl, set_copy id _ l i hi]
    exact ih
theorem toGame_ev (m : Int) (l : List (List Int)) (hl : l.length ≤ 1152921504606) (hx : ∀ x ∈ l, x.length ≤ 1152921504606) : Ev (fun k => laws_toGame.f k m l) (m, l) := by
  unfold laws_toGame.f
  exact Ev.bind (toIntSS_ev l hl hx) (Ev.now _)
theorem eqIntSS_ev (a b : List (List Int)) (ha : a.length ≤ 1152921504606) (hx : ∀ x ∈ a, x.length ≤ 1152921504606) : Ev (fun k => laws_eqIntSS.f k a b) (decide (a = b)) := by
  unfold laws_eqIntSS.f
  by_cases hl : a.length = b.length
  · refine ev_pos (by omega) ?_
    refine ev_range a.length (fun k i => laws_eqIntSS.l0 k a b (i : Int)) (fun i => decide (a.drop i = b.drop i)) ?_ ?_ 0 (Nat.zero_le _)
    · refine ev_succ ?_
      simp only [laws_eqIntSS.l0]
      refine ev_neg (by omega) (ev_eqv (Ev.now _) ?_)
      rw [List.drop_of_length_le (by omega), List.drop_of_length_le (by omega)]; simp
    · intro i hi ih
      have h2 : i < b.length := by omega
      refine ev_succ ?_
      simp only [laws_eqIntSS.l0]
      refine ev_pos (by omega) (ev_pos (by omega) (ev_pos (by omega) ?_))
      rw [rdL1_get hi, rdL1_get h2, wrap_succ hi (by omega), eq_drop a b i hi h2]
      refine Ev.bind (eqIntS_ev a[i] b[i] (Nat.le_trans (hx _ (List.getElem_mem hi)) (by decide))) (ev_bool (fun h => ?_) (fun h => ?_))
      · rw [h]; exact ih
      · rw [h]; exact Ev.now _
  · refine ev_neg (by omega) (ev_eqv (Ev.now false) ?_)
    exact (decide_eq_false fun e => hl (by rw [e])).symm
theorem eqGame_ev (m n : Int) (a b : List (List Int)) (ha : a.length ≤ 1152921504606) (hx : ∀ x ∈ a, x.length ≤ 1152921504606) : Ev (fun k => laws_eqGame.f k m a n b) (decide (m = n ∧ a = b)) := by
  unfold laws_eqGame.f
  by_cases hm : m = n
  · refine ev_pos hm (Ev.bind (eqIntSS_ev a b ha hx) (ev_bool (fun h => ev_eqv (Ev.now _) ?_) (fun h => ev_eqv (Ev.now _) ?_)))
    · exact (decide_eq_true ⟨hm, of_decide_eq_true h⟩).symm
    · exact (decide_eq_false fun e => of_decide_eq_false h e.2).symm
  · exact ev_neg hm (ev_eqv (Ev.now _) (decide_eq_false fun e => hm e.1).symm)
def tradedB (m : Int) (l : List (List Int)) : Bool := gmOk m l && decide (m ≤ 6)
def standsM (m : Int) (l : List (List Int)) : Bool × Bool := if tradedB m l = true then (!swS (winB l) m.toNat, true) else (false, false)
theorem isTraded_ev (m : Int) (l : List (List Int)) (hl : l.length ≤ 1048576) (hb : ∀ x ∈ l, x.length ≤ 1048576) : Ev (fun k => impl_isTradedGame.f k m l) (tradedB m l) := by
  unfold impl_isTradedGame.f tradedB
  refine Ev.bind (IsGame_ev m l hl hb) (ev_bool (fun h => ?_) (fun h => ?_))
  · rw [h]; exact Ev.now _
  · rw [h]; exact Ev.now _
theorem sStands_ev (m : Int) (l : List (List Int)) (hl : l.length ≤ 1048576) (hb : ∀ x ∈ l, x.length ≤ 1048576) : Ev (fun k => spec_StandsSwaps.f k m l) (standsM m l) := by
  unfold spec_StandsSwaps.f standsM tradedB
  refine Ev.bind (gmGood_ev m l hl hb) (ev_bool (fun h => ?_) (fun h => ?_))
  · rw [h, Bool.true_and]
    obtain ⟨hs, n, rfl, hn⟩ := gmOk_sets h hb
    refine ev_succ ?_
    simp only [spec_StandsSwaps.j0]
    by_cases h6 : (n : Int) ≤ 6
    · rw [decide_eq_true h6, if_pos rfl, Int.toNat_natCast]
      obtain ⟨r, h1, h2⟩ := deSwap_ev (winB l) n (by omega)
      refine ev_neg (by simp; omega) (Ev.bind (gmAllW_ev hl hs) (Ev.bind h2 (ev_eqv (Ev.now _) ?_)))
      rw [h1]
    · rw [decide_eq_false h6, if_neg (by decide)]
      exact ev_pos (by simp; omega) (Ev.now _)
  · rw [h, Bool.false_and, if_neg (by decide)]
    refine ev_succ ?_
    simp only [spec_StandsSwaps.j0]
    exact ev_pos (by simp) (Ev.now _)
theorem iStands_ev (m : Int) (l : List (List Int)) (hl : l.length ≤ 1048576) (hb : ∀ x ∈ l, x.length ≤ 1048576) : Ev (fun k => impl_StandsSwaps.f k m l) (standsM m l) := by
  have hT := isTraded_ev m l hl hb
  unfold impl_StandsSwaps.f standsM
  cases h : tradedB m l with
  | true =>
    rw [h] at hT
    rw [if_pos rfl]
    unfold tradedB at h
    rw [Bool.and_eq_true] at h
    obtain ⟨hs, n, rfl, hn⟩ := gmOk_sets h.1 hb
    have h6 : n ≤ 6 := by have := of_decide_eq_true h.2; omega
    obtain ⟨r, h1, h2⟩ := firstOfSwaps_ev (winB l) n h6
    rw [sw_same _ n h6] at h1
    rw [Int.toNat_natCast]
    have hF : Ev (fun k => impl_FirstSwap.f k (n : Int) l) r := by
      unfold impl_FirstSwap.f
      exact Ev.bind hT (ev_pos rfl (Ev.bind (votesW_ev hl hs) (Ev.bind h2 (Ev.now _))))
    refine Ev.bind hF ?_
    rw [h1]
    cases swS (winB l) n with
    | true => exact ev_pos rfl (Ev.bind hT (Ev.now _))
    | false => exact ev_neg (by decide) (Ev.bind hT (Ev.bind hT (Ev.now _)))
  | false =>
    rw [h] at hT
    rw [if_neg (by decide)]
    have hF : Ev (fun k => impl_FirstSwap.f k m l) (([] : List (List Int)), ([] : List (List Int)), false) := by
      unfold impl_FirstSwap.f
      exact Ev.bind hT (ev_neg (by decide) (Ev.now _))
    exact Ev.bind hF (ev_neg (by decide) (Ev.bind hT (Ev.bind hT (Ev.now _))))
theorem FnExactStandsSwaps_pure (a0_0 : Int) (l0_1 : List (List Int)) (g0 : I64 a0_0 ∧ ∀ y ∈ l0_1, ∀ z ∈ y, I64 z) (h1 : l0_1.length ≤ 9223372036854775807) (h2 : ∀ x ∈ l0_1, x.length ≤ 9223372036854775807) : ∃ k, laws_FnExactStandsSwaps.f k a0_0 l0_1 = some true := by
  refine Ev.rounds ?_
  unfold laws_FnExactStandsSwaps.f
  obtain ⟨q, hq, hq2⟩ := szGame_ev a0_0 l0_1 1048576 (by decide) h1 h2
  refine Ev.bind hq ?_
  by_cases h : q < 0
  · exact ev_pos h (Ev.now _)
  refine ev_neg h ?_
  obtain ⟨_, _, _, n1, n2⟩ := hq2 h
  have n3 : ∀ x ∈ l0_1, x.length ≤ 1152921504606 := fun x hx => Nat.le_trans (n2 x hx) (by decide)
  have ht := toGame_ev a0_0 l0_1 (by omega) n3
  exact Ev.bind ht (Ev.bind (sStands_ev a0_0 l0_1 n1 n2) (Ev.bind ht (Ev.bind (iStands_ev a0_0 l0_1 n1 n2) (ev_neg (by simp) (ev_neg (by simp) (Ev.bind ht (Ev.bind (eqGame_ev a0_0 a0_0 l0_1 l0_1 (by omega) n3) (ev_pos (by simp) (Ev.now _)))))))))
end Go.Proofs.Ytaacaifiiedoiaa.Q
end
section
namespace Go.Proofs.Ytaacaifiiedoiaa.Q
open Go.RowKit Go.Proofs.YtaacaifiiedoiaaW.PrintWords Go.Proofs.YtaacaifiiedoiaaW.PrintLast Go.Proofs.YtaacaifiiedoiaaW.PrintMore
set_option linter.unusedVariables false
set_option linter.unusedSimpArgs false
set_option maxRecDepth 100000
section
variable {H : Type} {enc : TypeId × Value → H} {W : World}
theorem opens_ints : Opens enc Try.prog W 71 (Kd.slice 3 (Kd.int .i64)) (fun x => ∀ y ∈ x, I64 y) := opens_slice Try.underlying71 (by kernel_rfl) (opens_int Try.underlying3)
theorem opens_Game : Opens enc Try.prog W 24 (Kd.pair (Kd.int .i64) (Kd.slice 71 (Kd.slice 3 (Kd.int .i64)))) (fun x => I64 x.1 ∧ ∀ y ∈ x.2, ∀ z ∈ y, I64 z) :=
  opens_pair Try.underlying24 (by kernel_rfl) rfl rfl (by kernel_rfl) (by kernel_rfl) (opens_int Try.underlying3) (opens_slice Try.underlying22 (by kernel_rfl) opens_ints)
end
open Go.ChangeShapes Go.WideShapes Go.ChangeAt Go.Deep
section
variable {H : Type} {enc : TypeId × Value → H} {W : World} {r : Reach} {b0 : Nat} {v : Value} {y : DataW H} {p : List MemPlace}
theorem arg_Game (hv : Value.okWide Try.prog W r b0 24 v) (hr : DataW.Trod enc Try.prog W 0 (fun _ => true) true 24 v y p) :
    ∃ a A c l, v = .agg #[.int .i64 a, .slice A (l : List (List Int)).length c] ∧ l.length ≤ c ∧ Kd.C (Kd.slice 3 (Kd.int .i64)) W A l.length l ∧ I64 a ∧ ∀ y ∈ l, ∀ z ∈ y, I64 z := by
  obtain ⟨x, ⟨l⟩, rfl, k, g⟩ := open_struct Try.underlying24 hv hr opens_Game
  obtain ⟨_, _, rfl, rfl, ⟨A, c, rfl, hl, hC⟩⟩ := k
  exact ⟨_, A, c, _, rfl, hl, hC, g⟩
theorem C_inner {w : World} {A : Option Addr} {n : Nat} {xs : List (List Int)} (h : Kd.C (Kd.slice 3 (Kd.int .i64)) w A n xs) : ∀ x ∈ xs, x.length ≤ 9223372036854775807 := fun x hx => by
  obtain ⟨j, hj, rfl⟩ := List.mem_iff_getElem.1 hx
  obtain ⟨ad, _, hc⟩ := h.2.2 (by have := h.1; omega)
  obtain ⟨c, _, ⟨_, _, _, _, hC⟩, _⟩ := hc j _ (List.getElem?_eq_getElem hj)
  exact hC.2.1
end
end Go.Proofs.Ytaacaifiiedoiaa.Q
end
section
namespace Go.Proofs.Ytaacaifiiedoiaa.fnExactStandsSwaps
open Go.ChangeShapes Go.WideShapes Go.ChangeAt Go.RowKit Go.Proofs.Ytaacaifiiedoiaa.Q
open Go.ChangeMaps (open_string shut_string)
set_option linter.unusedVariables false
theorem own : ownKnob Try.prog.godebug = none := by kernel_rfl
theorem laidOut : laidOutB Try.prog = true := by kernel_rfl
set_option maxRecDepth 100000 in
theorem lifted (os : Os) (started : os.Started) (H : Type) (enc : TypeId × Value → H) :
    ReturnsInHanded {} Try.checked os 6 .any (Rows.fnExactStandsSwapsSpec.pre6 enc Try.prog Try.f6 Rows.fnExactStandsSwapsRow.domain false) (Rows.fnExactStandsSwapsSpec.post enc Try.prog Try.f6 false true false false) := by
  refine returnsInHanded_of_change_sized (C := Try.checked) own started (by kernel_rfl) Try.func6
    (ChangeSpec.witness6 (enc := enc) (C := Try.checked) false ⟨#[], #[.agg #[.int .i64 0, .slice none 0 0]], []⟩ 8 (by kernel_rfl) (by kernel_rfl) (by kernel_rfl) (by kernel_rfl)) ?_
  intro W base args ds gs before hval0 hW hcnd hsz0 _
  have hsz : (DataW.weightsEach Try.prog (Try.f6.params.toList ++ Rows.fnExactStandsSwapsSpec.plain.varTypes Try.prog) (ds ++ gs)).all (· ≤ reachBytes) = true := hsz0
  have hval : ∀ (j : Nat) t v, Try.f6.params[j]? = some t → args[j]? = some v → Value.okWide Try.prog W .any base t v := hval0
  have hW' := hW
  obtain ⟨p, q, hA0, hV, rfl, hfz, hnd⟩ := hW
  have hA : DataW.TrodAll enc Try.prog W 0 (fun _ => true) true Try.f6.params.toList args.toList ds p := hA0
  rw [Try.params6] at hA hval hsz
  obtain ⟨v0, vs0, d0, ds0, p0, q0, hargs, rfl, rfl, h0, r0⟩ := trodAll_cons hA
  obtain ⟨rfl, rfl, rfl⟩ := trodAll_nil r0
  obtain rfl : args = #[v0] := by cases args; simp_all
  obtain ⟨rfl, rfl⟩ := trodVars_none hV
  have k0 := h0
  have lt0 : ∀ x ∈ p0, x.block < W.heap.size := by obtain ⟨m, hm⟩ := k0; exact DataW.trod_lt m _ _ _ hm
  obtain ⟨a0_0, A0_1, c0_1, l0_1, rfl, hc0_1, hr0_1, g0⟩ := arg_Game (hval 0 24 v0 rfl rfl) h0
  clear hA0 hval0 hsz0 hsz
  obtain ⟨k, hk⟩ := FnExactStandsSwaps_pure a0_0 l0_1 g0 hr0_1.2.1 (C_inner hr0_1)
  refine (laws_FnExactStandsSwaps.calls k a0_0 A0_1 c0_1 l0_1 true W hr0_1 hc0_1 hk).mono fun e W' ⟨he, bel⟩ => ?_
  subst he
  exact ⟨_, rfl, _, _, _, [], _, [], hW', trodAll_mk1 (shut_bool Try.underlying4 _), (trodAll_cons_mk (Below.trod laidOut (by kernel_rfl) (of_decide_eq_true (by kernel_rfl)) k0 bel lt0) trodAll_mk0), rfl, bel.frame _, fun h => by cases h⟩
theorem over : Rows.fnExactStandsSwapsRow.holds Try.pinned (OpenSpec.ofChange Rows.fnExactStandsSwapsSpec) :=
  OpenClaim.holds_of_wide 6 Try.f6 rfl rfl rfl rfl rfl rfl rfl ⟨rfl, rfl, rfl, rfl, rfl⟩ rfl rfl rfl rfl rfl (by kernel_rfl) Try.func6 (by kernel_rfl)
    (of_decide_eq_true (by kernel_rfl)) (by unfold Func.isWrapper; first | (rw [if_pos (by decide +kernel)]; kernel_rfl) | (rw [if_neg (by decide +kernel)]; exact ⟨rfl, rfl⟩))
    (fun os started H enc _ => lifted os started H enc)
theorem proved : Rows.FnExactStandsSwapsSaid := over
end Go.Proofs.Ytaacaifiiedoiaa.fnExactStandsSwaps
namespace Go.Proofs.Ytaacaifiiedoiaa
theorem fnExactStandsSwaps_holds : Rows.FnExactStandsSwapsSaid := fnExactStandsSwaps.proved
end Go.Proofs.Ytaacaifiiedoiaa
end
#print axioms Go.Proofs.Ytaacaifiiedoiaa.fnExactStandsSwaps_holds

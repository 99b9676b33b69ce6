/- The row of the law FnExactFirstSwap: for every input it returns true, and its arguments read afterwards as before. No condition: FnExactFirstSwap_pure says that its pure form answers true at every input, and laws_FnExactFirstSwap.calls that the machine comes to just that. -/
import Derived.Test.YtaacaifiiedoiaaKFnExactFirstSwap6
import Derived.Test.YtaacaifiiedoiaaRows
import Derived.Laws.StructEq
section
namespace Go.Proofs.Ytaacaifiiedoiaa.Q
open Go.RowKit Go.Proofs.YtaacaifiiedoiaaW.PrintWords Go.Proofs.YtaacaifiiedoiaaW.PrintLast Go.Proofs.YtaacaifiiedoiaaW.PrintMore
set_option linter.unusedVariables false
set_option linter.unusedSimpArgs false
theorem any_eq_mem {α : Type} {p q : α → Bool} : ∀ {l : List α}, (∀ x ∈ l, p x = q x) → l.any p = l.any q
  | [], _ => rfl
  | x :: xs, h => by rw [List.any_cons, List.any_cons, h x (List.mem_cons_self ..), any_eq_mem fun y hy => h y (List.mem_cons_of_mem _ hy)]
theorem votesOf_l0 (p : Int → Option Bool) (q : Nat → Bool) (a n : Nat) (m : Int) (hn : n ≤ 1048576) (h : ∀ i, i < n → p (i : Int) = some (q i)) : Ev (fun k => impl_votesOf.l0 p k (n : Int) 0 m (List.replicate n false)) (m, tabB q n) := by
  have := ev_range n (fun k i => impl_votesOf.l0 p k (n : Int) (i : Int) m (tabB q i ++ List.replicate (n - i) false)) (fun _ => (m, tabB q n)) ?_ ?_ 0 (Nat.zero_le _)
  · simpa [tabB] using this
  · refine ev_succ ?_
    simp only [impl_votesOf.l0]
    exact ev_neg (Int.lt_irrefl _) (ev_eqv (Ev.now _) (by simp))
  · intro i hi ih
    refine ev_succ ?_
    simp only [impl_votesOf.l0]
    have hlen : (tabB q i ++ List.replicate (n - i) false).length = n := by rw [List.length_append, tabB_len, List.length_replicate]; omega
    refine ev_pos (by omega) (ev_bindS (h i hi) (ev_pos (by omega) (ev_pos (by rw [hlen]; omega) ?_)))
    rw [wrap_succ hi (Nat.le_trans hn (by decide)), Int.toNat_natCast, show n - i = (n - (i + 1)) + 1 by omega, List.replicate_succ, tabB_set, tabB_next]
    exact ih
theorem votesOf_ev (p : Int → Option Bool) (q : Nat → Bool) (m : Int) (hm : 0 ≤ m ∧ m ≤ 9) (h : ∀ i : Nat, i < 2 ^ m.toNat → p (i : Int) = some (q i)) : Ev (fun k => impl_votesOf.f k m p) (m, tabB q (2 ^ m.toNat)) := by
  have hp : 2 ^ m.toNat ≤ 512 := Nat.pow_le_pow_right (n := 2) (by decide) (show m.toNat ≤ 9 by omega)
  have hs : shl .i64 1 m = ((2 ^ m.toNat : Nat) : Int) := by rw [shl_one m (by omega)]; simp
  have hl0 := votesOf_l0 p q 0 (2 ^ m.toNat) m (by omega) h
  unfold impl_votesOf.f
  refine ev_pos hm.1 ?_
  rw [hs]
  generalize 2 ^ m.toNat = n at *
  have hn2 : (n : Int).toNat ≤ 281474976710656 := by rw [Int.toNat_natCast]; exact Nat.le_trans hp (by decide)
  refine ev_pos (Int.natCast_nonneg n) (ev_pos hn2 (ev_bindS rfl ?_))
  simp only [Int.toNat_natCast, List.length_replicate]
  exact hl0
theorem votesBy_l0 (m : Int) (l : List (List Int)) (hl : l.length ≤ 1048576) (h : SetsOk m l) : Ev (fun k => impl_votesBy.l0 k m l (l.length : Int) 0 []) (m, winT m l) := by
  have := ev_range l.length (fun k i => impl_votesBy.l0 k m l (l.length : Int) (i : Int) ((l.take i).map fun s => ((maskN 0 s : Nat) : Int))) (fun _ => (m, winT m l)) ?_ ?_ 0 (Nat.zero_le _)
  · simpa using this
  · refine ev_succ ?_
    simp only [impl_votesBy.l0]
    refine ev_neg (Int.lt_irrefl _) ?_
    rw [List.take_length]
    unfold votesOf_votesBy.f
    refine Ev.bind (votesOf_ev _ (winB l) m (by have := h.1; omega) (fun i hi => ?_)) (Ev.now _)
    have hp := pow_le512 h.1
    rw [anyO_some (q := fun x => Go.bits .and .i64 (i : Int) x == x) (fun _ _ => rfl), List.any_map]
    congr 1
    unfold winB
    refine any_eq_mem fun s hs => ?_
    obtain ⟨j, hj, rfl⟩ := List.mem_iff_getElem.1 hs
    have hlt := h.lt hj
    unfold mk at hlt
    rw [getD_get hj] at hlt
    exact and_self_nat (by omega) hlt
  · intro i hi ih
    refine ev_succ ?_
    simp only [impl_votesBy.l0]
    refine ev_pos (by omega) (ev_pos (by omega) (ev_pos (by omega) ?_))
    rw [rdL1_get hi, wrap_succ hi (Nat.le_trans hl (by decide))]
    have hm := (h.masks hi).1
    have hk : mk l i = maskN 0 l[i] := by unfold mk; rw [getD_get hi]
    rw [hk] at hm
    refine Ev.bind hm (ev_pos (by rw [List.length_map, List.length_take]; omega) ?_)
    rw [List.take_succ_eq_append_getElem hi, List.map_append] at ih
    exact ih
theorem votesBy_ev (m : Int) (l : List (List Int)) (hl : l.length ≤ 1048576) (h : SetsOk m l) : Ev (fun k => impl_votesBy.f k m l) (m, winT m l) := by
  unfold impl_votesBy.f
  exact votesBy_l0 m l hl h
theorem Game_votes_ev (m : Int) (l : List (List Int)) (hl : l.length ≤ 1048576) (h : SetsOk m l) : Ev (fun k => impl_Game_votes.f k m l) (m, winT m l) := by
  unfold impl_Game_votes.f
  exact Ev.bind (votesBy_ev m l hl h) (Ev.now _)
theorem gmOk_sets {m : Int} {l : List (List Int)} (h : gmOk m l = true) (hb : ∀ x ∈ l, x.length ≤ 1048576) : SetsOk m l ∧ ∃ n : Nat, m = (n : Int) ∧ n ≤ 9 := by
  unfold gmOk at h
  rw [Bool.and_eq_true, Bool.and_eq_true, Bool.and_eq_true] at h
  have h1 := inB_iff.1 h.1
  obtain ⟨n, rfl⟩ := Int.eq_ofNat_of_zero_le (show 0 ≤ m by omega)
  exact ⟨SetsOk.of h.1 h.2.2.1 hb, n, rfl, by omega⟩
theorem winT_nat (n : Nat) (l : List (List Int)) : winT (n : Int) l = tabB (winB l) (2 ^ n) := by unfold winT; rw [Int.toNat_natCast]
theorem gmAllW_ev {n : Nat} {l : List (List Int)} (hl : l.length ≤ 1048576) (h : SetsOk (n : Int) l) : Ev (fun k => spec_gmAll.f k (n : Int) l) (tabB (winB l) (2 ^ n)) := by
  unfold spec_gmAll.f
  exact Ev.bind (gmWins_ev (n : Int) l hl h) (ev_eqv (Ev.now _) (winT_nat n l))
theorem votesW_ev {n : Nat} {l : List (List Int)} (hl : l.length ≤ 1048576) (h : SetsOk (n : Int) l) : Ev (fun k => impl_Game_votes.f k (n : Int) l) ((n : Int), tabB (winB l) (2 ^ n)) := by
  rw [← winT_nat]; exact Game_votes_ev (n : Int) l hl h
theorem szIntS_eq (l : List Int) (n : Nat) (hn : n ≤ 1048576) (hl : l.length ≤ 9223372036854775807) : ∃ q, laws_szIntS.f l (n : Int) = some q ∧ (¬ q < 0 → ∃ m : Nat, q = m ∧ m ≤ n ∧ l.length ≤ n) := by
  unfold laws_szIntS.f
  rw [wrap64_id (by omega)]
  by_cases h : (n : Int) - (l.length : Int) < 0
  · exact ⟨-1, by rw [if_pos h], fun h => absurd (by decide) h⟩
  · exact ⟨_, by rw [if_neg h], fun _ => ⟨n - l.length, by omega, by omega, by omega⟩⟩
theorem szIntSS_ev (l : List (List Int)) (n : Nat) (hn : n ≤ 1048576) (hl : l.length ≤ 9223372036854775807) (hx : ∀ x ∈ l, x.length ≤ 9223372036854775807) :
    ∃ q, Ev (fun k => laws_szIntSS.f k l (n : Int)) q ∧ (¬ q < 0 → ∃ m : Nat, q = m ∧ m ≤ n ∧ l.length ≤ n ∧ ∀ x ∈ l, x.length ≤ n) := by
  unfold laws_szIntSS.f
  rw [wrap64_id (by omega)]
  by_cases h : (n : Int) - (l.length : Int) < 0
  · exact ⟨-1, ev_pos h (Ev.now _), fun h => absurd (by decide) h⟩
  have key : ∀ (d i m : Nat), i + d = l.length → m ≤ n → ∃ q, Ev (fun k => laws_szIntSS.l0 k l (m : Int) (i : Int)) q ∧ (¬ q < 0 → ∃ m' : Nat, q = m' ∧ m' ≤ m ∧ ∀ x ∈ l.drop i, x.length ≤ n) := by
    intro d
    induction d with
    | zero =>
      intro i m hi hm
      refine ⟨m, ev_succ ?_, fun _ => ⟨m, rfl, Nat.le_refl _, fun x hx => ?_⟩⟩
      · simp only [laws_szIntSS.l0]; exact ev_neg (by omega) (Ev.now _)
      · rw [List.drop_of_length_le (by omega)] at hx; cases hx
    | succ d ih =>
      intro i m hi hm
      have h1 : i < l.length := by omega
      obtain ⟨q, hq, hq2⟩ := szIntS_eq l[i] m (by omega) (hx _ (List.getElem_mem h1))
      by_cases c : q < 0
      · refine ⟨-1, ev_succ ?_, fun h => absurd (by decide) h⟩
        simp only [laws_szIntSS.l0, rdL1_get h1, hq, Option.bind_some]
        exact ev_pos (by omega) (ev_pos (by omega) (ev_pos c (Ev.now _)))
      · obtain ⟨m', rfl, h2, h3⟩ := hq2 c
        obtain ⟨q2, e2, p2⟩ := ih (i + 1) m' (by omega) (by omega)
        refine ⟨q2, ev_succ ?_, fun hn2 => ?_⟩
        · simp only [laws_szIntSS.l0, rdL1_get h1, hq, Option.bind_some, wrap_succ (i := i) (n := 1048576) (by omega) (by decide)]
          exact ev_pos (by omega) (ev_pos (by omega) (ev_neg c e2))
        · obtain ⟨m'', r1, r2, r3⟩ := p2 hn2
          refine ⟨m'', r1, by omega, fun x hx => ?_⟩
          rw [List.drop_eq_getElem_cons h1] at hx
          rcases List.mem_cons.1 hx with rfl | hx
          · omega
          · exact r3 x hx
  obtain ⟨q, e, p⟩ := key l.length 0 (n - l.length) (by omega) (by omega)
  refine ⟨q, ev_neg h ?_, fun hq => ?_⟩
  · rw [show (n : Int) - (l.length : Int) = ((n - l.length : Nat) : Int) by omega]; exact e
  · obtain ⟨m, r1, r2, r3⟩ := p hq
    exact ⟨m, r1, by omega, by omega, by simpa using r3⟩
theorem szGame_ev (a : Int) (l : List (List Int)) (n : Nat) (hn : n ≤ 1048576) (hl : l.length ≤ 9223372036854775807) (hx : ∀ x ∈ l, x.length ≤ 9223372036854775807) :
    ∃ q, Ev (fun k => laws_szGame.f k a l (n : Int)) q ∧ (¬ q < 0 → ∃ m : Nat, q = m ∧ m ≤ n ∧ l.length ≤ n ∧ ∀ x ∈ l, x.length ≤ n) := by
  obtain ⟨q, e, p⟩ := szIntSS_ev l n hn hl hx
  unfold laws_szGame.f
  by_cases h : q < 0
  · exact ⟨-1, Ev.bind e (ev_pos h (Ev.now _)), fun h => absurd (by decide) h⟩
  · exact ⟨q, Ev.bind e (ev_neg h (Ev.now _)), p⟩
theorem toIntSS_ev (l : List (List Int)) (hl : l.length ≤ 1152921504606) (hx : ∀ x ∈ l, x.length ≤ 1152921504606) : Ev (fun k => laws_toIntSS.f k l) l := by
  unfold laws_toIntSS.f
  refine ev_pos (by omega) (ev_pos (by omega) ?_)
  rw [Int.toNat_natCast]
  have := ev_range l.length (fun k i => laws_toIntSS.l0 k l ((l.take i).map id ++ List.replicate (l.length - i) []) (i : Int)) (fun _ => l) ?_ ?_ 0 (Nat.zero_le _)
  · simpa using this
  · refine ev_succ ?_
    simp only [laws_toIntSS.l0]
    exact ev_neg (by omega) (ev_eqv (Ev.now _) (by simp))
  · intro i hi ih
    refine ev_succ ?_
    simp only [laws_toIntSS.l0]
    refine ev_pos (by omega) (ev_pos (by omega) ?_)
    rw [rdL1_get hi]
    refine Ev.bind (toIntS_ev l[i] (hx _ (List.getElem_mem hi))) (ev_pos (by rw [copy_len _ _ _ _ (by omega)]; omega) ?_)
    rw [wrap_succ hi (by omega), Int.toNat_natCast, show l[i] = id l[i] from rfl, set_copy id _ l i hi]
    exact ih
theorem toGame_ev (m : Int) (l : List (List Int)) (hl : l.length ≤ 1152921504606) (hx : ∀ x ∈ l, x.length ≤ 1152921504606) : Ev (fun k => laws_toGame.f k m l) (m, l) := by
  unfold laws_toGame.f
  exact Ev.bind (toIntSS_ev l hl hx) (Ev.now _)
theorem eqIntSS_ev (a b : List (List Int)) (ha : a.length ≤ 1152921504606) (hx : ∀ x ∈ a, x.length ≤ 1152921504606) : Ev (fun k => laws_eqIntSS.f k a b) (decide (a = b)) := by
  unfold laws_eqIntSS.f
  by_cases hl : a.length = b.length
  · refine ev_pos (by omega) ?_
    refine ev_range a.length (fun k i => laws_eqIntSS.l0 k a b (i : Int)) (fun i => decide (a.drop i = b.drop i)) ?_ ?_ 0 (Nat.zero_le _)
    · refine ev_succ ?_
      simp only [laws_eqIntSS.l0]
      refine ev_neg (by omega) (ev_eqv (Ev.now _) ?_)
      rw [List.drop_of_length_le (by omega), List.drop_of_length_le (by omega)]; simp
    · intro i hi ih
      have h2 : i < b.length := by omega
      refine ev_succ ?_
      simp only [laws_eqIntSS.l0]
      refine ev_pos (by omega) (ev_pos (by omega) (ev_pos (by omega) ?_))
      rw [rdL1_get hi, rdL1_get h2, wrap_succ hi (by omega), eq_drop a b i hi h2]
      refine Ev.bind (eqIntS_ev a[i] b[i] (Nat.le_trans (hx _ (List.getElem_mem hi)) (by decide))) (ev_bool (fun h => ?_) (fun h => ?_))
      · rw [h]; exact ih
      · rw [h]; exact Ev.now _
  · refine ev_neg (by omega) (ev_eqv (Ev.now false) ?_)
    exact (decide_eq_false fun e => hl (by rw [e])).symm
theorem eqGame_ev (m n : Int) (a b : List (List Int)) (ha : a.length ≤ 1152921504606) (hx : ∀ x ∈ a, x.length ≤ 1152921504606) : Ev (fun k => laws_eqGame.f k m a n b) (decide (m = n ∧ a = b)) := by
  unfold laws_eqGame.f
  by_cases hm : m = n
  · refine ev_pos hm (Ev.bind (eqIntSS_ev a b ha hx) (ev_bool (fun h => ev_eqv (Ev.now _) ?_) (fun h => ev_eqv (Ev.now _) ?_)))
    · exact (decide_eq_true ⟨hm, of_decide_eq_true h⟩).symm
    · exact (decide_eq_false fun e => of_decide_eq_false h e.2).symm
  · exact ev_neg hm (ev_eqv (Ev.now _) (decide_eq_false fun e => hm e.1).symm)
theorem near_ex {s u : Nat} (hs : s < 64) (hu : u < 64) (h : nearB s u = true) : ∃ i j, i < 6 ∧ j < 6 ∧ bitB s i = true ∧ bitB s j = false ∧ u = s ^^^ 2 ^ i ^^^ 2 ^ j := by
  have := List.all_eq_true.1 (List.all_eq_true.1 near_K s (List.mem_range.2 hs)) u (List.mem_range.2 hu)
  rw [h, Bool.not_true, Bool.false_or, List.any_eq_true] at this
  obtain ⟨i, hi, h2⟩ := this
  obtain ⟨j, hj, h3⟩ := List.any_eq_true.1 h2
  rw [Bool.and_eq_true, Bool.and_eq_true] at h3
  exact ⟨i, j, List.mem_range.1 hi, List.mem_range.1 hj, h3.1.1, by simpa using h3.1.2, by simpa using h3.2⟩
theorem bet_ex {s t i j : Nat} (hs : s < 64) (ht : t < 64) (hi : i < 6) (hj : j < 6) (h1 : bitB s i = true) (h2 : bitB s j = false) (h3 : betw s t (s ^^^ 2 ^ i ^^^ 2 ^ j) = true) : cross s t i j = true ∧ wOf s t (s ^^^ 2 ^ i ^^^ 2 ^ j) = t ^^^ 2 ^ i ^^^ 2 ^ j := by
  have := List.all_eq_true.1 (List.all_eq_true.1 (List.all_eq_true.1 (List.all_eq_true.1 bet_K s (List.mem_range.2 hs)) t (List.mem_range.2 ht)) i (List.mem_range.2 hi)) j (List.mem_range.2 hj)
  rw [h1, h2, h3] at this
  simpa using this
theorem cross_ex {s t i j : Nat} (hs : s < 64) (ht : t < 64) (hi : i < 6) (hj : j < 6) (h : cross s t i j = true) :
    betw s t (s ^^^ 2 ^ i ^^^ 2 ^ j) = true ∧ wOf s t (s ^^^ 2 ^ i ^^^ 2 ^ j) = t ^^^ 2 ^ i ^^^ 2 ^ j ∧ betw s t (t ^^^ 2 ^ i ^^^ 2 ^ j) = true ∧ wOf s t (t ^^^ 2 ^ i ^^^ 2 ^ j) = s ^^^ 2 ^ i ^^^ 2 ^ j ∧ swapB s t (s ^^^ 2 ^ i ^^^ 2 ^ j) (t ^^^ 2 ^ i ^^^ 2 ^ j) = true ∧ swapB s t (t ^^^ 2 ^ i ^^^ 2 ^ j) (s ^^^ 2 ^ i ^^^ 2 ^ j) = true := by
  have := List.all_eq_true.1 (List.all_eq_true.1 (List.all_eq_true.1 (List.all_eq_true.1 swapC_K s (List.mem_range.2 hs)) t (List.mem_range.2 ht)) i (List.mem_range.2 hi)) j (List.mem_range.2 hj)
  rw [h, Bool.not_true, Bool.false_or] at this
  simp only [Bool.and_eq_true, beq_iff_eq] at this
  obtain ⟨⟨⟨⟨⟨h1, h2⟩, h3⟩, h4⟩, h5⟩, h6⟩ := this
  exact ⟨h1, h2, h3, h4, h5, h6⟩
theorem betw_comm (s t u : Nat) : betw s t u = betw t s u := by unfold betw; rw [Nat.and_comm s t, Nat.or_comm s t]
theorem wOf_comm (s t u : Nat) : wOf s t u = wOf t s u := by unfold wOf; rw [Nat.and_comm s t, Nat.or_comm s t]
theorem cross_swap {s t i j : Nat} (h : cross s t i j = true) : cross t s j i = true := by
  unfold cross at *
  revert h
  cases bitB s i <;> cases bitB t i <;> cases bitB s j <;> cases bitB t j <;> simp
theorem bit_lt {n s i : Nat} (hs : s < 2 ^ n) (hn : n ≤ 6) (hi : i < 6) (h : bitB s i = true) : i < n := by
  have hp : 2 ^ n ≤ 64 := Nat.le_trans (Nat.pow_le_pow_right (n := 2) (by decide) hn) (by decide)
  have h1 := bit_le s i (by omega) (by omega) h
  exact (Nat.pow_lt_pow_iff_right (a := 2) (by decide)).1 (Nat.lt_of_le_of_lt h1 hs)
def SwapAt (g : Nat → Bool) (s t i j : Nat) : Prop := g s = true ∧ g t = true ∧ cross s t i j = true ∧ g (s ^^^ 2 ^ i ^^^ 2 ^ j) = false ∧ g (t ^^^ 2 ^ i ^^^ 2 ^ j) = false
theorem swapAt_sym {g : Nat → Bool} {s t i j : Nat} (h : SwapAt g s t i j) : SwapAt g t s j i := by
  obtain ⟨h1, h2, h3, h4, h5⟩ := h
  have hx : ∀ a : Nat, a ^^^ 2 ^ j ^^^ 2 ^ i = a ^^^ 2 ^ i ^^^ 2 ^ j := fun a => by rw [Nat.xor_assoc, Nat.xor_comm (2 ^ j), ← Nat.xor_assoc]
  exact ⟨h2, h1, cross_swap h3, by rw [hx]; exact h5, by rw [hx]; exact h4⟩
theorem cross_ne {s i j : Nat} : cross s s i j = false := by
  unfold cross
  cases bitB s i <;> simp
def le2 (a b : Nat) : Prop := lexB (setL b) (setL a) = false
theorem ordL_le2 (N : Nat) (hN : N ≤ 512) : (ordL N).Pairwise le2 := by
  unfold ordL
  rw [List.pairwise_map]
  refine List.Pairwise.imp_of_mem ?_ (sortL_sorted lexB lexB_ntrans (fun _ _ => lexB_asymm) (setsM (fun _ => true) N))
  intro x y hx hy h
  obtain ⟨a, ha, rfl⟩ := List.mem_map.1 ((sortL_perm lexB _).mem_iff.1 hx)
  obtain ⟨b, hb, rfl⟩ := List.mem_map.1 ((sortL_perm lexB _).mem_iff.1 hy)
  have ha2 := List.mem_range.1 (List.mem_filter.1 ha).1
  have hb2 := List.mem_range.1 (List.mem_filter.1 hb).1
  unfold le2
  rw [setL_mask a (by omega), setL_mask b (by omega)]
  exact h
theorem sort_two {a b : Nat} (h : le2 a b) : sortL lexB ([a, b].map setL) = [setL a, setL b] := by
  show insL lexB (setL b) [setL a] = _
  unfold insL
  cases e : lexB (setL a) (setL b) with
  | true => rfl
  | false =>
    rw [if_neg (by decide)]
    have := lexB_total _ _ e h
    rw [this]
theorem le2_head {a : Nat} {l : List Nat} (h : (a :: l).Pairwise le2) : ∀ b ∈ a :: l, le2 a b := by
  intro b hb
  rcases List.mem_cons.1 hb with rfl | hb
  · exact lexB_irrefl _
  · exact (List.pairwise_cons.1 h).1 b hb
def liI (g : Nat → Bool) (Q : Nat → Nat → Nat → Nat → Bool) (s t : Nat) : List Nat → List (List (List Int) × List (List Int))
  | [] => []
  | u :: r => (if inQ g Q s t u r = true then [prT s t u (wOf s t u)] else []) ++ liI g Q s t r
def liO (g : Nat → Bool) (Q : Nat → Nat → Nat → Nat → Bool) (O : List Nat) (s : Nat) : List Nat → List (List (List Int) × List (List Int))
  | [] => []
  | t :: r => (if (g s && g t) = true then liI g Q s t O else []) ++ liO g Q O s r
def liA (g : Nat → Bool) (Q : Nat → Nat → Nat → Nat → Bool) (O : List Nat) : List Nat → List (List (List Int) × List (List Int))
  | [] => []
  | s :: r => liO g Q O s (s :: r) ++ liA g Q O r
section
variable (g : Nat → Bool) (Q : Nat → Nat → Nat → Nat → Bool) (O : List Nat)
theorem inT_head (s t : Nat) (rest : Option (List (List Int) × List (List Int))) : ∀ l, inT g Q s t rest l = ((liI g Q s t l).head?).or rest
  | [] => by simp [inT, liI]
  | u :: r => by
    unfold inT liI
    by_cases e : inQ g Q s t u r = true
    · rw [if_pos e, if_pos e]; rfl
    · rw [if_neg e, if_neg e, List.nil_append]; exact inT_head s t rest r
theorem outT_head (s : Nat) (rest : Option (List (List Int) × List (List Int))) : ∀ l, outT g Q O s rest l = ((liO g Q O s l).head?).or rest
  | [] => by simp [outT, liO]
  | t :: r => by
    unfold outT liO
    have ih := outT_head s rest r
    by_cases e : (g s && g t) = true
    · rw [if_pos e, if_pos e, inT_head, ih, List.head?_append, Option.or_assoc]
    · rw [if_neg e, if_neg e, List.nil_append]; exact ih
theorem allT_head : ∀ l, allT g Q O l = (liA g Q O l).head?
  | [] => rfl
  | s :: r => by
    unfold allT liA
    rw [outT_head, allT_head r, List.head?_append]
theorem liI_mem {s t : Nat} {c : List (List Int) × List (List Int)} : ∀ l, c ∈ liI g Q s t l ↔ ∃ a u r, l = a ++ u :: r ∧ inQ g Q s t u r = true ∧ c = prT s t u (wOf s t u)
  | [] => by simp [liI]
  | v :: l => by
    have ih := liI_mem (s := s) (t := t) (c := c) l
    unfold liI
    rw [List.mem_append, ih]
    constructor
    · rintro (h | ⟨a, u, r, h1, h2, h3⟩)
      · by_cases e : inQ g Q s t v l = true
        · rw [if_pos e, List.mem_singleton] at h; exact ⟨[], v, l, rfl, e, h⟩
        · rw [if_neg e] at h; cases h
      · exact ⟨v :: a, u, r, by rw [h1]; rfl, h2, h3⟩
    · rintro ⟨a, u, r, h1, h2, h3⟩
      cases a with
      | nil =>
        injection h1 with h4 h5; subst h4; subst h5
        left; rw [if_pos h2, h3]; exact List.mem_cons_self ..
      | cons b a =>
        injection h1 with h4 h5
        exact .inr ⟨a, u, r, h5, h2, h3⟩
theorem liO_mem {s : Nat} {c : List (List Int) × List (List Int)} : ∀ l, c ∈ liO g Q O s l ↔ g s = true ∧ ∃ t ∈ l, g t = true ∧ c ∈ liI g Q s t O
  | [] => by simp [liO]
  | v :: l => by
    have ih := liO_mem (s := s) (c := c) l
    unfold liO
    rw [List.mem_append, ih]
    constructor
    · rintro (h | ⟨h1, t, h2, h3⟩)
      · by_cases e : (g s && g v) = true
        · rw [if_pos e] at h
          rw [Bool.and_eq_true] at e
          exact ⟨e.1, v, List.mem_cons_self .., e.2, h⟩
        · rw [if_neg e] at h; cases h
      · exact ⟨h1, t, List.mem_cons_of_mem _ h2, h3⟩
    · rintro ⟨h1, t, h2, h3, h4⟩
      rcases List.mem_cons.1 h2 with rfl | h2
      · left; rw [if_pos (by rw [h1, h3]; rfl)]; exact h4
      · exact .inr ⟨h1, t, h2, h3, h4⟩
theorem liA_mem {c : List (List Int) × List (List Int)} : ∀ l, c ∈ liA g Q O l ↔ ∃ a s r, l = a ++ s :: r ∧ c ∈ liO g Q O s (s :: r)
  | [] => by simp [liA]
  | v :: l => by
    have ih := liA_mem (c := c) l
    unfold liA
    rw [List.mem_append, ih]
    constructor
    · rintro (h | ⟨a, u, r, h1, h2⟩)
      · exact ⟨[], v, l, rfl, h⟩
      · exact ⟨v :: a, u, r, by rw [h1]; rfl, h2⟩
    · rintro ⟨a, u, r, h1, h2⟩
      cases a with
      | nil => injection h1 with h4 h5; subst h4; subst h5; exact .inl h2
      | cons b a => injection h1 with h4 h5; exact .inr ⟨a, u, r, h5, h2⟩
end
def Best (C : List (List Int) × List (List Int) → Prop) (o : Option (List (List Int) × List (List Int))) : Prop := (o = none → ∀ c, ¬ C c) ∧ (∀ b, o = some b → C b ∧ ∀ c, C c → lexG (keyT c) (keyT b) = false)
theorem Best.tk {C : List (List Int) × List (List Int) → Prop} {o : Option (List (List Int) × List (List Int))} (h : Best C o) (c0 : List (List Int) × List (List Int)) : Best (fun c => C c ∨ c = c0) (tk o c0) := by
  obtain ⟨h1, h2⟩ := h
  unfold Q.tk
  cases o with
  | none =>
    refine ⟨(fun e => by cases e), fun b hb => ?_⟩
    obtain rfl := Option.some.inj hb
    refine ⟨.inr rfl, fun c hc => ?_⟩
    rcases hc with hc | rfl
    · exact absurd hc (h1 rfl c)
    · exact lexG_irrefl _
  | some b =>
    obtain ⟨h3, h4⟩ := h2 b rfl
    by_cases e : lexG (keyT c0) (keyT b) = true
    · simp only [if_pos e]
      refine ⟨(fun e => by cases e), fun b' hb => ?_⟩
      obtain rfl := Option.some.inj hb
      refine ⟨.inr rfl, fun c hc => ?_⟩
      rcases hc with hc | rfl
      · cases h5 : lexG (keyT c) (keyT c0) with
        | false => rfl
        | true =>
          have h6 := lexG_trans _ _ _ h5 e
          rw [h4 c hc] at h6; cases h6
      · exact lexG_irrefl _
    · simp only [if_neg e]
      refine ⟨(fun e => by cases e), fun b' hb => ?_⟩
      obtain rfl := Option.some.inj hb
      refine ⟨.inl h3, fun c hc => ?_⟩
      rcases hc with hc | rfl
      · exact h4 c hc
      · exact eq_false_of_ne_true e
theorem Best.eqv {C D : List (List Int) × List (List Int) → Prop} {o : Option (List (List Int) × List (List Int))} (h : Best C o) (he : ∀ c, C c ↔ D c) : Best D o :=
  ⟨fun e c hc => h.1 e c ((he c).2 hc), fun b hb => ⟨(he b).1 (h.2 b hb).1, fun c hc => (h.2 b hb).2 c ((he c).2 hc)⟩⟩
theorem Best.uniq {C : List (List Int) × List (List Int) → Prop} {o p : Option (List (List Int) × List (List Int))} (ho : Best C o) (hp : Best C p) (hk : ∀ a b, C a → C b → keyT a = keyT b → a = b) : o = p := by
  cases o with
  | none =>
    cases p with
    | none => rfl
    | some b => exact absurd (hp.2 b rfl).1 (ho.1 rfl b)
  | some a =>
    cases p with
    | none => exact absurd (ho.2 a rfl).1 (hp.1 rfl a)
    | some b =>
      obtain ⟨h1, h2⟩ := ho.2 a rfl
      obtain ⟨h3, h4⟩ := hp.2 b rfl
      rw [hk a b h1 h3 (lexG_total _ _ (h4 a h1) (h2 b h3))]
theorem best_loop {st : Nat → Option (List (List Int) × List (List Int)) → Option (List (List Int) × List (List Int))} (D : Nat → List (List Int) × List (List Int) → Prop) (hst : ∀ j C o, Best C o → Best (fun c => C c ∨ D j c) (st j o)) :
    ∀ d j C o, Best C o → Best (fun c => C c ∨ ∃ i, j ≤ i ∧ i < j + d ∧ D i c) (loopO st d j o)
  | 0, j, C, o, h => h.eqv fun c => ⟨.inl, fun hc => hc.elim id (fun ⟨i, h1, h2, _⟩ => absurd h2 (by omega))⟩
  | d + 1, j, C, o, h => by
    refine (best_loop D hst d (j + 1) _ _ (hst j C o h)).eqv fun c => ⟨?_, ?_⟩
    · rintro ((hc | hc) | ⟨i, h1, h2, h3⟩)
      · exact .inl hc
      · exact .inr ⟨j, Nat.le_refl _, by omega, hc⟩
      · exact .inr ⟨i, by omega, by omega, h3⟩
    · rintro (hc | ⟨i, h1, h2, h3⟩)
      · exact .inl (.inl hc)
      · by_cases e : i = j
        · subst e; exact .inl (.inr h3)
        · exact .inr ⟨i, by omega, by omega, h3⟩
def CS (g : Nat → Bool) (n : Nat) (c : List (List Int) × List (List Int)) : Prop := ∃ s t i j, s < 2 ^ n ∧ t < s ∧ i < n ∧ j < n ∧ SwapAt g s t i j ∧ c = trdS s t (s ^^^ 2 ^ i ^^^ 2 ^ j) (t ^^^ 2 ^ i ^^^ 2 ^ j)
theorem best_spec (g : Nat → Bool) (n : Nat) : Best (CS g n) (loopO (stS g n) (2 ^ n) 0 none) := by
  have h0 : Best (fun _ => False) none := ⟨fun _ _ h => h, fun b hb => by cases hb⟩
  have hJ : ∀ s t i j C o, Best C o → Best (fun c => C c ∨ (pSw g s t i j = true ∧ c = trdS s t (s ^^^ 2 ^ i ^^^ 2 ^ j) (t ^^^ 2 ^ i ^^^ 2 ^ j))) (stJ g s t i j o) := by
    intro s t i j C o h
    unfold stJ
    by_cases e : pSw g s t i j = true
    · rw [if_pos e]
      exact (h.tk _).eqv fun c => ⟨fun hc => hc.imp id (fun h => ⟨e, h⟩), fun hc => hc.imp id (fun h => h.2)⟩
    · rw [if_neg e]
      exact h.eqv fun c => ⟨.inl, fun hc => hc.elim id (fun h => absurd h.1 e)⟩
  have hI : ∀ s t i C o, Best C o → Best (fun c => C c ∨ ∃ j, 0 ≤ j ∧ j < 0 + n ∧ (pSw g s t i j = true ∧ c = trdS s t (s ^^^ 2 ^ i ^^^ 2 ^ j) (t ^^^ 2 ^ i ^^^ 2 ^ j))) (stI g n s t i o) := fun s t i C o h => best_loop _ (hJ s t i) n 0 C o h
  have hT : ∀ s t C o, Best C o → Best (fun c => C c ∨ ((g s && g t) = true ∧ ∃ i, 0 ≤ i ∧ i < 0 + n ∧ ∃ j, 0 ≤ j ∧ j < 0 + n ∧ (pSw g s t i j = true ∧ c = trdS s t (s ^^^ 2 ^ i ^^^ 2 ^ j) (t ^^^ 2 ^ i ^^^ 2 ^ j)))) (stT g n s t o) := by
    intro s t C o h
    unfold stT
    by_cases e : (g s && g t) = true
    · rw [if_pos e]
      exact (best_loop _ (hI s t) n 0 C o h).eqv fun c => ⟨fun hc => hc.imp id (fun h => ⟨e, h⟩), fun hc => hc.imp id (fun h => h.2)⟩
    · rw [if_neg e]
      exact h.eqv fun c => ⟨.inl, fun hc => hc.elim id (fun h => absurd h.1 e)⟩
  refine (best_loop _ (fun s C o h => best_loop _ (hT s) s 0 C o h) (2 ^ n) 0 _ none h0).eqv fun c => ⟨?_, ?_⟩
  · rintro (h | ⟨s, _, hs, t, _, ht, h1, i, _, hi, j, _, hj, h2, h3⟩)
    · exact h.elim
    · unfold pSw at h2
      simp only [Bool.and_eq_true, Bool.not_eq_true'] at h1 h2
      exact ⟨s, t, i, j, by omega, by omega, by omega, by omega, ⟨h1.1, h1.2, h2.1, h2.2.1, h2.2.2⟩, h3⟩
  · rintro ⟨s, t, i, j, hs, ht, hi, hj, ⟨h1, h2, h3, h4, h5⟩, h6⟩
    refine .inr ⟨s, Nat.zero_le _, by omega, t, Nat.zero_le _, by omega, by rw [h1, h2]; rfl, i, Nat.zero_le _, by omega, j, Nat.zero_le _, by omega, ?_, h6⟩
    unfold pSw; rw [h3, h4, h5]; rfl
def lt2 (a b : Nat) : Prop := lexB (setL a) (setL b) = true
def rK (a b : List (List Int) × List (List Int)) : Prop := lexG (keyT b) (keyT a) = false
theorem rK_1 {s t u w s' t' u' w' : Nat} (h : lt2 s s') : rK (prT s t u w) (prT s' t' u' w') := by
  have hne : setL s' ≠ setL s := fun e => by unfold lt2 at h; rw [e, lexB_irrefl] at h; cases h
  show lexG (setL s' :: _) (setL s :: _) = false
  rw [lexG, if_neg hne]
  exact lexB_asymm h
theorem rK_2 {s t u w t' u' w' : Nat} (h : lt2 t t') : rK (prT s t u w) (prT s t' u' w') := by
  have hne : setL t' ≠ setL t := fun e => by unfold lt2 at h; rw [e, lexB_irrefl] at h; cases h
  show lexG (setL s :: setL t' :: _) (setL s :: setL t :: _) = false
  rw [lexG, if_pos rfl, lexG, if_neg hne]
  exact lexB_asymm h
theorem rK_3 {s t u w u' w' : Nat} (h : lt2 u u') : rK (prT s t u w) (prT s t u' w') := by
  have hne : setL u' ≠ setL u := fun e => by unfold lt2 at h; rw [e, lexB_irrefl] at h; cases h
  show lexG (setL s :: setL t :: setL u' :: _) (setL s :: setL t :: setL u :: _) = false
  rw [lexG, if_pos rfl, lexG, if_pos rfl, lexG, if_neg hne]
  exact lexB_asymm h
section
variable (g : Nat → Bool) (Q : Nat → Nat → Nat → Nat → Bool)
theorem liI_sorted (s t : Nat) : ∀ l : List Nat, l.Pairwise lt2 → (liI g Q s t l).Pairwise rK
  | [], _ => List.Pairwise.nil
  | u :: l, h => by
    rw [List.pairwise_cons] at h
    unfold liI
    rw [List.pairwise_append]
    refine ⟨?_, liI_sorted s t l h.2, ?_⟩
    · split
      · exact List.pairwise_singleton _ _
      · exact List.Pairwise.nil
    · intro a ha b hb
      split at ha
      · rw [List.mem_singleton] at ha
        obtain ⟨p, u', r, h1, _, rfl⟩ := (liI_mem g Q l).1 hb
        subst ha
        exact rK_3 (h.1 u' (by rw [h1]; simp))
      · cases ha
theorem liO_sorted (O : List Nat) (hO : O.Pairwise lt2) (s : Nat) : ∀ l : List Nat, l.Pairwise lt2 → (liO g Q O s l).Pairwise rK
  | [], _ => List.Pairwise.nil
  | t :: l, h => by
    rw [List.pairwise_cons] at h
    unfold liO
    rw [List.pairwise_append]
    refine ⟨?_, liO_sorted O hO s l h.2, ?_⟩
    · split
      · exact liI_sorted g Q s t O hO
      · exact List.Pairwise.nil
    · intro a ha b hb
      split at ha
      · obtain ⟨_, _, _, _, _, rfl⟩ := (liI_mem g Q O).1 ha
        obtain ⟨_, t', ht', _, hb⟩ := (liO_mem g Q O l).1 hb
        obtain ⟨_, _, _, _, _, rfl⟩ := (liI_mem g Q O).1 hb
        exact rK_2 (h.1 t' ht')
      · cases ha
theorem liA_sorted (O : List Nat) (hO : O.Pairwise lt2) : ∀ l : List Nat, l.Pairwise lt2 → (liA g Q O l).Pairwise rK
  | [], _ => List.Pairwise.nil
  | s :: l, h => by
    have h' := List.pairwise_cons.1 h
    unfold liA
    rw [List.pairwise_append]
    refine ⟨liO_sorted g Q O hO s _ h, liA_sorted O hO l h'.2, ?_⟩
    intro a ha b hb
    obtain ⟨_, _, _, _, ha⟩ := (liO_mem g Q O _).1 ha
    obtain ⟨_, _, _, _, _, rfl⟩ := (liI_mem g Q O).1 ha
    obtain ⟨p, s', r, h1, hb⟩ := (liA_mem g Q O l).1 hb
    obtain ⟨_, _, _, _, hb⟩ := (liO_mem g Q O _).1 hb
    obtain ⟨_, _, _, _, _, rfl⟩ := (liI_mem g Q O).1 hb
    exact rK_1 (h'.1 s' (by rw [h1]; simp))
end
theorem best_head {L : List (List (List Int) × List (List Int))} (h : L.Pairwise rK) : Best (fun c => c ∈ L) L.head? := by
  cases L with
  | nil => exact ⟨(fun _ c hc => by cases hc), (fun b hb => by cases hb)⟩
  | cons a l =>
    refine ⟨(fun e => by cases e), fun b hb => ?_⟩
    obtain rfl := Option.some.inj hb
    refine ⟨List.mem_cons_self .., fun c hc => ?_⟩
    rcases List.mem_cons.1 hc with rfl | hc
    · exact lexG_irrefl _
    · exact (List.pairwise_cons.1 h).1 c hc
theorem ordL_lt2 (N : Nat) (hN : N ≤ 512) : (ordL N).Pairwise lt2 := by
  have h1 := ordL_le2 N hN
  have h2 : (ordL N).Pairwise (· ≠ ·) := ((ordL_perm N hN).nodup_iff).2 List.nodup_range
  refine List.Pairwise.imp_of_mem ?_ (h1.and h2)
  intro a b ha hb h
  unfold lt2
  cases e : lexB (setL a) (setL b) with
  | true => rfl
  | false =>
    have h3 := lexB_total _ _ e h.1
    have h4 := congrArg (maskN 0) h3
    rw [setL_mask a (by have := ordL_lt N hN ha; omega), setL_mask b (by have := ordL_lt N hN hb; omega)] at h4
    exact absurd h4 h.2
theorem sort_swap (x y : Nat) : sortL lexB ([x, y].map setL) = sortL lexB ([y, x].map setL) :=
  sortL_eq lexB lexB_ntrans (fun _ _ => lexB_asymm) lexB_total ((sortL_perm lexB _).trans (List.Perm.swap _ _ _)) (sortL_sorted lexB lexB_ntrans (fun _ _ => lexB_asymm) _)
theorem trdS_1 (s t a b : Nat) : trdS s t a b = trdS t s a b := by unfold trdS; rw [sort_swap s t]
theorem trdS_2 (s t a b : Nat) : trdS s t a b = trdS s t b a := by unfold trdS; rw [sort_swap a b]
theorem prT_trd {s t u w : Nat} (h1 : le2 s t) (h2 : le2 u w) : prT s t u w = trdS s t u w := by unfold prT trdS; rw [sort_two h1, sort_two h2]
theorem split_or {x y : Nat} : ∀ l : List Nat, x ∈ l → y ∈ l → (∃ p r, l = p ++ x :: r ∧ y ∈ x :: r) ∨ (∃ p r, l = p ++ y :: r ∧ x ∈ y :: r)
  | [], h, _ => by cases h
  | z :: l, hx, hy => by
    rcases List.mem_cons.1 hx with rfl | hx'
    · exact .inl ⟨[], l, rfl, hy⟩
    · rcases List.mem_cons.1 hy with rfl | hy'
      · exact .inr ⟨[], l, rfl, hx⟩
      · rcases split_or l hx' hy' with ⟨p, r, h1, h2⟩ | ⟨p, r, h1, h2⟩
        · exact .inl ⟨z :: p, r, by rw [h1]; rfl, h2⟩
        · exact .inr ⟨z :: p, r, by rw [h1]; rfl, h2⟩
theorem le2_split {l p r : List Nat} {x y : Nat} (h : l.Pairwise le2) (e : l = p ++ x :: r) (hy : y ∈ x :: r) : le2 x y := by
  subst e
  exact le2_head (List.pairwise_append.1 h).2.1 y hy
theorem xor2_comm (a i j : Nat) : a ^^^ 2 ^ j ^^^ 2 ^ i = a ^^^ 2 ^ i ^^^ 2 ^ j := by rw [Nat.xor_assoc, Nat.xor_comm (2 ^ j), ← Nat.xor_assoc]
theorem CS_in (g : Nat → Bool) (n : Nat) (hn : n ≤ 6) (O : List Nat) (hO : ∀ x, x < 2 ^ n → x ∈ O) (hs : O.Pairwise le2) {c : List (List Int) × List (List Int)} (h : CS g n c) : c ∈ liA g swapB O O := by
  have hp : 2 ^ n ≤ 64 := Nat.le_trans (Nat.pow_le_pow_right (n := 2) (by decide) hn) (by decide)
  obtain ⟨s0, t0, i0, j0, hs0, ht0, hi0, hj0, hS0, rfl⟩ := h
  have step : ∀ s t i j, s < 2 ^ n → t < 2 ^ n → i < n → j < n → SwapAt g s t i j → (∃ p r, O = p ++ s :: r ∧ t ∈ s :: r) → trdS s t (s ^^^ 2 ^ i ^^^ 2 ^ j) (t ^^^ 2 ^ i ^^^ 2 ^ j) ∈ liA g swapB O O := by
    rintro s t i j hs1 ht1 hi hj ⟨h1, h2, h3, h4, h5⟩ ⟨p, r, e1, e2⟩
    obtain ⟨c1, c2, c3, c4, c5, c6⟩ := cross_ex (by omega) (by omega) (by omega) (by omega) h3
    have hua := hO _ (xor2_lt hs1 hi hj)
    have hub := hO _ (xor2_lt ht1 hi hj)
    have hst := le2_split hs e1 e2
    refine (liA_mem g swapB O O).2 ⟨p, s, r, e1, (liO_mem g swapB O _).2 ⟨h1, t, e2, h2, ?_⟩⟩
    generalize s ^^^ 2 ^ i ^^^ 2 ^ j = a at *
    generalize t ^^^ 2 ^ i ^^^ 2 ^ j = b at *
    rcases split_or O hua hub with ⟨p', r', f1, f2⟩ | ⟨p', r', f1, f2⟩
    · refine (liI_mem g swapB O).2 ⟨p', a, r', f1, ?_, ?_⟩
      · unfold inQ; rw [c2, h4, h5, c1, c5, List.contains_iff_mem.2 f2]; rfl
      · rw [c2]; exact (prT_trd hst (le2_split hs f1 f2)).symm
    · refine (liI_mem g swapB O).2 ⟨p', b, r', f1, ?_, ?_⟩
      · unfold inQ; rw [c4, h4, h5, c3, c6, List.contains_iff_mem.2 f2]; rfl
      · rw [c4, trdS_2]; exact (prT_trd hst (le2_split hs f1 f2)).symm
  rcases split_or O (hO s0 hs0) (hO t0 (by omega)) with h | h
  · exact step s0 t0 i0 j0 hs0 (by omega) hi0 hj0 hS0 h
  · have := step t0 s0 j0 i0 (by omega) hs0 hj0 hi0 (swapAt_sym hS0) h
    rw [xor2_comm t0 i0 j0, xor2_comm s0 i0 j0, trdS_1, trdS_2] at this
    exact this
theorem in_CS (g : Nat → Bool) (n : Nat) (hn : n ≤ 6) (O : List Nat) (hOl : ∀ x ∈ O, x < 2 ^ n) (hs : O.Pairwise le2) {c : List (List Int) × List (List Int)} (h : c ∈ liA g swapB O O) : CS g n c := by
  have hp : 2 ^ n ≤ 64 := Nat.le_trans (Nat.pow_le_pow_right (n := 2) (by decide) hn) (by decide)
  obtain ⟨p, s, r, e1, h⟩ := (liA_mem g swapB O O).1 h
  obtain ⟨h1, t, ht, h2, h⟩ := (liO_mem g swapB O _).1 h
  obtain ⟨p', u, r', e2, hq, rfl⟩ := (liI_mem g swapB O).1 h
  have hst := le2_split hs e1 ht
  have hs1 : s < 2 ^ n := hOl s (by rw [e1]; simp)
  have ht1 : t < 2 ^ n := hOl t (by rw [e1]; exact List.mem_append_right _ ht)
  have hu1 : u < 2 ^ n := hOl u (by rw [e2]; simp)
  have hw := wOf_lt (u := u) hs1 ht1
  unfold inQ at hq
  simp only [Bool.and_eq_true, Bool.not_eq_true', List.contains_iff_mem] at hq
  obtain ⟨⟨h3, h4⟩, h5, h7, h6⟩ := hq
  rw [prT_trd hst (le2_split hs e2 h7)]
  have key : ∃ i j, i < n ∧ j < n ∧ SwapAt g s t i j ∧ trdS s t u (wOf s t u) = trdS s t (s ^^^ 2 ^ i ^^^ 2 ^ j) (t ^^^ 2 ^ i ^^^ 2 ^ j) := by
    unfold swapB at h6
    rw [Bool.or_eq_true, Bool.and_eq_true, Bool.and_eq_true] at h6
    rcases h6 with ⟨h7, _⟩ | ⟨_, h7⟩
    · obtain ⟨i, j, hi, hj, b1, b2, rfl⟩ := near_ex (by omega) (by omega) h7
      obtain ⟨hc, hw2⟩ := bet_ex (by omega) (by omega) hi hj b1 b2 h4
      rw [hw2] at h5 ⊢
      refine ⟨i, j, bit_lt hs1 hn hi b1, bit_lt ht1 hn hj ?_, ⟨h1, h2, hc, h3, h5⟩, rfl⟩
      unfold cross at hc
      rw [Bool.and_eq_true] at hc
      exact hc.2
    · obtain ⟨i, j, hi, hj, b1, b2, rfl⟩ := near_ex (by omega) (by omega) h7
      rw [betw_comm] at h4
      rw [wOf_comm] at h5
      obtain ⟨hc, hw2⟩ := bet_ex (by omega) (by omega) hi hj b1 b2 h4
      rw [hw2] at h5
      rw [wOf_comm, hw2]
      have hc2 : bitB s j = true := by
        unfold cross at hc
        rw [Bool.and_eq_true] at hc
        exact hc.2
      refine ⟨j, i, bit_lt hs1 hn hj hc2, bit_lt ht1 hn hi b1, swapAt_sym ⟨h2, h1, hc, h3, h5⟩, ?_⟩
      rw [xor2_comm s i j, xor2_comm t i j, trdS_2]
  obtain ⟨i, j, hi, hj, hS, e⟩ := key
  rw [e]
  rcases Nat.lt_trichotomy t s with h8 | h8 | h8
  · exact ⟨s, t, i, j, hs1, h8, hi, hj, hS, rfl⟩
  · subst h8
    have := hS.2.2.1
    rw [cross_ne] at this
    cases this
  · exact ⟨t, s, j, i, ht1, h8, hj, hi, swapAt_sym hS, by rw [xor2_comm t i j, xor2_comm s i j, trdS_1, trdS_2]⟩
theorem swapR_eq (g : Nat → Bool) (n : Nat) (hn : n ≤ 6) : loopO (stS g n) (2 ^ n) 0 none = allT g swapB (ordL (2 ^ n)) (ordL (2 ^ n)) := by
  have hp : 2 ^ n ≤ 64 := Nat.le_trans (Nat.pow_le_pow_right (n := 2) (by decide) hn) (by decide)
  have h1 := ordL_le2 (2 ^ n) (by omega)
  have h2 := ordL_lt2 (2 ^ n) (by omega)
  rw [allT_head]
  refine (best_spec g n).uniq ((best_head (liA_sorted g swapB _ h2 _ h2)).eqv fun c => ⟨in_CS g n hn _ (fun x hx => ordL_lt _ (by omega) hx) h1, CS_in g n hn _ (fun x hx => (ordL_perm _ (by omega)).mem_iff.2 (List.mem_range.2 hx)) h1⟩) ?_
  rintro a b ⟨s, t, i, j, _, _, _, _, _, rfl⟩ ⟨s', t', i', j', _, _, _, _, _, rfl⟩ e
  have l1 := (TwoL.of s t).1
  have l2 := (TwoL.of s' t').1
  obtain ⟨e1, e2⟩ := List.append_inj e (l1.trans l2.symm)
  exact Prod.ext e1 e2
def tradedB (m : Int) (l : List (List Int)) : Bool := gmOk m l && decide (m ≤ 6)
theorem isTraded_ev (m : Int) (l : List (List Int)) (hl : l.length ≤ 1048576) (hb : ∀ x ∈ l, x.length ≤ 1048576) : Ev (fun k => impl_isTradedGame.f k m l) (tradedB m l) := by
  unfold impl_isTradedGame.f tradedB
  refine Ev.bind (IsGame_ev m l hl hb) (ev_bool (fun h => ?_) (fun h => ?_))
  · rw [h]; exact Ev.now _
  · rw [h]; exact Ev.now _
theorem eqTrade_ev (a b : List (List Int)) (ha : a.length ≤ 1152921504606) (hax : ∀ x ∈ a, x.length ≤ 1152921504606) (hb : b.length ≤ 1152921504606) (hbx : ∀ x ∈ b, x.length ≤ 1152921504606) : Ev (fun k => laws_eqTrade.f k a b a b) true := by
  unfold laws_eqTrade.f
  exact Ev.bind (eqSS_ev a a ha hax) (ev_pos (by simp) (Ev.bind (eqSS_ev b b hb hbx) (ev_pos (by simp) (Ev.now _))))
theorem mark2_ev (l : List (List Int)) (m : Int) (h0 : 0 ≤ m) (hm : m ≤ 1000000) (hl : l.length ≤ 1048576) (hx : ∀ x ∈ l, x.length ≤ 1048576) : Ev (fun k => laws_markIntSS.f k l m) (totS m l, mkSS m l) := by
  have := markIntSS_l0 l [] m (by simpa using hl) hx h0 (by omega)
  exact this
theorem held2_ev (l : List (List Int)) (m : Int) (h0 : 0 ≤ m) (hm : m ≤ 1000000) (hl : l.length ≤ 1048576) (hx : ∀ x ∈ l, x.length ≤ 1048576) : Ev (fun k => laws_heldIntSS.f k (mkSS m l) m) (totS m l) := heldIntSS_l0 l [] m (by simpa using hl) hx h0 (by omega)
def TrOk (r : List (List Int) × List (List Int) × Bool) : Prop := (r.1.length ≤ 16 ∧ ∀ x ∈ r.1, x.length ≤ 16) ∧ (r.2.1.length ≤ 16 ∧ ∀ x ∈ r.2.1, x.length ≤ 16)
theorem totS_le : ∀ (l : List (List Int)) (m : Int) (n : Nat), l.length ≤ n → (∀ x ∈ l, x.length ≤ 16) → totS m l ≤ m + 16 * n
  | [], m, n, _, _ => by unfold totS; omega
  | x :: xs, m, n, h, hx => by
    rw [List.length_cons] at h
    have := totS_le xs (m + x.length) (n - 1) (by omega) (fun y hy => hx y (List.mem_cons_of_mem _ hy))
    have := hx x (List.mem_cons_self ..)
    unfold totS
    omega
theorem heldTrade_ev (a b : List (List Int)) (ha : a.length ≤ 16) (hax : ∀ x ∈ a, x.length ≤ 16) (hb : b.length ≤ 16) (hbx : ∀ x ∈ b, x.length ≤ 16) : Ev (fun k => laws_heldTrade.f k (mkSS 1 a) (mkSS (totS 1 a) b) 1) (totS (totS 1 a) b) := by
  have h1 := totS_ge a 1
  have h2 := totS_le a 1 16 ha hax
  have h3 := totS_ge b (totS 1 a)
  unfold laws_heldTrade.f
  exact Ev.bind (held2_ev a 1 (by omega) (by omega) (by omega) (fun x hx => Nat.le_trans (hax x hx) (by decide))) (ev_neg (by omega) (Ev.bind (held2_ev b _ (by omega) (by omega) (by omega) (fun x hx => Nat.le_trans (hbx x hx) (by decide))) (ev_neg (by omega) (Ev.now _))))
theorem prT_ok (s t u w : Nat) : TrOk (resT (some (prT s t u w))) := by
  have h : ∀ m : Nat, (setL m).length ≤ 16 := fun m => bitsL_len _ _ _
  refine ⟨⟨by simp [resT, prT], ?_⟩, by simp [resT, prT], ?_⟩
  · intro x hx
    simp only [resT, prT, List.mem_cons, List.not_mem_nil, or_false] at hx
    rcases hx with rfl | rfl <;> exact h _
  · intro x hx
    simp only [resT, prT, List.mem_cons, List.not_mem_nil, or_false] at hx
    rcases hx with rfl | rfl <;> exact h _
def IsPr (o : Option (List (List Int) × List (List Int))) : Prop := ∀ p, o = some p → ∃ s t u w, p = prT s t u w
theorem resT_ok {o : Option (List (List Int) × List (List Int))} (h : IsPr o) : TrOk (resT o) := by
  cases o with
  | none => exact ⟨⟨by simp [resT], by simp [resT]⟩, by simp [resT], by simp [resT]⟩
  | some p => obtain ⟨s, t, u, w, rfl⟩ := h p rfl; exact prT_ok s t u w
theorem inT_ok (g : Nat → Bool) (Q : Nat → Nat → Nat → Nat → Bool) (s t : Nat) (rest : Option (List (List Int) × List (List Int))) (h : IsPr rest) : ∀ l, IsPr (inT g Q s t rest l)
  | [] => h
  | u :: r => by
    unfold inT
    split
    · intro p hp; exact ⟨s, t, u, _, (Option.some.inj hp).symm⟩
    · exact inT_ok g Q s t rest h r
theorem outT_ok (g : Nat → Bool) (Q : Nat → Nat → Nat → Nat → Bool) (O : List Nat) (s : Nat) (rest : Option (List (List Int) × List (List Int))) (h : IsPr rest) : ∀ l, IsPr (outT g Q O s rest l)
  | [] => h
  | t :: r => by
    unfold outT
    split
    · exact inT_ok g Q s t _ (outT_ok g Q O s rest h r) O
    · exact outT_ok g Q O s rest h r
theorem allT_ok (g : Nat → Bool) (Q : Nat → Nat → Nat → Nat → Bool) (O : List Nat) : ∀ l, IsPr (allT g Q O l)
  | [] => fun p hp => by cases hp
  | s :: r => outT_ok g Q O s _ (allT_ok g Q O r) _
def FirstSwapM (m : Int) (l : List (List Int)) : List (List Int) × List (List Int) × Bool := if tradedB m l = true then resT (allT (winB l) swapB (ordL (2 ^ m.toNat)) (ordL (2 ^ m.toNat))) else ([], [], false)
theorem sFirstSwap_ev (m : Int) (l : List (List Int)) (hl : l.length ≤ 1048576) (hb : ∀ x ∈ l, x.length ≤ 1048576) : Ev (fun k => spec_FirstSwap.f k m l) (FirstSwapM m l) := by
  unfold spec_FirstSwap.f FirstSwapM tradedB
  refine Ev.bind (gmGood_ev m l hl hb) (ev_bool (fun h => ?_) (fun h => ?_))
  · rw [h, Bool.true_and]
    obtain ⟨hs, n, rfl, hn⟩ := gmOk_sets h hb
    refine ev_succ ?_
    simp only [spec_FirstSwap.j0]
    by_cases h6 : (n : Int) ≤ 6
    · rw [decide_eq_true h6, if_pos rfl, Int.toNat_natCast]
      have h2 := deSwapR_ev (winB l) n (by omega)
      rw [swapR_eq (winB l) n (by omega)] at h2
      exact ev_neg (by simp; omega) (Ev.bind (gmAllW_ev hl hs) (Ev.bind h2 (Ev.now _)))
    · rw [decide_eq_false h6, if_neg (by decide)]
      exact ev_pos (by simp; omega) (Ev.now _)
  · rw [h, Bool.false_and, if_neg (by decide)]
    refine ev_succ ?_
    simp only [spec_FirstSwap.j0]
    exact ev_pos (by simp) (Ev.now _)
theorem iFirstSwap_ev (m : Int) (l : List (List Int)) (hl : l.length ≤ 1048576) (hb : ∀ x ∈ l, x.length ≤ 1048576) : Ev (fun k => impl_FirstSwap.f k m l) (FirstSwapM m l) := by
  have hT := isTraded_ev m l hl hb
  unfold impl_FirstSwap.f FirstSwapM
  cases h : tradedB m l with
  | true =>
    rw [h] at hT
    rw [if_pos rfl]
    unfold tradedB at h
    rw [Bool.and_eq_true] at h
    obtain ⟨hs, n, rfl, hn⟩ := gmOk_sets h.1 hb
    have h6 : n ≤ 6 := by have := of_decide_eq_true h.2; omega
    rw [Int.toNat_natCast]
    have h2 := firstOf_ev impl_isSwap.f swapB (fun s t u w h => isSwap_eq s t u w h) (winB l) n h6
    refine Ev.bind hT (ev_pos rfl (Ev.bind (votesW_ev hl hs) ?_))
    unfold firstOfSwaps.f
    exact Ev.bind h2 (Ev.now _)
  | false =>
    rw [h] at hT
    rw [if_neg (by decide)]
    exact Ev.bind hT (ev_neg (by decide) (Ev.now _))
theorem FirstSwapM_ok (m : Int) (l : List (List Int)) : TrOk (FirstSwapM m l) := by
  unfold FirstSwapM
  split
  · exact resT_ok (allT_ok _ _ _ _)
  · exact ⟨⟨by simp, by simp⟩, by simp, by simp⟩
theorem FnExactFirstSwap_pure (a0_0 : Int) (l0_1 : List (List Int)) (g0 : I64 a0_0 ∧ ∀ y ∈ l0_1, ∀ z ∈ y, I64 z) (h1 : l0_1.length ≤ 9223372036854775807) (h2 : ∀ x ∈ l0_1, x.length ≤ 9223372036854775807) : ∃ k, laws_FnExactFirstSwap.f k a0_0 l0_1 = some true := by
  refine Ev.rounds ?_
  unfold laws_FnExactFirstSwap.f
  obtain ⟨q, hq, hq2⟩ := szGame_ev a0_0 l0_1 1048576 (by decide) h1 h2
  refine Ev.bind hq ?_
  by_cases h : q < 0
  · exact ev_pos h (Ev.now _)
  refine ev_neg h ?_
  obtain ⟨_, _, _, n1, n2⟩ := hq2 h
  have n3 : ∀ x ∈ l0_1, x.length ≤ 1152921504606 := fun x hx => Nat.le_trans (n2 x hx) (by decide)
  have ht := toGame_ev a0_0 l0_1 (by omega) n3
  have es := sFirstSwap_ev a0_0 l0_1 n1 n2
  have ei := iFirstSwap_ev a0_0 l0_1 n1 n2
  obtain ⟨⟨r1, r2⟩, r3, r4⟩ := FirstSwapM_ok a0_0 l0_1
  generalize FirstSwapM a0_0 l0_1 = r at es ei r1 r2 r3 r4
  obtain ⟨ra, rb, rc⟩ := r
  have h3 := totS_ge ra 1
  have h4 := totS_ge l0_1 1
  have h5 := totS_le ra 1 16 r1 r2
  have h6 := totS_ge rb (totS 1 ra)
  have eq := eqTrade_ev ra rb (by simp only [] at r1; omega) (fun x hx => Nat.le_trans (r2 x hx) (by decide)) (by simp only [] at r3; omega) (fun x hx => Nat.le_trans (r4 x hx) (by decide))
  refine Ev.bind ht (Ev.bind es (Ev.bind ei (Ev.bind eq (ev_pos rfl (ev_pos rfl (Ev.bind (eqGame_ev a0_0 a0_0 l0_1 l0_1 (by omega) n3) (ev_pos (by simp) (Ev.bind (markIntSS_ev l0_1 n1 n2) (ev_neg (by simp only []; omega) ?_)))))))))
  refine Ev.bind (mark2_ev ra 1 (by decide) (by decide) (Nat.le_trans r1 (by decide)) (fun x hx => Nat.le_trans (r2 x hx) (by decide))) ?_
  refine Ev.bind (mark2_ev rb (totS 1 ra) (by omega) (by omega) (Nat.le_trans r3 (by decide)) (fun x hx => Nat.le_trans (r4 x hx) (by decide))) ?_
  exact Ev.bind (heldTrade_ev ra rb r1 r2 r3 r4) (ev_neg (by omega) (ev_pos rfl (Ev.now _)))
end Go.Proofs.Ytaacaifiiedoiaa.Q
end
section
namespace Go.Proofs.Ytaacaifiiedoiaa.Q
open Go.RowKit Go.Proofs.YtaacaifiiedoiaaW.PrintWords Go.Proofs.YtaacaifiiedoiaaW.PrintLast Go.Proofs.YtaacaifiiedoiaaW.PrintMore
set_option linter.unusedVariables false
set_option linter.unusedSimpArgs false
set_option maxRecDepth 100000
section
variable {H : Type} {enc : TypeId × Value → H} {W : World}
theorem opens_ints : Opens enc Try.prog W 71 (Kd.slice 3 (Kd.int .i64)) (fun x => ∀ y ∈ x, I64 y) := opens_slice Try.underlying71 (by kernel_rfl) (opens_int Try.underlying3)
theorem opens_Game : Opens enc Try.prog W 24 (Kd.pair (Kd.int .i64) (Kd.slice 71 (Kd.slice 3 (Kd.int .i64)))) (fun x => I64 x.1 ∧ ∀ y ∈ x.2, ∀ z ∈ y, I64 z) :=
  opens_pair Try.underlying24 (by kernel_rfl) rfl rfl (by kernel_rfl) (by kernel_rfl) (opens_int Try.underlying3) (opens_slice Try.underlying22 (by kernel_rfl) opens_ints)
end
open Go.ChangeShapes Go.WideShapes Go.ChangeAt Go.Deep
section
variable {H : Type} {enc : TypeId × Value → H} {W : World} {r : Reach} {b0 : Nat} {v : Value} {y : DataW H} {p : List MemPlace}
theorem arg_Game (hv : Value.okWide Try.prog W r b0 24 v) (hr : DataW.Trod enc Try.prog W 0 (fun _ => true) true 24 v y p) :
    ∃ a A c l, v = .agg #[.int .i64 a, .slice A (l : List (List Int)).length c] ∧ l.length ≤ c ∧ Kd.C (Kd.slice 3 (Kd.int .i64)) W A l.length l ∧ I64 a ∧ ∀ y ∈ l, ∀ z ∈ y, I64 z := by
  obtain ⟨x, ⟨l⟩, rfl, k, g⟩ := open_struct Try.underlying24 hv hr opens_Game
  obtain ⟨_, _, rfl, rfl, ⟨A, c, rfl, hl, hC⟩⟩ := k
  exact ⟨_, A, c, _, rfl, hl, hC, g⟩
theorem C_inner {w : World} {A : Option Addr} {n : Nat} {xs : List (List Int)} (h : Kd.C (Kd.slice 3 (Kd.int .i64)) w A n xs) : ∀ x ∈ xs, x.length ≤ 9223372036854775807 := fun x hx => by
  obtain ⟨j, hj, rfl⟩ := List.mem_iff_getElem.1 hx
  obtain ⟨ad, _, hc⟩ := h.2.2 (by have := h.1; omega)
  obtain ⟨c, _, ⟨_, _, _, _, hC⟩, _⟩ := hc j _ (List.getElem?_eq_getElem hj)
  exact hC.2.1
end
end Go.Proofs.Ytaacaifiiedoiaa.Q
end
section
namespace Go.Proofs.Ytaacaifiiedoiaa.fnExactFirstSwap
open Go.ChangeShapes Go.WideShapes Go.ChangeAt Go.RowKit Go.Proofs.Ytaacaifiiedoiaa.Q
open Go.ChangeMaps (open_string shut_string)
set_option linter.unusedVariables false
theorem own : ownKnob Try.prog.godebug = none := by kernel_rfl
theorem laidOut : laidOutB Try.prog = true := by kernel_rfl
set_option maxRecDepth 100000 in
theorem lifted (os : Os) (started : os.Started) (H : Type) (enc : TypeId × Value → H) :
    ReturnsInHanded {} Try.checked os 8 .any (Rows.fnExactFirstSwapSpec.pre6 enc Try.prog Try.f8 Rows.fnExactFirstSwapRow.domain false) (Rows.fnExactFirstSwapSpec.post enc Try.prog Try.f8 false true false false) := by
  refine returnsInHanded_of_change_sized (C := Try.checked) own started (by kernel_rfl) Try.func8
    (ChangeSpec.witness6 (enc := enc) (C := Try.checked) false ⟨#[], #[.agg #[.int .i64 0, .slice none 0 0]], []⟩ 8 (by kernel_rfl) (by kernel_rfl) (by kernel_rfl) (by kernel_rfl)) ?_
  intro W base args ds gs before hval0 hW hcnd hsz0 _
  have hsz : (DataW.weightsEach Try.prog (Try.f8.params.toList ++ Rows.fnExactFirstSwapSpec.plain.varTypes Try.prog) (ds ++ gs)).all (· ≤ reachBytes) = true := hsz0
  have hval : ∀ (j : Nat) t v, Try.f8.params[j]? = some t → args[j]? = some v → Value.okWide Try.prog W .any base t v := hval0
  have hW' := hW
  obtain ⟨p, q, hA0, hV, rfl, hfz, hnd⟩ := hW
  have hA : DataW.TrodAll enc Try.prog W 0 (fun _ => true) true Try.f8.params.toList args.toList ds p := hA0
  rw [Try.params8] at hA hval hsz
  obtain ⟨v0, vs0, d0, ds0, p0, q0, hargs, rfl, rfl, h0, r0⟩ := trodAll_cons hA
  obtain ⟨rfl, rfl, rfl⟩ := trodAll_nil r0
  obtain rfl : args = #[v0] := by cases args; simp_all
  obtain ⟨rfl, rfl⟩ := trodVars_none hV
  have k0 := h0
  have lt0 : ∀ x ∈ p0, x.block < W.heap.size := by obtain ⟨m, hm⟩ := k0; exact DataW.trod_lt m _ _ _ hm
  obtain ⟨a0_0, A0_1, c0_1, l0_1, rfl, hc0_1, hr0_1, g0⟩ := arg_Game (hval 0 24 v0 rfl rfl) h0
  clear hA0 hval0 hsz0 hsz
  obtain ⟨k, hk⟩ := FnExactFirstSwap_pure a0_0 l0_1 g0 hr0_1.2.1 (C_inner hr0_1)
  refine (laws_FnExactFirstSwap.calls k a0_0 A0_1 c0_1 l0_1 true W hr0_1 hc0_1 hk).mono fun e W' ⟨he, bel⟩ => ?_
  subst he
  exact ⟨_, rfl, _, _, _, [], _, [], hW', trodAll_mk1 (shut_bool Try.underlying4 _), (trodAll_cons_mk (Below.trod laidOut (by kernel_rfl) (of_decide_eq_true (by kernel_rfl)) k0 bel lt0) trodAll_mk0), rfl, bel.frame _, fun h => by cases h⟩
theorem over : Rows.fnExactFirstSwapRow.holds Try.pinned (OpenSpec.ofChange Rows.fnExactFirstSwapSpec) :=
  OpenClaim.holds_of_wide 8 Try.f8 rfl rfl rfl rfl rfl rfl rfl ⟨rfl, rfl, rfl, rfl, rfl⟩ rfl rfl rfl rfl rfl (by kernel_rfl) Try.func8 (by kernel_rfl)
    (of_decide_eq_true (by kernel_rfl)) (by unfold Func.isWrapper; first | (rw [if_pos (by decide +kernel)]; kernel_rfl) | (rw [if_neg (by decide +kernel)]; exact ⟨rfl, rfl⟩))
    (fun os started H enc _ => lifted os started H enc)
theorem proved : Rows.FnExactFirstSwapSaid := over
end Go.Proofs.Ytaacaifiiedoiaa.fnExactFirstSwap
namespace Go.Proofs.Ytaacaifiiedoiaa
theorem fnExactFirstSwap_holds : Rows.FnExactFirstSwapSaid := fnExactFirstSwap.proved
end Go.Proofs.Ytaacaifiiedoiaa
end
#print axioms Go.Proofs.Ytaacaifiiedoiaa.fnExactFirstSwap_holds

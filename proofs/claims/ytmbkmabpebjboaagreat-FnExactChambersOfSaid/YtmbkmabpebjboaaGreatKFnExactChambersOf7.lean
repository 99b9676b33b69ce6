/- Part 7 of the proof of FnExactChambersOf: what it leans on (no condition). -/
import Derived.Test.YtmbkmabpebjboaaGreatKFnExactChambersOf6
section
namespace Go.Proofs.YtmbkmabpebjboaaGreat.Q
open Go.RowKit Go.Proofs.YtmbkmabpebjboaaGreatW.PrintWords Go.Proofs.YtmbkmabpebjboaaGreatW.PrintLast Go.Proofs.YtmbkmabpebjboaaGreatW.PrintMore
set_option linter.unusedVariables false
set_option linter.unusedSimpArgs false
theorem chk_K3 : ∀ k, k < 4 → chkA k = true := by decide +kernel
def rowK (a : Nat) : Bool := (monoK 4).all fun b => !(a &&& b == a) || chkK 5 (a + b * 2 ^ 2 ^ 4)
set_option maxRecDepth 100000 in
theorem ck_0 : (((monoK 4).drop 0).take 14).all rowK = true := by decide +kernel
set_option maxRecDepth 100000 in
theorem ck_1 : (((monoK 4).drop 14).take 14).all rowK = true := by decide +kernel
set_option maxRecDepth 100000 in
theorem ck_2 : (((monoK 4).drop 28).take 14).all rowK = true := by decide +kernel
set_option maxRecDepth 100000 in
theorem ck_3 : (((monoK 4).drop 42).take 14).all rowK = true := by decide +kernel
set_option maxRecDepth 100000 in
theorem ck_4 : (((monoK 4).drop 56).take 14).all rowK = true := by decide +kernel
set_option maxRecDepth 100000 in
theorem ck_5 : (((monoK 4).drop 70).take 14).all rowK = true := by decide +kernel
set_option maxRecDepth 100000 in
theorem ck_6 : (((monoK 4).drop 84).take 14).all rowK = true := by decide +kernel
set_option maxRecDepth 100000 in
theorem ck_7 : (((monoK 4).drop 98).take 14).all rowK = true := by decide +kernel
set_option maxRecDepth 100000 in
theorem ck_8 : (((monoK 4).drop 112).take 14).all rowK = true := by decide +kernel
set_option maxRecDepth 100000 in
theorem ck_9 : (((monoK 4).drop 126).take 14).all rowK = true := by decide +kernel
set_option maxRecDepth 100000 in
theorem ck_10 : (((monoK 4).drop 140).take 14).all rowK = true := by decide +kernel
set_option maxRecDepth 100000 in
theorem ck_11 : (((monoK 4).drop 154).take 14).all rowK = true := by decide +kernel
theorem all_cut {α : Type} (p : α → Bool) (l : List α) (n m : Nat) (h1 : ((l.drop n).take m).all p = true) (h2 : (l.drop (n + m)).all p = true) : (l.drop n).all p = true := by
  rw [← List.take_append_drop m (l.drop n), List.all_append, h1, List.drop_drop, h2]; rfl
theorem chk_K4 : chkA 4 = true := by
  have h12 : ((monoK 4).drop 168).all rowK = true := by decide +kernel
  have h11 := all_cut rowK (monoK 4) 154 14 ck_11 h12
  have h10 := all_cut rowK (monoK 4) 140 14 ck_10 h11
  have h9 := all_cut rowK (monoK 4) 126 14 ck_9 h10
  have h8 := all_cut rowK (monoK 4) 112 14 ck_8 h9
  have h7 := all_cut rowK (monoK 4) 98 14 ck_7 h8
  have h6 := all_cut rowK (monoK 4) 84 14 ck_6 h7
  have h5 := all_cut rowK (monoK 4) 70 14 ck_5 h6
  have h4 := all_cut rowK (monoK 4) 56 14 ck_4 h5
  have h3 := all_cut rowK (monoK 4) 42 14 ck_3 h4
  have h2 := all_cut rowK (monoK 4) 28 14 ck_2 h3
  have h1 := all_cut rowK (monoK 4) 14 14 ck_1 h2
  have h0 := all_cut rowK (monoK 4) 0 14 ck_0 h1
  exact h0
theorem chk_all : ∀ k, k < 5 → chkA k = true := fun k hk => by
  by_cases h : k < 4
  · exact chk_K3 k h
  · obtain rfl : k = 4 := by omega
    exact chk_K4
theorem maskN_ge : ∀ (l : List Int) (m : Nat), m ≤ maskN m l
  | [], _ => Nat.le_refl _
  | x :: l, m => Nat.le_trans Nat.left_le_or (maskN_ge l _)
theorem winB_mon (l : List (List Int)) (N : Nat) : MonG (winB l) N := fun m m' _ _ e h => by
  unfold winB at *
  rw [List.any_eq_true] at *
  obtain ⟨s, hs, h⟩ := h
  refine ⟨s, hs, ?_⟩
  rw [beq_iff_eq] at *
  rw [← h, ← Nat.and_assoc, e]
theorem winB_zero (l : List (List Int)) (h : ∀ s ∈ l, s ≠ []) : winB l 0 = false := by
  unfold winB
  rw [List.any_eq_false]
  intro s hs e
  rw [beq_iff_eq, Nat.zero_and] at e
  match s, h s hs with
  | x :: s, _ =>
    have h1 := maskN_ge s (0 ||| 2 ^ x.toNat)
    have h2 := Nat.two_pow_pos x.toNat
    rw [Nat.zero_or] at h1
    rw [maskN, Nat.zero_or] at e
    omega
theorem winB_all (l : List (List Int)) (n : Nat) (hl : l ≠ []) (h : ∀ s ∈ l, maskN 0 s < 2 ^ n) : winB l (2 ^ n - 1) = true := by
  unfold winB
  rw [List.any_eq_true]
  obtain ⟨s, hs⟩ := List.exists_mem_of_ne_nil l hl
  refine ⟨s, hs, ?_⟩
  rw [beq_iff_eq, Nat.and_comm, Nat.and_two_pow_sub_one_eq_mod]
  exact Nat.mod_eq_of_lt (h s hs)
def comB (g : Nat → Bool) (n i j : Nat) : Bool := allB (wsB g i j) (2 ^ n) 0 || allB (wsB g j i) (2 ^ n) 0
theorem deUnlike_ev (g : Nat → Bool) (n i j : Nat) (hn : n ≤ 9) (hi : i < n) (hj : j < n) : Ev (fun k => spec_deUnlike.f k (tabB g (2 ^ n)) (i : Int) (j : Int)) (!comB g n i j) := by
  unfold spec_deUnlike.f comB
  refine Ev.bind (deWorth_ev g n i j hn hi hj) (ev_bool (fun h => ev_eqv (Ev.now _) (by rw [h]; rfl)) (fun h => ?_))
  exact Ev.bind (deWorth_ev g n j i hn hj hi) (ev_eqv (Ev.now _) (by rw [h, Bool.false_or]))
def comI (g : Nat → Bool) (n i : Nat) : Bool := (List.range i).all fun j => comB g n i j
def comA (g : Nat → Bool) (n : Nat) : Bool := (List.range n).all fun i => comI g n i
theorem deComplete_ev (g : Nat → Bool) (n : Nat) (hn : n ≤ 9) : Ev (fun k => spec_deComplete.f k (tabB g (2 ^ n)) (n : Int)) (comA g n) := by
  unfold spec_deComplete.f
  have := ev_range n (fun k i => spec_deComplete.l0 k (tabB g (2 ^ n)) (n : Int) (i : Int)) (fun i => ((List.range n).drop i).all fun i => comI g n i) ?_ ?_ 0 (Nat.zero_le _)
  · exact this
  · refine ev_succ ?_
    simp only [spec_deComplete.l0]
    exact ev_neg (Int.lt_irrefl _) (ev_eqv (Ev.now _) (by rw [List.drop_eq_nil_of_le (by simp)]; rfl))
  · intro i hi ih
    refine ev_succ ?_
    simp only [spec_deComplete.l0]
    refine ev_pos (by omega) ?_
    have := ev_range i (fun k j => spec_deComplete.l1 k (tabB g (2 ^ n)) (n : Int) (i : Int) (j : Int)) (fun j => ((List.range i).drop j).all (fun j => comB g n i j) && ((List.range n).drop (i + 1)).all fun i => comI g n i) ?_ ?_ 0 (Nat.zero_le _)
    · rw [range_drop n i hi, List.all_cons]
      exact this
    · refine ev_succ ?_
      simp only [spec_deComplete.l1]
      refine ev_neg (Int.lt_irrefl _) ?_
      rw [wrap_succ hi (by omega)]
      exact ev_eqv ih (by rw [show (List.range i).drop i = [] from List.drop_eq_nil_of_le (by simp)]; rfl)
    · intro j hj ih2
      refine ev_succ ?_
      simp only [spec_deComplete.l1]
      refine ev_pos (by omega) (Ev.bind (deUnlike_ev g n i j hn hi (by omega)) ?_)
      rw [wrap_succ hj (by omega), range_drop i j hj, List.all_cons]
      cases h : comB g n i j with
      | true => exact ev_neg (by decide) (ev_eqv ih2 (by rw [Bool.true_and]))
      | false => exact ev_pos (by decide) (ev_eqv (Ev.now _) rfl)
theorem find2_ev (n : Nat) (l : List (List Int)) (hl : l.length ≤ 1048576) (hs : SetsOk (n : Int) l) (hn : 1 ≤ n ∧ n ≤ 5) (hne : l ≠ []) (hs0 : ∀ s ∈ l, s ≠ []) :
    (comA (winB l) n = true → ∃ p : Int × List Int, (p.2.length ≤ 9 ∧ ∀ w ∈ p.2, 0 ≤ w ∧ w ≤ 5000) ∧ Ev (fun k => spec_weFind.f k (n : Int) l) (p.1, p.2, true) ∧ Ev (fun k => impl_votes_found.f k (n : Int) (tabB (winB l) (2 ^ n))) (p.1, p.2, true) ∧ Ev (fun k => impl_votes_firstTrade.f k (n : Int) (tabB (winB l) (2 ^ n))) ([], [], false)) ∧
    (comA (winB l) n = false → ∃ a b, Ev (fun k => spec_weFind.f k (n : Int) l) (0, [], false) ∧ Ev (fun k => impl_votes_found.f k (n : Int) (tabB (winB l) (2 ^ n))) (0, [], false) ∧ Ev (fun k => impl_votes_firstTrade.f k (n : Int) (tabB (winB l) (2 ^ n))) (a, b, true)) := by
  have hgm : Ev (fun k => spec_gmAll.f k (n : Int) l) (tabB (winB l) (2 ^ n)) := by
    unfold spec_gmAll.f
    exact Ev.bind (gmWins_ev (n : Int) l hl hs) (ev_eqv (Ev.now _) (by unfold winT; rw [Int.toNat_natCast]))
  have h2 := firstOf_ev (fun _ _ _ _ => some true) (fun _ _ _ _ => true) (fun _ _ _ _ _ => rfl) (winB l) n (by omega)
  have hcm := deComplete_ev (winB l) n (by omega)
  refine ⟨fun hcom => ?_, fun hcom => ?_⟩
  · have hpair : ∀ i j, i < n → j < i → comB (winB l) n i j = true := fun i j hi hj => by
      have := List.all_eq_true.1 hcom i (List.mem_range.2 hi)
      exact List.all_eq_true.1 this j (List.mem_range.2 hj)
    obtain ⟨W, q, hW, hlen, hq1, hq2, hq3, hg⟩ := hasW chk_all (winB l) n hn (winB_mon l _) (winB_zero l hs0) (winB_all l n hne (fun s hs' => maskN_lt2 n s 0 (Nat.two_pow_pos _) (fun x hx => by
        have h1 := (hs.2 s hs').1
        have := isSetB_mem h1 x hx
        omega)))
      (fun i j hi hj => by
        rcases Nat.lt_trichotomy i j with h | h | h
        · have := hpair j i hj h
          unfold comB at this
          rw [Bool.or_eq_true] at this
          exact this.symm
        · subst h
          refine .inl ?_
          unfold allB wsB
          rw [List.all_eq_true]
          intro x _
          cases winB l (0 + x + 2 ^ i) <;> simp
        · have := hpair i j hi h
          unfold comB at this
          rwa [Bool.or_eq_true] at this)
    subst hlen
    have htab : tabB (winB l) (2 ^ W.length) = tabB (gW W q) (2 ^ W.length) := tabB_congr hg
    have h2 := firstOf_ev (fun _ _ _ _ => some true) (fun _ _ _ _ => true) (fun _ _ _ _ _ => rfl) (gW W q) W.length (by omega)
    rw [no_trade] at h2
    rw [htab] at hgm ⊢
    have h3 : Ev (fun k => impl_votes_firstTrade.f k (W.length : Int) (tabB (gW W q) (2 ^ W.length))) ([], [], false) := by
      unfold impl_votes_firstTrade.f firstOfAny.f
      exact Ev.bind h2 (Ev.now _)
    have hnn := (Int.toNat_of_nonneg (show 0 ≤ W.foldr (fun a c => a + c) 0 by omega)).symm
    obtain ⟨p, ⟨p1, p2⟩, es, ei⟩ := find_ev W hW q hq1 hq2 hn.1 _ hnn (by omega) l ((W.foldr (fun a c => a + c) 0).toNat - 1) 1 (by omega)
    refine ⟨p, ⟨by omega, p2⟩, ?_, ?_, h3⟩
    · unfold spec_weFind.f
      exact Ev.bind hgm (Ev.bind (deCompleteW_ev W q W.length (by omega)) (ev_pos rfl es))
    · unfold impl_votes_found.f
      exact Ev.bind h3 (ev_neg (by simp) (Ev.bind ei (Ev.now _)))
  · rw [hcom] at hcm
    have hpair : ∃ i j, i < n ∧ j < n ∧ comB (winB l) n i j = false := by
      unfold comA at hcom
      rw [List.all_eq_false] at hcom
      obtain ⟨i, hi, h⟩ := hcom
      have hi := List.mem_range.1 hi
      have h := eq_false_of_ne_true h
      unfold comI at h
      rw [List.all_eq_false] at h
      obtain ⟨j, hj, h⟩ := h
      have hj := List.mem_range.1 hj
      exact ⟨i, j, hi, by omega, eq_false_of_ne_true h⟩
    obtain ⟨i, j, hi, hj, hij⟩ := hpair
    unfold comB at hij
    rw [Bool.or_eq_false_iff] at hij
    have hne := trade_unlike (winB l) n i j hn.2 hi hj (by rw [hij.1]; decide) (by rw [hij.2]; decide)
    obtain ⟨c, hcc⟩ := Option.ne_none_iff_exists'.1 hne
    rw [hcc] at h2
    have h3 : Ev (fun k => impl_votes_firstTrade.f k (n : Int) (tabB (winB l) (2 ^ n))) (c.1, c.2, true) := by
      unfold impl_votes_firstTrade.f firstOfAny.f
      exact Ev.bind h2 (Ev.now _)
    refine ⟨c.1, c.2, ?_, ?_, h3⟩
    · unfold spec_weFind.f
      exact Ev.bind hgm (Ev.bind hcm (ev_neg (by decide) (Ev.now _)))
    · unfold impl_votes_found.f
      exact Ev.bind h3 (ev_pos rfl (Ev.now _))
end Go.Proofs.YtmbkmabpebjboaaGreat.Q
end

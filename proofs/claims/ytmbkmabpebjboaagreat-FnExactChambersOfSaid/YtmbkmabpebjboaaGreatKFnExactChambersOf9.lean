/- The row of the law FnExactChambersOf: for every input it returns true, and its arguments read afterwards as before. No condition: FnExactChambersOf_pure says that its pure form answers true at every input, and laws_FnExactChambersOf.calls that the machine comes to just that. -/
import Derived.Test.YtmbkmabpebjboaaGreatKFnExactChambersOf8
import Derived.Test.YtmbkmabpebjboaaGreatRows
import Derived.Laws.StructEq
import Derived.Laws.CopyOwn
import Derived.Laws.Tables
import Derived.Lib.SliceRun
section
namespace Go.Proofs.YtmbkmabpebjboaaGreat.Q
open Go.RowKit Go.Proofs.YtmbkmabpebjboaaGreatW.PrintWords Go.Proofs.YtmbkmabpebjboaaGreatW.PrintLast Go.Proofs.YtmbkmabpebjboaaGreatW.PrintMore
set_option linter.unusedVariables false
set_option linter.unusedSimpArgs false
theorem ne_K : ∀ n : Nat, n < 5 → 1 ≤ n → ∀ t ∈ tabsK n, leastK t ≠ [] ∧ ∀ s ∈ leastK t, s ≠ [] := by decide +kernel
theorem in_K : ∀ n : Nat, n < 5 → 1 ≤ n → ((monoK n).all fun c => c.testBit 0 || !c.testBit (2 ^ n - 1) || ((tabsK n).map codeK).contains c) = true := by decide +kernel
theorem wsB_congr {f g : Nat → Bool} {n i j m : Nat} (hn : n ≤ 9) (hi : i < n) (hj : j < n) (hm : m < 2 ^ n) (h : ∀ x, x < 2 ^ n → f x = g x) : wsB f i j m = wsB g i j m := by
  unfold wsB
  cases e1 : bitB m i with
  | true => rfl
  | false =>
    cases e2 : bitB m j with
    | true => rfl
    | false => rw [h _ (add_lt m j n hn hm hj e2), h _ (add_lt m i n hn hm hi e1)]
theorem allB_congr {p q : Nat → Bool} {N : Nat} (h : ∀ m, m < N → p m = q m) : allB p N 0 = allB q N 0 := by
  unfold allB
  rw [Bool.eq_iff_iff, List.all_eq_true, List.all_eq_true]
  refine forall_congr' fun m => ⟨fun h1 hm => ?_, fun h1 hm => ?_⟩
  · have := List.mem_range.1 hm; rw [← h (0 + m) (by omega)]; exact h1 hm
  · have := List.mem_range.1 hm; rw [h (0 + m) (by omega)]; exact h1 hm
theorem comA_congr {f g : Nat → Bool} {n : Nat} (hn : n ≤ 9) (h : ∀ x, x < 2 ^ n → f x = g x) : comA f n = comA g n := by
  have h1 : ∀ i j, i < n → j < n → comB f n i j = comB g n i j := fun i j hi hj => by
    unfold comB
    rw [allB_congr (fun m hm => wsB_congr hn hi hj hm h), allB_congr (fun m hm => wsB_congr hn hj hi hm h)]
  unfold comA
  rw [Bool.eq_iff_iff, List.all_eq_true, List.all_eq_true]
  have key : ∀ i, i ∈ List.range n → (comI f n i = comI g n i) := fun i hi => by
    have hi := List.mem_range.1 hi
    unfold comI
    rw [Bool.eq_iff_iff, List.all_eq_true, List.all_eq_true]
    refine forall_congr' fun j => ⟨fun h2 hj => ?_, fun h2 hj => ?_⟩
    · have := List.mem_range.1 hj; rw [← h1 i j hi (by omega)]; exact h2 hj
    · have := List.mem_range.1 hj; rw [h1 i j hi (by omega)]; exact h2 hj
  exact forall_congr' fun i => ⟨fun h2 hi => key i hi ▸ h2 hi, fun h2 hi => (key i hi).symm ▸ h2 hi⟩
theorem encT_congr {f g : Nat → Bool} : ∀ {N : Nat}, (∀ x, x < N → f x = g x) → encT f N = encT g N
  | 0, _ => rfl
  | N + 1, h => by rw [encT, encT, encT_congr (fun x hx => h x (by omega)), h N (by omega)]
theorem codeK_tab (g : Nat → Bool) (N : Nat) : codeK (tabB g N) = encT g N := by
  unfold codeK
  rw [tabB_len]
  refine encT_congr fun x hx => ?_
  rw [List.getD_eq_getElem?_getD, List.getElem?_eq_getElem (by rw [tabB_len]; exact hx), tabB_get]; rfl
theorem comT_tab (g : Nat → Bool) (n : Nat) (hn : n ≤ 9) : comT n (tabB g (2 ^ n)) = comA g n := by
  unfold comT
  refine comA_congr hn fun x hx => ?_
  rw [List.getD_eq_getElem?_getD, List.getElem?_eq_getElem (by rw [tabB_len]; exact hx), tabB_get]; rfl
theorem covT_tab (f g : Nat → Bool) (N : Nat) : covT (tabB f N) (tabB g N) = decide (encT g N &&& encT f N = encT f N) := by
  have hd : ∀ (h : Nat → Bool) i, i < N → (tabB h N).getD i false = h i := fun h i hi => by
    rw [List.getD_eq_getElem?_getD, List.getElem?_eq_getElem (by rw [tabB_len]; exact hi), tabB_get]; rfl
  rw [Bool.eq_iff_iff, decide_eq_true_eq]
  unfold covT
  rw [tabB_len, List.all_eq_true]
  constructor
  · intro h
    refine Nat.eq_of_testBit_eq fun i => ?_
    rw [Nat.testBit_and, encT_bit, encT_bit]
    by_cases hi : i < N
    · have := h i (List.mem_range.2 hi)
      rw [hd f i hi, hd g i hi] at this
      revert this
      cases f i <;> cases g i <;> simp
    · simp [hi]
  · intro h i hi
    have hi := List.mem_range.1 hi
    rw [hd f i hi, hd g i hi]
    have := congrArg (fun x => Nat.testBit x i) h
    simp only [Nat.testBit_and, encT_bit, hi, decide_true, Bool.true_and] at this
    revert this
    cases f i <;> cases g i <;> simp
def tbS (n : Nat) (s : List (List Int)) : Nat := encT (winB s) (2 ^ n)
def chP (n w : Nat) (s : List (List Int)) : Bool := decide (tbS n s &&& w = w) && comA (winB s) n
theorem winT_nat (n : Nat) (l : List (List Int)) : winT n l = tabB (winB l) (2 ^ n) := by unfold winT; rw [Int.toNat_natCast]
theorem chG_eq (n : Nat) (hn : n ≤ 9) (l : List (List Int)) : chG n (winT n l) = (gamesK n).filter (chP n (tbS n l)) := by
  unfold chG
  refine List.filter_congr fun s _ => ?_
  rw [winT_nat, winT_nat]
  unfold okT chP
  rw [covT_tab, comT_tab _ _ hn]; rfl
theorem encT_ones : ∀ N, encT (fun _ => true) N = 2 ^ N - 1
  | 0 => rfl
  | N + 1 => by have := Nat.two_pow_pos N; rw [encT, if_pos rfl, encT_ones N, Nat.pow_succ]; omega
theorem enc_full {c N : Nat} (h : c < 2 ^ N) : (2 ^ N - 1) &&& c = c := by
  rw [Nat.and_comm, Nat.and_two_pow_sub_one_eq_mod, Nat.mod_eq_of_lt h]
def chR (n : Nat) (l : List (List Int)) : List (List (List Int)) := chL (tbS n) (tbS n l) (2 ^ 2 ^ n - 1) ((gamesK n).filter (chP n (tbS n l)))
theorem chR_mem (n : Nat) (l : List (List Int)) : ∀ s ∈ chR n l, s ∈ gamesK n ∧ comA (winB s) n = true := by
  have key : ∀ m r, chF (tbS n) (tbS n l) ((gamesK n).filter (chP n (tbS n l))) m (2 ^ 2 ^ n - 1) = some r → ∀ s ∈ r, s ∈ gamesK n ∧ comA (winB s) n = true := fun m r h s hs => by
    have := List.mem_filter.1 ((chF_mem _ _ _ _ _ _ h).1 s hs)
    refine ⟨this.1, ?_⟩
    have h2 := this.2
    unfold chP at h2
    rw [Bool.and_eq_true] at h2
    exact h2.2
  intro s hs
  unfold chR chL at hs
  cases h1 : chF (tbS n) (tbS n l) ((gamesK n).filter (chP n (tbS n l))) 1 (2 ^ 2 ^ n - 1) with
  | some r => rw [h1] at hs; exact key 1 r h1 s hs
  | none =>
    rw [h1] at hs
    cases h2 : chF (tbS n) (tbS n l) ((gamesK n).filter (chP n (tbS n l))) 2 (2 ^ 2 ^ n - 1) with
    | some r => rw [h2] at hs; exact key 2 r h2 s hs
    | none => rw [h2] at hs; cases hs
theorem chR_len (n : Nat) (l : List (List Int)) : (chR n l).length ≤ 2 := by
  unfold chR chL
  cases h1 : chF (tbS n) (tbS n l) ((gamesK n).filter (chP n (tbS n l))) 1 (2 ^ 2 ^ n - 1) with
  | some r => have := (chF_mem _ _ _ _ _ _ h1).2; dsimp only; omega
  | none =>
    cases h2 : chF (tbS n) (tbS n l) ((gamesK n).filter (chP n (tbS n l))) 2 (2 ^ 2 ^ n - 1) with
    | some r => have := (chF_mem _ _ _ _ _ _ h2).2; dsimp only [Option.getD_some]; omega
    | none => exact Nat.zero_le _
section
variable (n : Nat) (hn : 1 ≤ n ∧ n < 5) (l : List (List Int)) (hl : l.length ≤ 1048576) (hs : SetsOk (n : Int) l) (hne : l ≠ []) (hs0 : ∀ s ∈ l, s ≠ [])
include hn hs hne hs0
theorem ch_some : chF (tbS n) (tbS n l) ((gamesK n).filter (chP n (tbS n l))) 1 (2 ^ 2 ^ n - 1) ≠ none ∨ chF (tbS n) (tbS n l) ((gamesK n).filter (chP n (tbS n l))) 2 (2 ^ 2 ^ n - 1) ≠ none := by
  have hm := mono_mem n (winB l) (winB_mon l _)
  have h1 := List.all_eq_true.1 (in_K n hn.2 hn.1) _ hm
  rw [encT_bit, encT_bit, winB_zero l hs0, winB_all l n hne (fun s hs' => maskN_lt2 n s 0 (Nat.two_pow_pos _) (fun x hx => by
    have h1 := (hs.2 s hs').1
    have := isSetB_mem h1 x hx
    omega))] at h1
  have hpos := Nat.two_pow_pos n
  rw [decide_eq_true (show 2 ^ n - 1 < 2 ^ n by omega)] at h1
  simp only [Bool.and_false, Bool.true_and, Bool.not_true, Bool.or_false, Bool.false_or, List.contains_iff_mem, List.mem_map] at h1
  obtain ⟨t, ht, hc⟩ := h1
  have hmem : ∀ t ∈ tabsK n, leastK t ∈ gamesK n ∧ tbS n (leastK t) = codeK t ∧ comA (winB (leastK t)) n = comT n t := fun t ht => by
    have hw := win_K n hn.2 hn.1 t ht
    rw [winT_nat] at hw
    refine ⟨(sortL_perm lexG _).mem_iff.2 (List.mem_map.2 ⟨t, ht, rfl⟩), ?_, ?_⟩
    · unfold tbS; rw [← codeK_tab, hw]
    · rw [← comT_tab _ _ (by omega), hw]
  have hin : ∀ t ∈ tabsK n, codeK t &&& tbS n l = tbS n l → comT n t = true → leastK t ∈ (gamesK n).filter (chP n (tbS n l)) := fun t ht h1 h2 => by
    obtain ⟨a, b, c⟩ := hmem t ht
    refine List.mem_filter.2 ⟨a, ?_⟩
    unfold chP
    rw [b, c, h2, decide_eq_true h1]; rfl
  have hfull : (2 ^ 2 ^ n - 1) &&& tbS n l = tbS n l := enc_full (encT_lt _ _)
  have hfu : ∀ t ∈ tabsK n, (2 ^ 2 ^ n - 1) &&& tbS n (leastK t) = codeK t := fun t ht => by have h3 := (hmem t ht).2.1; rw [h3]; exact enc_full (by rw [← h3]; exact encT_lt _ _)
  have hd := dim_K n hn.2 hn.1
  unfold dimB dimC at hd
  have hd := List.all_eq_true.1 hd _ (List.mem_map.2 ⟨t, ht, rfl⟩)
  cases h2 : comT n t with
  | true =>
    refine .inl (chF_one _ _ _ _ (leastK t) (hin t ht (by rw [hc]; exact Nat.and_self _) h2) ?_)
    rw [hfu t ht, hc]; rfl
  | false =>
    rw [h2] at hd
    simp only [Bool.false_or, List.any_eq_true, List.mem_map, Bool.and_eq_true, beq_iff_eq, Bool.not_eq_true', beq_eq_false_iff_ne] at hd
    obtain ⟨_, ⟨a, ha, rfl⟩, ⟨ca, cc⟩, _, ⟨b, hb, rfl⟩, ⟨cb, hab⟩, cab⟩ := hd
    dsimp only at ca cc cb hab cab
    rw [hc] at cc cab
    refine .inr (chF_two _ _ _ _ (leastK a) (leastK b) (hin a ha (by rw [Nat.and_comm]; exact cc) ca) (hin b hb (by show codeK b &&& encT (winB l) (2 ^ n) = encT (winB l) (2 ^ n); rw [← cab, Nat.and_comm (codeK a), ← Nat.and_assoc, Nat.and_self]) cb) (fun e => hab ?_) ?_)
    · rw [← (hmem a ha).2.1, ← (hmem b hb).2.1, e]
    · rw [hfu a ha, (hmem b hb).2.1]; exact cab
include hl
theorem chNeeded_ev : Ev (fun k => spec_chNeeded.f k n l) ((chR n l).map (mkG n)) := by
  have h4 : 2 ^ n ≤ 16 := Nat.pow_le_pow_right (n := 2) (by decide) (show n ≤ 4 by omega)
  have hgm : ∀ s : List (List Int), s.length ≤ 1048576 → SetsOk (n : Int) s → Ev (fun k => spec_gmAll.f k (n : Int) s) (tabB (winB s) (2 ^ n)) := fun s h1 h2 => by
    unfold spec_gmAll.f
    exact Ev.bind (gmWins_ev (n : Int) s h1 h2) (ev_eqv (Ev.now _) (winT_nat n s))
  unfold spec_chNeeded.f
  refine ev_pos (by omega) (Ev.bind (chGames_ev hn l hl hs) (Ev.bind (hgm l hl hs) ?_))
  rw [chG_eq n (by omega), Int.toNat_natCast]
  have hlen : ((gamesK n).filter (chP n (tbS n l))).length ≤ 1000000 := by
    refine Nat.le_trans (List.length_filter_le _ _) ?_
    unfold gamesK
    rw [(sortL_perm lexG _).length_eq, List.length_map]
    exact (len_K n hn.2 hn.1).1
  refine ev_pos (by rw [List.length_map]; exact hlen) ?_
  have hev := fun m => chLook_ev n (2 ^ n) (by omega) (winB l) ((gamesK n).filter (chP n (tbS n l))) (fun s hs => by
    obtain ⟨a, b⟩ := gamesK_sets hn (List.mem_filter.1 hs).1
    exact hgm s a b) m 0 (fun _ => true) [] (Nat.zero_le _)
  have hrep : List.replicate (2 ^ n) true = tabB (fun _ => true) (2 ^ n) := (List.eq_replicate_iff.2 ⟨tabB_len _ _, fun b hb => by unfold tabB at hb; obtain ⟨_, _, rfl⟩ := List.mem_map.1 hb; rfl⟩).symm
  simp only [List.drop_zero, encT_ones, List.nil_append] at hev
  have hsome := ch_some n hn l hs hne hs0
  simp only [chNd]
  rw [hrep]
  unfold chR chL
  have e1 := hev 1
  change Ev _ (match chF (tbS n) (tbS n l) _ 1 _ with | some r => _ | none => _) at e1
  cases h1 : chF (tbS n) (tbS n l) ((gamesK n).filter (chP n (tbS n l))) 1 (2 ^ 2 ^ n - 1) with
  | some r =>
    rw [h1] at e1
    exact Ev.bind e1 (ev_pos rfl (Ev.now _))
  | none =>
    rw [h1] at e1 hsome
    refine Ev.bind e1 (ev_neg (by simp) ?_)
    have e2 := hev 2
    change Ev _ (match chF (tbS n) (tbS n l) _ 2 _ with | some r => _ | none => _) at e2
    cases h2 : chF (tbS n) (tbS n l) ((gamesK n).filter (chP n (tbS n l))) 2 (2 ^ 2 ^ n - 1) with
    | some r =>
      rw [h2] at e2
      exact Ev.bind e2 (ev_pos rfl (Ev.now _))
    | none => rw [h2] at hsome; exact absurd hsome (by simp)
end
def vtS (n : Nat) (s : List (List Int)) : S61 := ⟨(n : Int), tabB (winB s) (2 ^ n)⟩
theorem rd_vt {n : Nat} {L : List (List (List Int))} {i : Int} (h0 : 0 ≤ i) (h1 : i < (L.length : Int)) : rd_T61 (L.map (vtS n)) i = vtS n (L.getD i.toNat []) := by
  have h : i.toNat < L.length := by omega
  unfold rd_T61
  rw [List.getD_eq_getElem?_getD, List.getElem?_map, List.getElem?_eq_getElem h, List.getD_eq_getElem?_getD, List.getElem?_eq_getElem h]; rfl
theorem pick_ev (n : Nat) (L : List (List (List Int))) (ix : List Int) (hix : ix.length ≤ 1000) (h : ∀ i ∈ ix, 0 ≤ i ∧ i < (L.length : Int)) : Ev (fun k => impl_votes_chambers.l2 k (L.map (vtS n)) [] ix (ix.length : Int) 0) ((ix.map fun i => L.getD i.toNat []).map (vtS n)) := by
  have := ev_range ix.length (fun k i => impl_votes_chambers.l2 k (L.map (vtS n)) (((ix.take i).map fun i => L.getD i.toNat []).map (vtS n)) ix (ix.length : Int) (i : Int)) (fun _ => (ix.map fun i => L.getD i.toNat []).map (vtS n)) ?_ ?_ 0 (Nat.zero_le _)
  · simpa using this
  · refine ev_succ ?_
    simp only [impl_votes_chambers.l2]
    rw [List.take_length]
    exact ev_neg (Int.lt_irrefl _) (Ev.now _)
  · intro i hi ih
    obtain ⟨j0, j1⟩ := h ix[i] (List.getElem_mem hi)
    refine ev_succ ?_
    simp only [impl_votes_chambers.l2]
    rw [rd_get hi, rd_vt j0 j1, wrap_succ hi (by omega), List.length_map, List.length_map, List.length_map, List.length_take]
    refine ev_pos (by omega) (ev_pos (by omega) (ev_pos (by omega) (ev_pos j0 (ev_pos j1 (ev_pos (by omega) (ev_eqv ?_ rfl))))))
    rw [List.take_succ_eq_append_getElem hi, List.map_append, List.map_append] at ih
    exact ih
section
variable (n : Nat) (hn : 1 ≤ n ∧ n < 5) (l : List (List Int)) (hs : SetsOk (n : Int) l) (hne : l ≠ []) (hs0 : ∀ s ∈ l, s ≠ [])
include hn hs hne hs0
theorem many_ev : Ev (fun k => impl_votes_chambers.l1 k (((gamesK n).filter (chP n (tbS n l))).map (vtS n)) (((gamesK n).filter (chP n (tbS n l))).map fun s => (tbS n s : Int)) (tbS n l : Int) 1 (n : Int) (tabB (winB l) (2 ^ n))) ((chR n l).map (vtS n)) := by
  have h4 : 2 ^ n ≤ 16 := Nat.pow_le_pow_right (n := 2) (by decide) (show n ≤ 4 by omega)
  have hlen : ((gamesK n).filter (chP n (tbS n l))).length ≤ 1000000 := by
    refine Nat.le_trans (List.length_filter_le _ _) ?_
    unfold gamesK
    rw [(sortL_perm lexG _).length_eq, List.length_map]
    exact (len_K n hn.2 hn.1).1
  have hlt : ∀ s, tbS n s < 65536 := fun s => Nat.lt_of_lt_of_le (encT_lt _ _) (Nat.le_trans (Nat.pow_le_pow_right (n := 2) (by decide) h4) (by decide))
  have hfl : 2 ^ 2 ^ n - 1 < 65536 := Nat.lt_of_lt_of_le (Nat.sub_lt (Nat.two_pow_pos _) Nat.one_pos) (Nat.le_trans (Nat.pow_le_pow_right (n := 2) (by decide) h4) (by decide))
  have hfw : wrap64 (shl .i64 1 ((2 ^ n : Nat) : Int) - 1) = ((2 ^ 2 ^ n - 1 : Nat) : Int) := by
    rw [shl_one_nat (2 ^ n) h4]
    have := Nat.two_pow_pos (2 ^ n)
    rw [wrap64_id (by omega)]; omega
  have hch := fun m (hm : m ≤ 1000) => chosen_ev (tbS n) (tbS n l) ((gamesK n).filter (chP n (tbS n l))) hlen (fun s _ => hlt s) (hlt l) m 0 (2 ^ 2 ^ n - 1) (Nat.zero_le _) hm hfl
  have hcI := fun m => chI_chF (tbS n) (tbS n l) ((gamesK n).filter (chP n (tbS n l))) [] _ 0 m (2 ^ 2 ^ n - 1) rfl
  simp only [List.drop_zero] at hch hcI
  have hsome := ch_some n hn l hs hne hs0
  have done : ∀ m ix, m ≤ 1000 → chI (tbS n) (tbS n l) ((gamesK n).filter (chP n (tbS n l))) 0 m (2 ^ 2 ^ n - 1) = some ix → Ev (fun k => impl_votes_chambers.l2 k (((gamesK n).filter (chP n (tbS n l))).map (vtS n)) [] ix (ix.length : Int) 0) ((ix.map fun i => ((gamesK n).filter (chP n (tbS n l))).getD i.toNat []).map (vtS n)) := fun m ix hm h =>
    pick_ev n _ ix (by rw [chI_len _ _ _ _ _ _ _ h]; exact hm) (fun i hi => by have := chI_in _ _ _ _ _ _ _ h i hi; omega)
  unfold chR chL
  refine ev_succ ?_
  simp only [impl_votes_chambers.l1]
  rw [tabB_len, hfw]
  have e1 := hch 1 (by decide)
  have c1 := hcI 1
  cases h1 : chI (tbS n) (tbS n l) ((gamesK n).filter (chP n (tbS n l))) 0 1 (2 ^ 2 ^ n - 1) with
  | some ix =>
    rw [h1] at e1 c1
    rw [← c1]
    exact Ev.bind e1 (ev_pos rfl (done 1 ix (by decide) h1))
  | none =>
    rw [h1] at e1 c1
    rw [← c1] at hsome ⊢
    refine Ev.bind e1 (ev_neg (by simp) ?_)
    refine ev_succ ?_
    rw [show wrap64 (1 + 1) = ((2 : Nat) : Int) from by rw [wrap64_id (by omega)]; rfl]
    simp only [impl_votes_chambers.l1]
    rw [tabB_len, hfw]
    have e2 := hch 2 (by decide)
    have c2 := hcI 2
    cases h2 : chI (tbS n) (tbS n l) ((gamesK n).filter (chP n (tbS n l))) 0 2 (2 ^ 2 ^ n - 1) with
    | some ix =>
      rw [h2] at e2 c2
      rw [← c2]
      exact Ev.bind e2 (ev_pos rfl (done 2 ix (by decide) h2))
    | none => rw [h2] at c2; rw [← c2] at hsome; exact absurd hsome (by simp)
theorem chambers_ev : Ev (fun k => impl_votes_chambers.f k (n : Int) (tabB (winB l) (2 ^ n))) ((chR n l).map (vtS n)) := by
  have h4 : 2 ^ n ≤ 16 := Nat.pow_le_pow_right (n := 2) (by decide) (show n ≤ 4 by omega)
  have hgl : (gamesK n).length ≤ 1000000 := by
    unfold gamesK
    rw [(sortL_perm lexG _).length_eq, List.length_map]
    exact (len_K n hn.2 hn.1).1
  have hlt : ∀ s, tbS n s < 65536 := fun s => Nat.lt_of_lt_of_le (encT_lt _ _) (Nat.le_trans (Nat.pow_le_pow_right (n := 2) (by decide) h4) (by decide))
  unfold impl_votes_chambers.f
  refine Ev.bind (table_ev n (winB l) (2 ^ n) h4) (Ev.bind (allGames_ev hn) ?_)
  rw [List.length_map]
  have := ev_range (gamesK n).length (fun k i => impl_votes_chambers.l0 k ((((gamesK n).take i).filter (chP n (tbS n l))).map (vtS n)) ((((gamesK n).take i).filter (chP n (tbS n l))).map fun s => (tbS n s : Int)) (tbS n l : Int) ((gamesK n).map (mkG n)) ((gamesK n).length : Int) (i : Int) (n : Int) (tabB (winB l) (2 ^ n))) (fun _ => (chR n l).map (vtS n)) ?_ ?_ 0 (Nat.zero_le _)
  · simpa [tbS] using this
  · refine ev_succ ?_
    simp only [impl_votes_chambers.l0]
    rw [List.take_length]
    exact ev_neg (Int.lt_irrefl _) (many_ev n hn l hs hne hs0)
  · intro i hi ih
    have hmem : (gamesK n)[i] ∈ gamesK n := List.getElem_mem hi
    have hr : rd_T28 ((gamesK n).map (mkG n)) (i : Int) = mkG n (gamesK n)[i] := by
      unfold rd_T28
      rw [Int.toNat_natCast, List.getD_eq_getElem?_getD, List.getElem?_map, List.getElem?_eq_getElem hi]; rfl
    obtain ⟨k1, k2⟩ := gamesK_sets hn hmem
    obtain ⟨t, ht, e⟩ := gamesK_mem hmem
    have hne2 := ne_K n hn.2 hn.1 t ht
    rw [← e] at hne2
    obtain ⟨f1, f2⟩ := find2_ev n (gamesK n)[i] k1 k2 ⟨hn.1, by omega⟩ hne2.1 hne2.2
    have hv : Ev (fun k => impl_Game_votes.f k (n : Int) (gamesK n)[i]) ((n : Int), tabB (winB (gamesK n)[i]) (2 ^ n)) := ev_eqv (Game_votes_ev (n : Int) _ k1 k2) (by rw [winT_nat])
    have hfl : ∀ q, ((((gamesK n).take i).filter q)).length ≤ 1000000 := fun q => Nat.le_trans (List.length_filter_le _ _) (by rw [List.length_take]; omega)
    have hnat : ∀ x : Int, Int.toNat (i : Int) = i := fun _ => Int.toNat_natCast i
    rw [List.take_succ_eq_append_getElem hi, List.filter_append] at ih
    refine ev_succ ?_
    simp only [impl_votes_chambers.l0]
    rw [hr, wrap_succ hi (by omega), List.length_map]
    refine ev_pos (by omega) (ev_pos (by omega) (ev_pos (by omega) (Ev.bind hv (Ev.bind (table_ev n (winB (gamesK n)[i]) (2 ^ n) h4) ?_))))
    have ea : Go.bits .and .i64 (tbS n (gamesK n)[i] : Int) (tbS n l : Int) = ((tbS n (gamesK n)[i] &&& tbS n l : Nat) : Int) := and_nat _ _ (Nat.lt_trans (hlt _) (by decide)) (Nat.lt_trans (hlt _) (by decide))
    change Ev (fun k => if Go.bits .and .i64 (tbS n (gamesK n)[i] : Int) (tbS n l : Int) = (tbS n l : Int) then _ else _) _
    rw [ea]
    by_cases hc : tbS n (gamesK n)[i] &&& tbS n l = tbS n l
    · refine ev_pos (by rw [hc]) ?_
      cases hcom : comA (winB (gamesK n)[i]) n with
      | true =>
        obtain ⟨p, _, _, _, h3⟩ := f1 hcom
        rw [List.filter_cons_of_pos (by unfold chP; rw [hcom, decide_eq_true hc]; rfl), List.filter_nil, List.map_append, List.map_append] at ih
        refine Ev.bind h3 (ev_neg (by simp) (ev_pos ?_ (ev_pos ?_ ih)))
        · rw [List.length_map]; exact Nat.lt_of_le_of_lt (hfl _) (by decide)
        · rw [List.length_map]; exact Nat.lt_of_le_of_lt (hfl _) (by decide)
      | false =>
        obtain ⟨a, b, _, _, h3⟩ := f2 hcom
        rw [List.filter_cons_of_neg (by unfold chP; rw [hcom, Bool.and_false]; decide), List.filter_nil, List.append_nil] at ih
        exact Ev.bind h3 (ev_pos rfl ih)
    · rw [List.filter_cons_of_neg (by unfold chP; rw [decide_eq_false hc, Bool.false_and]; decide), List.filter_nil, List.append_nil] at ih
      exact ev_neg (by omega) ih
end
def chains9 : List (List Nat) := [[0, 1, 3, 7, 15, 31, 63, 127, 255, 511], [2, 6, 14, 30, 62, 126, 254, 510], [4, 5, 13, 29, 61, 125, 253, 509], [8, 9, 11, 27, 59, 123, 251, 507], [16, 17, 19, 23, 55, 119, 247, 503], [32, 33, 35, 39, 47, 111, 239, 495], [64, 65, 67, 71, 79, 95, 223, 479], [128, 129, 131, 135, 143, 159, 191, 447], [256, 257, 259, 263, 271, 287, 319, 383], [10, 26, 58, 122, 250, 506], [12, 28, 60, 124, 252, 508], [18, 22, 54, 118, 246, 502], [20, 21, 53, 117, 245, 501], [24, 25, 57, 121, 249, 505], [34, 38, 46, 110, 238, 494], [36, 37, 45, 109, 237, 493], [40, 41, 43, 107, 235, 491], [48, 49, 51, 115, 243, 499], [66, 70, 78, 94, 222, 478], [68, 69, 77, 93, 221, 477], [72, 73, 75, 91, 219, 475], [80, 81, 83, 87, 215, 471], [96, 97, 99, 103, 231, 487], [130, 134, 142, 158, 190, 446], [132, 133, 141, 157, 189, 445], [136, 137, 139, 155, 187, 443], [144, 145, 147, 151, 183, 439], [160, 161, 163, 167, 175, 431], [192, 193, 195, 199, 207, 463], [258, 262, 270, 286, 318, 382], [260, 261, 269, 285, 317, 381], [264, 265, 267, 283, 315, 379], [272, 273, 275, 279, 311, 375], [288, 289, 291, 295, 303, 367], [320, 321, 323, 327, 335, 351], [384, 385, 387, 391, 399, 415], [42, 106, 234, 490], [44, 108, 236, 492], [50, 114, 242, 498], [52, 116, 244, 500], [56, 120, 248, 504], [74, 90, 218, 474], [76, 92, 220, 476], [82, 86, 214, 470], [84, 85, 213, 469], [88, 89, 217, 473], [98, 102, 230, 486], [100, 101, 229, 485], [104, 105, 233, 489], [112, 113, 241, 497], [138, 154, 186, 442], [140, 156, 188, 444], [146, 150, 182, 438], [148, 149, 181, 437], [152, 153, 185, 441], [162, 166, 174, 430], [164, 165, 173, 429], [168, 169, 171, 427], [176, 177, 179, 435], [194, 198, 206, 462], [196, 197, 205, 461], [200, 201, 203, 459], [208, 209, 211, 467], [224, 225, 227, 483], [266, 282, 314, 378], [268, 284, 316, 380], [274, 278, 310, 374], [276, 277, 309, 373], [280, 281, 313, 377], [290, 294, 302, 366], [292, 293, 301, 365], [296, 297, 299, 363], [304, 305, 307, 371], [322, 326, 334, 350], [324, 325, 333, 349], [328, 329, 331, 347], [336, 337, 339, 343], [352, 353, 355, 359], [386, 390, 398, 414], [388, 389, 397, 413], [392, 393, 395, 411], [400, 401, 403, 407], [416, 417, 419, 423], [448, 449, 451, 455], [170, 426], [172, 428], [178, 434], [180, 436], [184, 440], [202, 458], [204, 460], [210, 466], [212, 468], [216, 472], [226, 482], [228, 484], [232, 488], [240, 496], [298, 362], [300, 364], [306, 370], [308, 372], [312, 376], [330, 346], [332, 348], [338, 342], [340, 341], [344, 345], [354, 358], [356, 357], [360, 361], [368, 369], [394, 410], [396, 412], [402, 406], [404, 405], [408, 409], [418, 422], [420, 421], [424, 425], [432, 433], [450, 454], [452, 453], [456, 457], [464, 465], [480, 481]]
set_option maxRecDepth 100000 in
theorem chains9_len : chains9.length = 126 := by kernel_rfl
set_option maxRecDepth 100000 in
theorem chains9_all : ((List.range 512).all fun m => chains9.any fun c => c.contains m) = true := by kernel_rfl
set_option maxRecDepth 100000 in
theorem chains9_each : (chains9.all fun c => c.all fun a => c.all fun b => (a &&& b == a) || (a &&& b == b)) = true := by kernel_rfl
theorem pigeon : ∀ (n : Nat) (l : List Nat), l.Nodup → (∀ x ∈ l, x < n) → l.length ≤ n
  | 0, [], _, _ => Nat.le_refl _
  | 0, x :: l, _, h => absurd (h x (List.mem_cons_self ..)) (by omega)
  | n + 1, l, hd, h => by
    by_cases hm : n ∈ l
    · have := pigeon n (l.erase n) (hd.erase n) (fun x hx => by
        have h1 := h x (List.mem_of_mem_erase hx)
        have h2 : x ≠ n := fun e => (List.Nodup.not_mem_erase hd) (e ▸ hx)
        omega)
      rw [List.length_erase_of_mem hm] at this
      omega
    · exact Nat.le_trans (pigeon n l hd (fun x hx => by
        have h1 := h x hx
        have h2 : x ≠ n := fun e => hm (e ▸ hx)
        omega)) (Nat.le_succ n)
theorem antichain9 (l : List Nat) (h : ∀ x ∈ l, x < 512) (ha : l.Pairwise fun a b => a &&& b ≠ a ∧ a &&& b ≠ b) : l.length ≤ 126 := by
  have hf : ∀ m, m < 512 → ∃ c ∈ chains9, m ∈ c := fun m hm => by
    have := List.all_eq_true.1 chains9_all m (List.mem_range.2 hm)
    obtain ⟨c, hc, hmc⟩ := List.any_eq_true.1 this
    exact ⟨c, hc, by simpa using hmc⟩
  let f := fun m => chains9.findIdx fun c => c.contains m
  have hlt : ∀ m, m < 512 → f m < 126 := fun m hm => by
    obtain ⟨c, hc, hmc⟩ := hf m hm
    rw [← chains9_len]
    exact List.findIdx_lt_length_of_exists ⟨c, hc, by simpa using hmc⟩
  have heq : ∀ a b, a < 512 → b < 512 → f a = f b → a &&& b = a ∨ a &&& b = b := fun a b hA hB e => by
    have la : f a < chains9.length := by rw [chains9_len]; exact hlt a hA
    have lb : f b < chains9.length := by rw [chains9_len]; exact hlt b hB
    have h1 : (chains9[f a]).contains a = true := List.findIdx_getElem (w := la)
    have h2 : (chains9[f b]).contains b = true := List.findIdx_getElem (w := lb)
    have h3 : chains9[f b] = chains9[f a] := by simp only [e]
    rw [h3] at h2
    have := List.all_eq_true.1 (List.all_eq_true.1 (List.all_eq_true.1 chains9_each _ (List.getElem_mem la)) a (by simpa using h1)) b (by simpa using h2)
    simpa using this
  have hn : (l.map f).Nodup := by
    rw [List.Nodup, List.pairwise_map]
    refine ha.imp_of_mem fun {a b} hA hB hab e => ?_
    rcases heq a b (h a hA) (h b hB) e with h1 | h1
    · exact hab.1 h1
    · exact hab.2 h1
  have := pigeon 126 (l.map f) hn (fun x hx => by
    obtain ⟨m, hm, rfl⟩ := List.mem_map.1 hx
    exact hlt m (h m hm))
  rwa [List.length_map] at this
theorem areSets_ev (l : List (List Int)) (n : Int) (hn : -1000000 ≤ n ∧ n ≤ 1000000) (hl : ∀ x ∈ l, x.length ≤ 1048576) : Ev (fun k => impl_areSets.f k l n) (l.all fun s => decide (s ≠ []) && isSetB s n) := by
  unfold impl_areSets.f
  refine ev_eqv (Ev.bind (ev_anyO (fun k => impl_areSets_1.f k n) (fun s => !(decide (s ≠ []) && isSetB s n)) l (fun x hx => ?_)) (Ev.now _)) (any_not_all _ _)
  unfold impl_areSets_1.f
  by_cases h : x = []
  · subst h; exact ev_pos (by simp) (Ev.now _)
  · have : x.length ≠ 0 := fun e => h (List.length_eq_zero_iff.1 e)
    refine ev_neg (by omega) (ev_eqv (Ev.bind (isSet_ev x n hn (Nat.le_trans (hl x hx) (by decide))) (Ev.now _)) ?_)
    rw [decide_eq_true h, Bool.true_and]
theorem IsGame_l0 (m : Int) (l : List (List Int)) (hl : l.length ≤ 1048576) (h : SetsOk m l) : Ev (fun k => impl_IsGame.l0 k l (l.length : Int) 0 m l) (allR (fun i => rises l i && apartI l i) l.length 0) := by
  refine ev_range l.length (fun k i => impl_IsGame.l0 k l (l.length : Int) (i : Int) m l) (fun i => allR (fun i => rises l i && apartI l i) l.length i) ?_ ?_ 0 (Nat.zero_le _)
  · refine ev_succ ?_
    simp only [impl_IsGame.l0]
    exact ev_neg (by omega) (ev_eqv (Ev.now _) (allR_end _ _).symm)
  · intro i hi ih
    rw [allR_step _ _ _ hi]
    have inner : rises l i = true → Ev (fun k => impl_IsGame.l1 k (i : Int) l[i] l (l.length : Int) (i : Int) l (l.length : Int) 0 m l) ((rises l i && apartI l i) && allR (fun i => rises l i && apartI l i) l.length (i + 1)) := by
      intro hr
      rw [hr, Bool.true_and]
      refine ev_range l.length (fun k h => impl_IsGame.l1 k (i : Int) l[i] l (l.length : Int) (i : Int) l (l.length : Int) (h : Int) m l) (fun h => allR (fun h => decide (h = i) || !(mk l i &&& mk l h == mk l h)) l.length h && allR (fun i => rises l i && apartI l i) l.length (i + 1)) ?_ ?_ 0 (Nat.zero_le _)
      · refine ev_succ ?_
        simp only [impl_IsGame.l1]
        refine ev_neg (by omega) ?_
        rw [allR_end, Bool.true_and, wrap_succ hi (by omega)]
        exact ih
      · intro j hj ihj
        refine ev_succ ?_
        simp only [impl_IsGame.l1]
        refine ev_pos (by omega) (ev_pos (by omega) (ev_pos (by omega) ?_))
        rw [rdL1_get hj, wrap_succ hj (by omega), allR_step _ _ _ hj]
        by_cases e : j = i
        · refine ev_pos (by omega) ?_
          rw [decide_eq_true e]
          exact ihj
        · refine ev_neg (by omega) (Ev.bind (h.masks hi).1 (Ev.bind (h.masks hj).1 ?_))
          rw [decide_eq_false e]
          by_cases c : (mk l i &&& mk l j == mk l j) = true
          · refine ev_pos ((and_eq_nat (h.lt hi) (h.lt hj)).2 c) ?_
            rw [c]; exact Ev.now _
          · refine ev_neg (fun x => c ((and_eq_nat (h.lt hi) (h.lt hj)).1 x)) ?_
            rw [Bool.not_eq_true] at c
            rw [c]; exact ihj
    refine ev_succ ?_
    simp only [impl_IsGame.l0]
    refine ev_pos (by omega) (ev_pos (by omega) (ev_pos (by omega) ?_))
    rw [rdL1_get hi]
    by_cases h0 : i = 0
    · subst h0
      refine ev_neg (by omega) (ev_succ ?_)
      simp only [impl_IsGame.j2]
      exact ev_neg (by simp) (inner (by simp [rises]))
    · have hp : i - 1 < l.length := by omega
      refine ev_pos (by omega) ?_
      rw [wrap_pred2 (by omega) (by omega)]
      refine ev_pos (by omega) (ev_pos (by omega) ?_)
      rw [rdL1_get hp]
      refine Ev.bind (Compare_ev _ _ (Nat.le_trans (h.2 _ (List.getElem_mem hp)).2 (by decide))) (ev_succ ?_)
      simp only [impl_IsGame.j2]
      have hr : rises l i = lexB l[i - 1] l[i] := by unfold rises; rw [decide_eq_false h0, Bool.false_or, getD_get hp, getD_get hi]
      rw [cmpL_ge, ← hr]
      cases hq : rises l i
      · exact ev_pos (by simp) (Ev.now _)
      · refine ev_neg (by simp) ?_
        have := inner hq
        rw [hq] at this
        exact this
theorem gmGood_l0 (m : Int) (l : List (List Int)) (hl : l.length ≤ 1048576) (h : SetsOk m l) : Ev (fun k => spec_gmGood.l0 k l (l.length : Int) 0 m l) (allR (fun i => rises l i && apartS l i) l.length 0) := by
  refine ev_range l.length (fun k i => spec_gmGood.l0 k l (l.length : Int) (i : Int) m l) (fun i => allR (fun i => rises l i && apartS l i) l.length i) ?_ ?_ 0 (Nat.zero_le _)
  · refine ev_succ ?_
    simp only [spec_gmGood.l0]
    exact ev_neg (by omega) (ev_eqv (Ev.now _) (allR_end _ _).symm)
  · intro i hi ih
    rw [allR_step _ _ _ hi]
    have inner : rises l i = true → Ev (fun k => spec_gmGood.l1 k (mk l i : Int) l (l.length : Int) (i : Int) (l.take i) ((l.take i).length : Int) 0 m l) ((rises l i && apartS l i) && allR (fun i => rises l i && apartS l i) l.length (i + 1)) := by
      intro hr
      rw [hr, Bool.true_and]
      have ht : (l.take i).length = i := by rw [List.length_take]; omega
      rw [ht]
      refine ev_range i (fun k h => spec_gmGood.l1 k (mk l i : Int) l (l.length : Int) (i : Int) (l.take i) (i : Int) (h : Int) m l) (fun h => allR (fun h => !(mk l i &&& mk l h == mk l i) && !(mk l i &&& mk l h == mk l h)) i h && allR (fun i => rises l i && apartS l i) l.length (i + 1)) ?_ ?_ 0 (Nat.zero_le _)
      · refine ev_succ ?_
        simp only [spec_gmGood.l1]
        refine ev_neg (by omega) ?_
        rw [allR_end, Bool.true_and, wrap_succ hi (by omega)]
        exact ih
      · intro j hj ihj
        have hjl : j < l.length := by omega
        have hjt : j < (l.take i).length := by omega
        refine ev_succ ?_
        simp only [spec_gmGood.l1]
        refine ev_pos (by omega) (ev_pos (by omega) (ev_pos (by omega) ?_))
        rw [rdL1_get hjt, List.getElem_take, wrap_succ hj (by omega), allR_step _ _ _ hj]
        refine Ev.bind (h.masks hjl).2 ?_
        by_cases c : (mk l i &&& mk l j == mk l i) = true
        · refine ev_pos ((and_eq_nat (h.lt hi) (h.lt hjl)).2 c) ?_
          rw [c]; exact Ev.now _
        · refine ev_neg (fun x => c ((and_eq_nat (h.lt hi) (h.lt hjl)).1 x)) ?_
          rw [Bool.not_eq_true] at c
          rw [c]
          by_cases c2 : (mk l i &&& mk l j == mk l j) = true
          · refine ev_pos ((and_eq_nat (h.lt hi) (h.lt hjl)).2 c2) ?_
            rw [c2]; exact Ev.now _
          · refine ev_neg (fun x => c2 ((and_eq_nat (h.lt hi) (h.lt hjl)).1 x)) ?_
            rw [Bool.not_eq_true] at c2
            rw [c2]; exact ihj
    have step : rises l i = true → Ev (fun k => spec_gmGood.j1 k (i : Int) l[i] l (l.length : Int) (i : Int) false m l) ((rises l i && apartS l i) && allR (fun i => rises l i && apartS l i) l.length (i + 1)) := by
      intro hr
      refine ev_succ ?_
      simp only [spec_gmGood.j1]
      refine ev_neg (by simp) (Ev.bind (h.masks hi).2 (ev_pos (by omega) (ev_pos (by omega) ?_)))
      simp only [Int.toNat_natCast, Option.bind_some]
      exact inner hr
    refine ev_succ ?_
    simp only [spec_gmGood.l0]
    refine ev_pos (by omega) (ev_pos (by omega) (ev_pos (by omega) ?_))
    rw [rdL1_get hi]
    by_cases h0 : i = 0
    · subst h0
      exact ev_neg (by omega) (step (by simp [rises]))
    · have hp : i - 1 < l.length := by omega
      refine ev_pos (by omega) ?_
      rw [wrap_pred2 (by omega) (by omega)]
      refine ev_pos (by omega) (ev_pos (by omega) ?_)
      rw [rdL1_get hp]
      have hr : rises l i = lexB l[i - 1] l[i] := by unfold rises; rw [decide_eq_false h0, Bool.false_or, getD_get hp, getD_get hi]
      refine Ev.bind (voBefore_ev _ _ (Nat.le_trans (h.2 _ (List.getElem_mem hp)).2 (by decide))) ?_
      rw [← hr]
      cases hq : rises l i
      · refine ev_succ ?_
        simp only [spec_gmGood.j1]
        exact ev_pos (by simp) (Ev.now _)
      · have := step hq
        rw [hq] at this
        exact this
theorem apart_same (l : List (List Int)) : allR (fun i => rises l i && apartS l i) l.length 0 = allR (fun i => rises l i && apartI l i) l.length 0 := by
  rw [Bool.eq_iff_iff, allR_iff, allR_iff]
  constructor
  · intro h i hi
    have hi' := h i hi
    rw [Bool.and_eq_true] at hi' ⊢
    refine ⟨hi'.1, (allR_iff _ _).2 fun j hj => ?_⟩
    rcases Nat.lt_trichotomy j i with c | c | c
    · have := (allR_iff _ _).1 hi'.2 j c
      rw [Bool.and_eq_true] at this
      rw [this.2, Bool.or_true]
    · rw [decide_eq_true c, Bool.true_or]
    · have hj' := h j hj
      rw [Bool.and_eq_true] at hj'
      have := (allR_iff _ _).1 hj'.2 i c
      rw [Bool.and_eq_true] at this
      rw [Nat.and_comm, this.1, Bool.or_true]
  · intro h i hi
    have hi' := h i hi
    rw [Bool.and_eq_true] at hi' ⊢
    refine ⟨hi'.1, (allR_iff _ _).2 fun j hj => ?_⟩
    have hjl : j < l.length := by omega
    have h1 := (allR_iff _ _).1 hi'.2 j hjl
    have hj' := h j hjl
    rw [Bool.and_eq_true] at hj'
    have h2 := (allR_iff _ _).1 hj'.2 i hi
    rw [decide_eq_false (by omega), Bool.false_or] at h1 h2
    rw [Nat.and_comm] at h2
    rw [h1, h2]; rfl
theorem few_sets {m : Int} {l : List (List Int)} (h : SetsOk m l) (ha : allR (fun i => rises l i && apartI l i) l.length 0 = true) : l.length ≤ 126 := by
  have hlen : ((List.range l.length).map (mk l)).length = l.length := by simp
  rw [← hlen]
  refine antichain9 _ (fun x hx => ?_) ?_
  · obtain ⟨i, hi, rfl⟩ := List.mem_map.1 hx
    exact h.lt (List.mem_range.1 hi)
  · rw [List.pairwise_map]
    refine List.pairwise_lt_range.imp_of_mem fun {i j} hi hj hij => ?_
    have key : ∀ i j, i < l.length → j < l.length → i ≠ j → mk l i &&& mk l j ≠ mk l j := fun i j hi hj hne => by
      have := (allR_iff _ _).1 ha i hi
      rw [Bool.and_eq_true] at this
      have := (allR_iff _ _).1 this.2 j hj
      rw [decide_eq_false (by omega), Bool.false_or] at this
      simpa using this
    have hi' := List.mem_range.1 hi
    have hj' := List.mem_range.1 hj
    exact ⟨by rw [Nat.and_comm]; exact key j i hj' hi' (by omega), key i j hi' hj' (by omega)⟩
theorem IsGame_ev (m : Int) (l : List (List Int)) (hl : l.length ≤ 1048576) (hb : ∀ x ∈ l, x.length ≤ 1048576) : Ev (fun k => impl_IsGame.f k m l) (gmOk m l) := by
  unfold impl_IsGame.f gmOk
  simp only [within_eq, Option.bind_some]
  refine ev_bool (fun hm => ?_) (fun hm => ?_)
  · rw [hm]
    have hm' := inB_iff.1 hm
    by_cases h0 : l = []
    · subst h0
      refine ev_pos rfl (ev_succ ?_)
      simp only [impl_IsGame.j0]
      exact ev_pos (by simp) (Ev.now _)
    · have : l.length ≠ 0 := fun e => h0 (List.length_eq_zero_iff.1 e)
      refine ev_neg (by omega) (Ev.bind (areSets_ev l m (by omega) hb) (ev_succ ?_))
      rw [decide_eq_true h0]
      simp only [impl_IsGame.j0]
      cases hs : l.all fun s => decide (s ≠ []) && isSetB s m
      · exact ev_pos (by simp) (Ev.now _)
      · exact ev_neg (by simp) (IsGame_l0 m l hl (SetsOk.of hm hs hb))
  · rw [hm]
    refine ev_succ ?_
    simp only [impl_IsGame.j0]
    exact ev_pos (by simp) (Ev.now _)
theorem gmSets_l0 (m : Int) (l : List (List Int)) (hm : 1 ≤ m ∧ m ≤ 9) (hl : l.length ≤ 1048576) (hb : ∀ x ∈ l, x.length ≤ 1048576) : Ev (fun k => spec_gmSets.l0 k m l (l.length : Int) 0) (l.all fun s => decide (s ≠ []) && isSetB s m) := by
  have := ev_range l.length (fun k i => spec_gmSets.l0 k m l (l.length : Int) (i : Int)) (fun i => (l.drop i).all fun s => decide (s ≠ []) && isSetB s m) ?_ ?_ 0 (Nat.zero_le _)
  · simpa using this
  · refine ev_succ ?_
    simp only [spec_gmSets.l0]
    exact ev_neg (by omega) (ev_eqv (Ev.now _) (by rw [drop_end]; rfl))
  · intro i hi ih
    refine ev_succ ?_
    simp only [spec_gmSets.l0]
    refine ev_pos (by omega) (ev_pos (by omega) (ev_pos (by omega) ?_))
    rw [rdL1_get hi, wrap_succ hi (by omega), all_drop _ _ _ hi]
    by_cases h0 : l[i] = []
    · refine ev_pos (by rw [h0]; rfl) (ev_eqv (Ev.now _) ?_)
      rw [decide_eq_false (by simpa using h0)]; rfl
    · have : l[i].length ≠ 0 := fun e => h0 (List.length_eq_zero_iff.1 e)
      refine ev_neg (by omega) (Ev.bind (voSet_ev l[i] m (by omega) (Nat.le_trans (hb _ (List.getElem_mem hi)) (by decide))) ?_)
      rw [decide_eq_true h0, Bool.true_and]
      exact ev_bool (fun h => by rw [h]; exact ih) (fun h => by rw [h]; exact Ev.now _)
theorem gmGood_ev (m : Int) (l : List (List Int)) (hl : l.length ≤ 1048576) (hb : ∀ x ∈ l, x.length ≤ 1048576) : Ev (fun k => spec_gmGood.f k m l) (gmOk m l) := by
  unfold spec_gmGood.f
  have hS : Ev (fun k => spec_gmSets.f k m l 126) (inB m 1 9 && (inB (l.length : Int) 1 126 && l.all fun s => decide (s ≠ []) && isSetB s m)) := by
    unfold spec_gmSets.f
    simp only [l1In_eq, Option.bind_some]
    refine ev_bool (fun hm => ?_) (fun hm => ?_)
    · rw [hm]
      refine ev_succ ?_
      simp only [spec_gmSets.j0]
      cases hn : inB (l.length : Int) 1 126
      · exact ev_pos (by simp) (Ev.now _)
      · exact ev_neg (by simp) (gmSets_l0 m l (inB_iff.1 hm) hl hb)
    · rw [hm]
      refine ev_succ ?_
      simp only [spec_gmSets.j0]
      exact ev_pos (by simp) (Ev.now _)
  refine Ev.bind hS (ev_bool (fun h => ?_) (fun h => ?_))
  · rw [Bool.and_eq_true, Bool.and_eq_true] at h
    refine ev_eqv (gmGood_l0 m l hl (SetsOk.of h.1 h.2.2 hb)) ?_
    have hn := inB_iff.1 h.2.1
    unfold gmOk
    rw [h.1, h.2.2, decide_eq_true (show l ≠ [] from fun e => by subst e; simp at hn), apart_same]; rfl
  · refine ev_eqv (Ev.now _) ?_
    symm
    rw [← Bool.not_eq_true]
    intro hg
    unfold gmOk at hg
    rw [Bool.and_eq_true, Bool.and_eq_true, Bool.and_eq_true] at hg
    obtain ⟨hm, h0, hs, ha⟩ := hg
    have := few_sets (SetsOk.of hm hs hb) ha
    have h0' : l.length ≠ 0 := fun e => (of_decide_eq_true h0) (List.length_eq_zero_iff.1 e)
    rw [hm, hs, show inB (l.length : Int) 1 126 = true from inB_iff.2 (by omega)] at h
    cases h
theorem chNeeds_ev (m : Int) (l : List (List Int)) (hl : l.length ≤ 1048576) (hb : ∀ x ∈ l, x.length ≤ 1048576) : Ev (fun k => spec_chNeeds.f k m l) (gmOk m l && decide (m ≤ 4)) ∧ Ev (fun k => impl_isNeededGame.f k m l) (gmOk m l && decide (m ≤ 4)) := by
  constructor
  · unfold spec_chNeeds.f
    exact Ev.bind (gmGood_ev m l hl hb) (ev_bool (fun h => by rw [h, Bool.true_and]; exact Ev.now _) (fun h => by rw [h, Bool.false_and]; exact Ev.now _))
  · unfold impl_isNeededGame.f
    exact Ev.bind (IsGame_ev m l hl hb) (ev_bool (fun h => by rw [h, Bool.true_and]; exact Ev.now _) (fun h => by rw [h, Bool.false_and]; exact Ev.now _))
theorem chOk {m : Int} {l : List (List Int)} (hb : ∀ x ∈ l, x.length ≤ 1048576) (h : (gmOk m l && decide (m ≤ 4)) = true) : ∃ n : Nat, m = (n : Int) ∧ (1 ≤ n ∧ n < 5) ∧ SetsOk (n : Int) l ∧ l ≠ [] ∧ ∀ s ∈ l, s ≠ [] := by
  rw [Bool.and_eq_true, decide_eq_true_eq] at h
  obtain ⟨hok, h5⟩ := h
  unfold gmOk at hok
  simp only [Bool.and_eq_true, decide_eq_true_eq] at hok
  obtain ⟨hm, hne, hall, _⟩ := hok
  have hs := SetsOk.of hm hall hb
  obtain ⟨n, rfl⟩ := Int.eq_ofNat_of_zero_le (show 0 ≤ m by have := hs.1; omega)
  exact ⟨n, rfl, by have := hs.1; omega, hs, hne, fun s hs => of_decide_eq_true ((Bool.and_eq_true ..).mp (List.all_eq_true.1 hall s hs)).1⟩
theorem szIntS_eq (l : List Int) (n : Nat) (hn : n ≤ 1048576) (hl : l.length ≤ 9223372036854775807) : ∃ q, laws_szIntS.f l (n : Int) = some q ∧ (¬ q < 0 → ∃ m : Nat, q = m ∧ m ≤ n ∧ l.length ≤ n) := by
  unfold laws_szIntS.f
  rw [wrap64_id (by omega)]
  by_cases h : (n : Int) - (l.length : Int) < 0
  · exact ⟨-1, by rw [if_pos h], fun h => absurd (by decide) h⟩
  · exact ⟨_, by rw [if_neg h], fun _ => ⟨n - l.length, by omega, by omega, by omega⟩⟩
theorem szIntSS_ev (l : List (List Int)) (n : Nat) (hn : n ≤ 1048576) (hl : l.length ≤ 9223372036854775807) (hx : ∀ x ∈ l, x.length ≤ 9223372036854775807) :
    ∃ q, Ev (fun k => laws_szIntSS.f k l (n : Int)) q ∧ (¬ q < 0 → ∃ m : Nat, q = m ∧ m ≤ n ∧ l.length ≤ n ∧ ∀ x ∈ l, x.length ≤ n) := by
  unfold laws_szIntSS.f
  rw [wrap64_id (by omega)]
  by_cases h : (n : Int) - (l.length : Int) < 0
  · exact ⟨-1, ev_pos h (Ev.now _), fun h => absurd (by decide) h⟩
  have key : ∀ (d i m : Nat), i + d = l.length → m ≤ n → ∃ q, Ev (fun k => laws_szIntSS.l0 k l (m : Int) (i : Int)) q ∧ (¬ q < 0 → ∃ m' : Nat, q = m' ∧ m' ≤ m ∧ ∀ x ∈ l.drop i, x.length ≤ n) := by
    intro d
    induction d with
    | zero =>
      intro i m hi hm
      refine ⟨m, ev_succ ?_, fun _ => ⟨m, rfl, Nat.le_refl _, fun x hx => ?_⟩⟩
      · simp only [laws_szIntSS.l0]; exact ev_neg (by omega) (Ev.now _)
      · rw [List.drop_of_length_le (by omega)] at hx; cases hx
    | succ d ih =>
      intro i m hi hm
      have h1 : i < l.length := by omega
      obtain ⟨q, hq, hq2⟩ := szIntS_eq l[i] m (by omega) (hx _ (List.getElem_mem h1))
      by_cases c : q < 0
      · refine ⟨-1, ev_succ ?_, fun h => absurd (by decide) h⟩
        simp only [laws_szIntSS.l0, rdL1_get h1, hq, Option.bind_some]
        exact ev_pos (by omega) (ev_pos (by omega) (ev_pos c (Ev.now _)))
      · obtain ⟨m', rfl, h2, h3⟩ := hq2 c
        obtain ⟨q2, e2, p2⟩ := ih (i + 1) m' (by omega) (by omega)
        refine ⟨q2, ev_succ ?_, fun hn2 => ?_⟩
        · simp only [laws_szIntSS.l0, rdL1_get h1, hq, Option.bind_some, wrap_succ (i := i) (n := 1048576) (by omega) (by decide)]
          exact ev_pos (by omega) (ev_pos (by omega) (ev_neg c e2))
        · obtain ⟨m'', r1, r2, r3⟩ := p2 hn2
          refine ⟨m'', r1, by omega, fun x hx => ?_⟩
          rw [List.drop_eq_getElem_cons h1] at hx
          rcases List.mem_cons.1 hx with rfl | hx
          · omega
          · exact r3 x hx
  obtain ⟨q, e, p⟩ := key l.length 0 (n - l.length) (by omega) (by omega)
  refine ⟨q, ev_neg h ?_, fun hq => ?_⟩
  · rw [show (n : Int) - (l.length : Int) = ((n - l.length : Nat) : Int) by omega]; exact e
  · obtain ⟨m, r1, r2, r3⟩ := p hq
    exact ⟨m, r1, by omega, by omega, by simpa using r3⟩
theorem szGame_ev (a : Int) (l : List (List Int)) (n : Nat) (hn : n ≤ 1048576) (hl : l.length ≤ 9223372036854775807) (hx : ∀ x ∈ l, x.length ≤ 9223372036854775807) :
    ∃ q, Ev (fun k => laws_szGame.f k a l (n : Int)) q ∧ (¬ q < 0 → ∃ m : Nat, q = m ∧ m ≤ n ∧ l.length ≤ n ∧ ∀ x ∈ l, x.length ≤ n) := by
  obtain ⟨q, e, p⟩ := szIntSS_ev l n hn hl hx
  unfold laws_szGame.f
  by_cases h : q < 0
  · exact ⟨-1, Ev.bind e (ev_pos h (Ev.now _)), fun h => absurd (by decide) h⟩
  · exact ⟨q, Ev.bind e (ev_neg h (Ev.now _)), p⟩
theorem toIntSS_ev (l : List (List Int)) (hl : l.length ≤ 1152921504606) (hx : ∀ x ∈ l, x.length ≤ 1152921504606) : Ev (fun k => laws_toIntSS.f k l) l := by
  unfold laws_toIntSS.f
  refine ev_pos (by omega) (ev_pos (by omega) ?_)
  rw [Int.toNat_natCast]
  have := ev_range l.length (fun k i => laws_toIntSS.l0 k l ((l.take i).map id ++ List.replicate (l.length - i) []) (i : Int)) (fun _ => l) ?_ ?_ 0 (Nat.zero_le _)
  · simpa using this
  · refine ev_succ ?_
    simp only [laws_toIntSS.l0]
    exact ev_neg (by omega) (ev_eqv (Ev.now _) (by simp))
  · intro i hi ih
    refine ev_succ ?_
    simp only [laws_toIntSS.l0]
    refine ev_pos (by omega) (ev_pos (by omega) ?_)
    rw [rdL1_get hi]
    refine Ev.bind (toIntS_ev l[i] (hx _ (List.getElem_mem hi))) (ev_pos (by rw [copy_len _ _ _ _ (by omega)]; omega) ?_)
    rw [wrap_succ hi (by omega), Int.toNat_natCast, show l[i] = id l[i] from rfl, set_copy id _ l i hi]
    exact ih
theorem toGame_ev (m : Int) (l : List (List Int)) (hl : l.length ≤ 1152921504606) (hx : ∀ x ∈ l, x.length ≤ 1152921504606) : Ev (fun k => laws_toGame.f k m l) (m, l) := by
  unfold laws_toGame.f
  exact Ev.bind (toIntSS_ev l hl hx) (Ev.now _)
theorem eqIntSS_ev (a b : List (List Int)) (ha : a.length ≤ 1152921504606) (hx : ∀ x ∈ a, x.length ≤ 1152921504606) : Ev (fun k => laws_eqIntSS.f k a b) (decide (a = b)) := by
  unfold laws_eqIntSS.f
  by_cases hl : a.length = b.length
  · refine ev_pos (by omega) ?_
    refine ev_range a.length (fun k i => laws_eqIntSS.l0 k a b (i : Int)) (fun i => decide (a.drop i = b.drop i)) ?_ ?_ 0 (Nat.zero_le _)
    · refine ev_succ ?_
      simp only [laws_eqIntSS.l0]
      refine ev_neg (by omega) (ev_eqv (Ev.now _) ?_)
      rw [List.drop_of_length_le (by omega), List.drop_of_length_le (by omega)]; simp
    · intro i hi ih
      have h2 : i < b.length := by omega
      refine ev_succ ?_
      simp only [laws_eqIntSS.l0]
      refine ev_pos (by omega) (ev_pos (by omega) (ev_pos (by omega) ?_))
      rw [rdL1_get hi, rdL1_get h2, wrap_succ hi (by omega), eq_drop a b i hi h2]
      refine Ev.bind (eqIntS_ev a[i] b[i] (Nat.le_trans (hx _ (List.getElem_mem hi)) (by decide))) (ev_bool (fun h => ?_) (fun h => ?_))
      · rw [h]; exact ih
      · rw [h]; exact Ev.now _
  · refine ev_neg (by omega) (ev_eqv (Ev.now false) ?_)
    exact (decide_eq_false fun e => hl (by rw [e])).symm
theorem eqGame_ev (m n : Int) (a b : List (List Int)) (ha : a.length ≤ 1152921504606) (hx : ∀ x ∈ a, x.length ≤ 1152921504606) : Ev (fun k => laws_eqGame.f k m a n b) (decide (m = n ∧ a = b)) := by
  unfold laws_eqGame.f
  by_cases hm : m = n
  · refine ev_pos hm (Ev.bind (eqIntSS_ev a b ha hx) (ev_bool (fun h => ev_eqv (Ev.now _) ?_) (fun h => ev_eqv (Ev.now _) ?_)))
    · exact (decide_eq_true ⟨hm, of_decide_eq_true h⟩).symm
    · exact (decide_eq_false fun e => of_decide_eq_false h e.2).symm
  · exact ev_neg hm (ev_eqv (Ev.now _) (decide_eq_false fun e => hm e.1).symm)
theorem eqCommittee_ev (m n : Int) (a b : List Int) (ha : a.length ≤ 1152921504606) : Ev (fun k => laws_eqCommittee.f k m a n b) (decide (m = n ∧ a = b)) := by
  unfold laws_eqCommittee.f
  by_cases hm : m = n
  · refine ev_pos hm (Ev.bind (eqIntS_ev a b (Nat.le_trans ha (by decide))) (ev_bool (fun h => ev_eqv (Ev.now _) ?_) (fun h => ev_eqv (Ev.now _) ?_)))
    · exact (decide_eq_true ⟨hm, of_decide_eq_true h⟩).symm
    · exact (decide_eq_false fun e => of_decide_eq_false h e.2).symm
  · exact ev_neg hm (ev_eqv (Ev.now _) (decide_eq_false fun e => hm e.1).symm)
theorem pick_f {α β : Type} {L : List α} {P : α → β → Prop} (d : β) (H : ∀ s ∈ L, ∃ p, P s p) : ∃ f : α → β, ∀ s ∈ L, P s (f s) := by
  have h2 : ∀ s : α, ∃ p, s ∈ L → P s p := fun s => by
    rcases Classical.em (s ∈ L) with h | h
    · obtain ⟨p, hp⟩ := H s h
      exact ⟨p, fun _ => hp⟩
    · exact ⟨d, fun h' => absurd h' h⟩
  exact ⟨fun s => Classical.choose (h2 s), fun s hs => Classical.choose_spec (h2 s) hs⟩
def coF (f : List (List Int) → Int × List Int) (s : List (List Int)) : S67 := ⟨(f s).1, (f s).2⟩
theorem sCo_ev (n : Nat) (L : List (List (List Int))) (hL : L.length ≤ 1000) (f : List (List Int) → Int × List Int) (H : ∀ s ∈ L, Ev (fun k => spec_weFind.f k (n : Int) s) ((f s).1, (f s).2, true)) : Ev (fun k => spec_ChambersOf.l0 k ([] : List S67) (L.map (mkG n)) (L.length : Int) 0) (L.map (coF f), true) := by
  have := ev_range L.length (fun k i => spec_ChambersOf.l0 k ((L.take i).map (coF f)) (L.map (mkG n)) (L.length : Int) (i : Int)) (fun _ => (L.map (coF f), true)) ?_ ?_ 0 (Nat.zero_le _)
  · simpa using this
  · refine ev_succ ?_
    simp only [spec_ChambersOf.l0]
    rw [List.take_length]
    exact ev_neg (Int.lt_irrefl _) (Ev.now _)
  · intro i hi ih
    have hr : rd_T28 (L.map (mkG n)) (i : Int) = mkG n L[i] := by
      unfold rd_T28
      rw [Int.toNat_natCast, List.getD_eq_getElem?_getD, List.getElem?_map, List.getElem?_eq_getElem hi]; rfl
    rw [List.take_succ_eq_append_getElem hi, List.map_append] at ih
    refine ev_succ ?_
    simp only [spec_ChambersOf.l0]
    rw [hr, wrap_succ hi (by omega), List.length_map, List.length_map, List.length_take]
    exact ev_pos (by omega) (ev_pos (by omega) (ev_pos (by omega) (Ev.bind (H _ (List.getElem_mem hi)) (ev_pos (by omega) ih))))
theorem iCo_ev (n : Nat) (L : List (List (List Int))) (hL : L.length ≤ 1000) (f : List (List Int) → Int × List Int) (H : ∀ s ∈ L, Ev (fun k => impl_votes_found.f k (n : Int) (tabB (winB s) (2 ^ n))) ((f s).1, (f s).2, true)) : Ev (fun k => impl_ChambersOf.l0 k ([] : List S67) (L.map (vtS n)) (L.length : Int) 0) (L.map (coF f), true) := by
  have := ev_range L.length (fun k i => impl_ChambersOf.l0 k ((L.take i).map (coF f)) (L.map (vtS n)) (L.length : Int) (i : Int)) (fun _ => (L.map (coF f), true)) ?_ ?_ 0 (Nat.zero_le _)
  · simpa using this
  · refine ev_succ ?_
    simp only [impl_ChambersOf.l0]
    rw [List.take_length]
    exact ev_neg (Int.lt_irrefl _) (Ev.now _)
  · intro i hi ih
    have hr : rd_T61 (L.map (vtS n)) (i : Int) = vtS n L[i] := by
      unfold rd_T61
      rw [Int.toNat_natCast, List.getD_eq_getElem?_getD, List.getElem?_map, List.getElem?_eq_getElem hi]; rfl
    rw [List.take_succ_eq_append_getElem hi, List.map_append] at ih
    refine ev_succ ?_
    simp only [impl_ChambersOf.l0]
    rw [hr, wrap_succ hi (by omega), List.length_map, List.length_map, List.length_take]
    exact ev_pos (by omega) (ev_pos (by omega) (ev_pos (by omega) (Ev.bind (H _ (List.getElem_mem hi)) (ev_pos (by omega) ih))))
def CosOk (a : List S67) : Prop := a.length ≤ 2 ∧ ∀ c ∈ a, c.f1.length ≤ 9
theorem ChambersOf_ev (m : Int) (l : List (List Int)) (hl : l.length ≤ 1048576) (hb : ∀ x ∈ l, x.length ≤ 1048576) : ∃ (r : List S67) (b : Bool), CosOk r ∧ Ev (fun k => spec_ChambersOf.f k m l) (r, b) ∧ Ev (fun k => impl_ChambersOf.f k m l) (r, b) := by
  obtain ⟨hS, hI⟩ := chNeeds_ev m l hl hb
  unfold spec_ChambersOf.f impl_ChambersOf.f
  cases hc : (gmOk m l && decide (m ≤ 4)) with
  | false =>
    rw [hc] at hS hI
    exact ⟨[], false, ⟨by simp, by simp⟩, Ev.bind hS (ev_neg (by decide) (Ev.now _)), Ev.bind hI (ev_neg (by decide) (Ev.now _))⟩
  | true =>
    rw [hc] at hS hI
    obtain ⟨n, rfl, hn, hs, hne, hs0⟩ := chOk hb hc
    have hv : Ev (fun k => impl_Game_votes.f k (n : Int) l) ((n : Int), tabB (winB l) (2 ^ n)) := ev_eqv (Game_votes_ev (n : Int) l hl hs) (by rw [winT_nat])
    obtain ⟨f, hf⟩ := pick_f (L := chR n l) (P := fun s p => (p.2.length ≤ 9) ∧ Ev (fun k => spec_weFind.f k (n : Int) s) (p.1, p.2, true) ∧ Ev (fun k => impl_votes_found.f k (n : Int) (tabB (winB s) (2 ^ n))) (p.1, p.2, true)) ((0, []) : Int × List Int) (fun s hs => by
      obtain ⟨h1, h2⟩ := chR_mem n l s hs
      obtain ⟨k1, k2⟩ := gamesK_sets hn h1
      obtain ⟨t, ht, e⟩ := gamesK_mem h1
      have hne2 := ne_K n hn.2 hn.1 t ht
      rw [← e] at hne2
      obtain ⟨p, ⟨p1, _⟩, e1, e2, _⟩ := (find2_ev n s k1 k2 ⟨hn.1, by omega⟩ hne2.1 hne2.2).1 h2
      exact ⟨p, p1, e1, e2⟩)
    have hlen := chR_len n l
    refine ⟨(chR n l).map (coF f), true, ⟨by rw [List.length_map]; exact hlen, fun c hc => ?_⟩, ?_, ?_⟩
    · obtain ⟨s, hs, rfl⟩ := List.mem_map.1 hc
      exact (hf s hs).1
    · refine Ev.bind hS (ev_pos rfl (Ev.bind (chNeeded_ev n hn l hl hs hne hs0) ?_))
      rw [List.length_map]
      exact sCo_ev n _ (by omega) f (fun s hs => (hf s hs).2.1)
    · refine Ev.bind hI (ev_pos rfl (Ev.bind hv (Ev.bind (chambers_ev n hn l hs hne hs0) ?_)))
      rw [List.length_map]
      exact iCo_ev n _ (by omega) f (fun s hs => (hf s hs).2.2)
def mkCo : Int → List S67 → List S67
  | _, [] => []
  | m, c :: cs => ⟨m, iotaL (m + 1) c.f1.length⟩ :: mkCo (m + 1 + c.f1.length) cs
def totCo : Int → List S67 → Int
  | m, [] => m
  | m, c :: cs => totCo (m + 1 + c.f1.length) cs
theorem mkCo_len : ∀ (l : List S67) (m : Int), (mkCo m l).length = l.length
  | [], _ => rfl
  | c :: cs, m => by rw [mkCo, List.length_cons, List.length_cons, mkCo_len]
theorem totCo_ge : ∀ (l : List S67) (m : Int), m ≤ totCo m l
  | [], _ => Int.le_refl _
  | c :: cs, m => Int.le_trans (by omega) (totCo_ge cs _)
theorem markCoS_l0 : ∀ (rest pre : List S67) (m : Int), pre.length + rest.length ≤ 1000 → (∀ c ∈ rest, c.f1.length ≤ 9) → 0 ≤ m → m + 10 * rest.length ≤ 900000 → Ev (fun k => laws_markCommitteeS.l0 k (pre ++ rest) m (pre.length : Int)) (totCo m rest, pre ++ mkCo m rest)
  | [], pre, m, hl, hx, h0, hm => by
    refine ev_succ ?_
    simp only [laws_markCommitteeS.l0, List.append_nil]
    exact ev_neg (by omega) (ev_eqv (Ev.now _) (by simp [totCo, mkCo]))
  | g :: gs, pre, m, hl, hx, h0, hm => by
    have hg := hx g (List.mem_cons_self ..)
    rw [List.length_cons] at hl hm
    have ih := markCoS_l0 gs (pre ++ [⟨m, iotaL (m + 1) g.f1.length⟩]) (m + 1 + g.f1.length) (by rw [List.length_append, List.length_singleton]; omega) (fun y hy => hx y (List.mem_cons_of_mem _ hy)) (by omega) (by omega)
    refine ev_succ ?_
    simp only [laws_markCommitteeS.l0, Int.toNat_natCast]
    refine ev_pos (by rw [List.length_append, List.length_cons]; omega) (ev_pos (by omega) ?_)
    rw [show (pre ++ g :: gs).getD pre.length z67 = g from by simp [List.getD_eq_getElem?_getD], show wrap64 (m + 1) = m + 1 from wrap64_id (by omega)]
    refine Ev.bind (markIntS_ev g.f1 (m + 1) (by omega) (by omega)) ?_
    simp only [show (pre ++ g :: gs).set pre.length ⟨m, iotaL (m + 1) g.f1.length⟩ = (pre ++ [⟨m, iotaL (m + 1) g.f1.length⟩]) ++ gs from by simp, show wrap64 ((pre.length : Int) + 1) = (((pre ++ [(⟨m, iotaL (m + 1) g.f1.length⟩ : S67)]).length : Nat) : Int) from by rw [List.length_append, List.length_singleton]; unfold wrap64; omega]
    exact ev_eqv ih (by simp [totCo, mkCo])
theorem heldCoS_l0 : ∀ (rest pre : List S67) (m : Int), pre.length + rest.length ≤ 1000 → (∀ c ∈ rest, c.f1.length ≤ 9) → 0 ≤ m → m + 10 * rest.length ≤ 900000 → Ev (fun k => laws_heldCommitteeS.l0 k (pre ++ mkCo m rest) m (pre.length : Int)) (totCo m rest)
  | [], pre, m, hl, hx, h0, hm => by
    refine ev_succ ?_
    simp only [laws_heldCommitteeS.l0, mkCo, List.append_nil]
    exact ev_neg (by omega) (Ev.now _)
  | g :: gs, pre, m, hl, hx, h0, hm => by
    have hg := hx g (List.mem_cons_self ..)
    rw [List.length_cons] at hl hm
    have ih := heldCoS_l0 gs (pre ++ [⟨m, iotaL (m + 1) g.f1.length⟩]) (m + 1 + g.f1.length) (by rw [List.length_append, List.length_singleton]; omega) (fun y hy => hx y (List.mem_cons_of_mem _ hy)) (by omega) (by omega)
    rw [show (pre ++ [(⟨m, iotaL (m + 1) g.f1.length⟩ : S67)]) ++ mkCo (m + 1 + g.f1.length) gs = pre ++ mkCo m (g :: gs) from by simp [mkCo]] at ih
    have hrd : rd_T67 (pre ++ mkCo m (g :: gs)) (pre.length : Int) = ⟨m, iotaL (m + 1) g.f1.length⟩ := by
      unfold rd_T67
      rw [Int.toNat_natCast]
      simp [List.getD_eq_getElem?_getD, mkCo]
    refine ev_succ ?_
    simp only [laws_heldCommitteeS.l0, hrd]
    rw [show wrap64 (m + 1) = m + 1 from wrap64_id (by omega)]
    refine ev_pos (by rw [List.length_append, mkCo_len, List.length_cons]; omega) (ev_pos (by omega) (ev_pos (by first | rfl | trivial) (Ev.bind (heldIntS_ev (m + 1) g.f1.length (by omega) (by omega)) (ev_neg (by omega) ?_))))
    rw [show wrap64 ((pre.length : Int) + 1) = (((pre ++ [(⟨m, iotaL (m + 1) g.f1.length⟩ : S67)]).length : Nat) : Int) from by rw [List.length_append, List.length_singleton]; unfold wrap64; omega]
    exact ih
theorem eqCoS_ev (a : List S67) (hx : CosOk a) : Ev (fun k => laws_eqCommitteeS.f k a a) true := by
  unfold laws_eqCommitteeS.f
  refine ev_pos (by simp) ?_
  refine ev_range a.length (fun k i => laws_eqCommitteeS.l0 k a a (i : Int)) (fun _ => true) ?_ ?_ 0 (Nat.zero_le _)
  · refine ev_succ ?_
    simp only [laws_eqCommitteeS.l0]
    exact ev_neg (by omega) (Ev.now _)
  · intro i hi ih
    have h1 := hx.2 _ (List.getElem_mem hi)
    have h2 := hx.1
    have hrd : rd_T67 a (i : Int) = a[i] := by
      unfold rd_T67
      rw [Int.toNat_natCast]; exact getD_get hi
    refine ev_succ ?_
    simp only [laws_eqCommitteeS.l0, hrd]
    rw [wrap_succ hi (by omega)]
    exact ev_pos (by omega) (ev_pos (by omega) (ev_pos (by omega) (Ev.bind (eqCommittee_ev _ _ _ _ (by omega)) (ev_pos (by simp) ih))))
theorem FnExactChambersOf_pure (a0_0 : Int) (l0_1 : List (List Int)) (g0 : I64 a0_0 ∧ ∀ y ∈ l0_1, ∀ z ∈ y, I64 z) (h1 : l0_1.length ≤ 9223372036854775807) (h2 : ∀ x ∈ l0_1, x.length ≤ 9223372036854775807) : ∃ k, laws_FnExactChambersOf.f k a0_0 l0_1 = some true := by
  refine Ev.rounds ?_
  unfold laws_FnExactChambersOf.f
  obtain ⟨q, hq, hq2⟩ := szGame_ev a0_0 l0_1 1048576 (by decide) h1 h2
  refine Ev.bind hq ?_
  by_cases h : q < 0
  · exact ev_pos h (Ev.now _)
  refine ev_neg h ?_
  obtain ⟨_, _, _, n1, n2⟩ := hq2 h
  have n3 : ∀ x ∈ l0_1, x.length ≤ 1152921504606 := fun x hx => Nat.le_trans (n2 x hx) (by decide)
  have ht := toGame_ev a0_0 l0_1 (by omega) n3
  obtain ⟨r, b, hr, es, ei⟩ := ChambersOf_ev a0_0 l0_1 n1 n2
  have h4 := totS_ge l0_1 1
  have h5 := totCo_ge r 1
  have hm := markCoS_l0 r [] 1 (by have := hr.1; simp; omega) hr.2 (by decide) (by have := hr.1; omega)
  have hh := heldCoS_l0 r [] 1 (by have := hr.1; simp; omega) hr.2 (by decide) (by have := hr.1; omega)
  rw [List.nil_append] at hm hh
  refine Ev.bind ht (Ev.bind es (Ev.bind ei (Ev.bind (eqCoS_ev r hr) (ev_pos rfl (ev_pos rfl (Ev.bind (eqGame_ev a0_0 a0_0 l0_1 l0_1 (by omega) n3) (ev_pos (by simp) (Ev.bind (markIntSS_ev l0_1 n1 n2) (ev_neg (by simp only []; omega) ?_)))))))))
  exact Ev.bind (show Ev (fun k => laws_markCommitteeS.f k r 1) (totCo 1 r, mkCo 1 r) from hm) (Ev.bind (show Ev (fun k => laws_heldCommitteeS.f k (mkCo 1 r) 1) (totCo 1 r) from hh) (ev_neg (by omega) (ev_pos rfl (Ev.now _))))
end Go.Proofs.YtmbkmabpebjboaaGreat.Q
end
section
namespace Go.Proofs.YtmbkmabpebjboaaGreat.Q
open Go.RowKit Go.Proofs.YtmbkmabpebjboaaGreatW.PrintWords Go.Proofs.YtmbkmabpebjboaaGreatW.PrintLast Go.Proofs.YtmbkmabpebjboaaGreatW.PrintMore
set_option linter.unusedVariables false
set_option linter.unusedSimpArgs false
set_option maxRecDepth 100000
section
variable {H : Type} {enc : TypeId × Value → H} {W : World}
theorem opens_ints : Opens enc Tryz.prog W 65 (Kd.slice 3 (Kd.int .i64)) (fun x => ∀ y ∈ x, I64 y) := opens_slice Tryz.underlying65 (by kernel_rfl) (opens_int Tryz.underlying3)
theorem opens_Game : Opens enc Tryz.prog W 24 (Kd.pair (Kd.int .i64) (Kd.slice 65 (Kd.slice 3 (Kd.int .i64)))) (fun x => I64 x.1 ∧ ∀ y ∈ x.2, ∀ z ∈ y, I64 z) :=
  opens_pair Tryz.underlying24 (by kernel_rfl) rfl rfl (by kernel_rfl) (by kernel_rfl) (opens_int Tryz.underlying3) (opens_slice Tryz.underlying22 (by kernel_rfl) opens_ints)
end
open Go.ChangeShapes Go.WideShapes Go.ChangeAt Go.Deep
section
variable {H : Type} {enc : TypeId × Value → H} {W : World} {r : Reach} {b0 : Nat} {v : Value} {y : DataW H} {p : List MemPlace}
theorem arg_Game (hv : Value.okWide Tryz.prog W r b0 24 v) (hr : DataW.Trod enc Tryz.prog W 0 (fun _ => true) true 24 v y p) :
    ∃ a A c l, v = .agg #[.int .i64 a, .slice A (l : List (List Int)).length c] ∧ l.length ≤ c ∧ Kd.C (Kd.slice 3 (Kd.int .i64)) W A l.length l ∧ I64 a ∧ ∀ y ∈ l, ∀ z ∈ y, I64 z := by
  obtain ⟨x, ⟨l⟩, rfl, k, g⟩ := open_struct Tryz.underlying24 hv hr opens_Game
  obtain ⟨_, _, rfl, rfl, ⟨A, c, rfl, hl, hC⟩⟩ := k
  exact ⟨_, A, c, _, rfl, hl, hC, g⟩
theorem C_inner {w : World} {A : Option Addr} {n : Nat} {xs : List (List Int)} (h : Kd.C (Kd.slice 3 (Kd.int .i64)) w A n xs) : ∀ x ∈ xs, x.length ≤ 9223372036854775807 := fun x hx => by
  obtain ⟨j, hj, rfl⟩ := List.mem_iff_getElem.1 hx
  obtain ⟨ad, _, hc⟩ := h.2.2 (by have := h.1; omega)
  obtain ⟨c, _, ⟨_, _, _, _, hC⟩, _⟩ := hc j _ (List.getElem?_eq_getElem hj)
  exact hC.2.1
end
end Go.Proofs.YtmbkmabpebjboaaGreat.Q
end
section
namespace Go.Proofs.YtmbkmabpebjboaaGreat.fnExactChambersOf
open Go.ChangeShapes Go.WideShapes Go.ChangeAt Go.RowKit Go.Proofs.YtmbkmabpebjboaaGreat.Q
open Go.ChangeMaps (open_string shut_string)
set_option linter.unusedVariables false
theorem own : ownKnob Tryz.prog.godebug = none := by kernel_rfl
theorem laidOut : laidOutB Tryz.prog = true := by kernel_rfl
set_option maxRecDepth 100000 in
theorem lifted (os : Os) (started : os.Started) (H : Type) (enc : TypeId × Value → H) :
    ReturnsInHanded {} Tryz.checked os 4 .any (Rows.fnExactChambersOfSpec.pre6 enc Tryz.prog Tryz.f4 Rows.fnExactChambersOfRow.domain false) (Rows.fnExactChambersOfSpec.post enc Tryz.prog Tryz.f4 false true false false) := by
  refine returnsInHanded_of_change_sized (C := Tryz.checked) own started (by kernel_rfl) Tryz.func4
    (ChangeSpec.witness6 (enc := enc) (C := Tryz.checked) false ⟨#[], #[.agg #[.int .i64 0, .slice none 0 0]], []⟩ 8 (by kernel_rfl) (by kernel_rfl) (by kernel_rfl) (by kernel_rfl)) ?_
  intro W base args ds gs before hval0 hW hcnd hsz0 _
  have hsz : (DataW.weightsEach Tryz.prog (Tryz.f4.params.toList ++ Rows.fnExactChambersOfSpec.plain.varTypes Tryz.prog) (ds ++ gs)).all (· ≤ reachBytes) = true := hsz0
  have hval : ∀ (j : Nat) t v, Tryz.f4.params[j]? = some t → args[j]? = some v → Value.okWide Tryz.prog W .any base t v := hval0
  have hW' := hW
  obtain ⟨p, q, hA0, hV, rfl, hfz, hnd⟩ := hW
  have hA : DataW.TrodAll enc Tryz.prog W 0 (fun _ => true) true Tryz.f4.params.toList args.toList ds p := hA0
  rw [Tryz.params4] at hA hval hsz
  obtain ⟨v0, vs0, d0, ds0, p0, q0, hargs, rfl, rfl, h0, r0⟩ := trodAll_cons hA
  obtain ⟨rfl, rfl, rfl⟩ := trodAll_nil r0
  obtain rfl : args = #[v0] := by cases args; simp_all
  obtain ⟨rfl, rfl⟩ := trodVars_none hV
  have k0 := h0
  have lt0 : ∀ x ∈ p0, x.block < W.heap.size := by obtain ⟨m, hm⟩ := k0; exact DataW.trod_lt m _ _ _ hm
  obtain ⟨a0_0, A0_1, c0_1, l0_1, rfl, hc0_1, hr0_1, g0⟩ := arg_Game (hval 0 24 v0 rfl rfl) h0
  clear hA0 hval0 hsz0 hsz
  obtain ⟨k, hk⟩ := FnExactChambersOf_pure a0_0 l0_1 g0 hr0_1.2.1 (C_inner hr0_1)
  refine (laws_FnExactChambersOf.calls k a0_0 A0_1 c0_1 l0_1 true W hr0_1 hc0_1 hk).mono fun e W' ⟨he, bel⟩ => ?_
  subst he
  exact ⟨_, rfl, _, _, _, [], _, [], hW', trodAll_mk1 (shut_bool Tryz.underlying4 _), (trodAll_cons_mk (Below.trod laidOut (by kernel_rfl) (of_decide_eq_true (by kernel_rfl)) k0 bel lt0) trodAll_mk0), rfl, bel.frame _, fun h => by cases h⟩
theorem over : Rows.fnExactChambersOfRow.holds Tryz.pinned (OpenSpec.ofChange Rows.fnExactChambersOfSpec) :=
  OpenClaim.holds_of_wide 4 Tryz.f4 rfl rfl rfl rfl rfl rfl rfl ⟨rfl, rfl, rfl, rfl, rfl⟩ rfl rfl rfl rfl rfl (by kernel_rfl) Tryz.func4 (by kernel_rfl)
    (of_decide_eq_true (by kernel_rfl)) (by unfold Func.isWrapper; first | (rw [if_pos (by decide +kernel)]; kernel_rfl) | (rw [if_neg (by decide +kernel)]; exact ⟨rfl, rfl⟩))
    (fun os started H enc _ => lifted os started H enc)
theorem proved : Rows.FnExactChambersOfSaid := over
end Go.Proofs.YtmbkmabpebjboaaGreat.fnExactChambersOf
namespace Go.Proofs.YtmbkmabpebjboaaGreat
theorem fnExactChambersOf_holds : Rows.FnExactChambersOfSaid := fnExactChambersOf.proved
end Go.Proofs.YtmbkmabpebjboaaGreat
end
#print axioms Go.Proofs.YtmbkmabpebjboaaGreat.fnExactChambersOf_holds

/- Part 8 of the proof of FnExactChambersOf: what it leans on (no condition). -/
import Derived.Test.YtmbkmabpebjboaaGreatKFnExactChambersOf7
section
namespace Go.Proofs.YtmbkmabpebjboaaGreat.Q
open Go.RowKit Go.Proofs.YtmbkmabpebjboaaGreatW.PrintWords Go.Proofs.YtmbkmabpebjboaaGreatW.PrintLast Go.Proofs.YtmbkmabpebjboaaGreatW.PrintMore
set_option linter.unusedVariables false
set_option linter.unusedSimpArgs false
def chF {α : Type} (tb : α → Nat) (want : Nat) : List α → Nat → Nat → Option (List α)
  | [], 0, now => if now = want then some [] else none
  | [], _ + 1, _ => none
  | _ :: _, 0, now => if now = want then some [] else none
  | x :: xs, m + 1, now => match chF tb want xs m (now &&& tb x) with
    | some r => some (x :: r)
    | none => chF tb want xs (m + 1) now
theorem chF_zero {α : Type} (tb : α → Nat) (want : Nat) (l : List α) (now : Nat) : chF tb want l 0 now = if now = want then some [] else none := by
  cases l <;> rfl
theorem chF_at {α : Type} (tb : α → Nat) (want : Nat) (m now : Nat) (x : α) (xs : List α) (h : chF tb want xs m (now &&& tb x) ≠ none) : ∀ a : List α, chF tb want (a ++ x :: xs) (m + 1) now ≠ none
  | [] => by
    rw [List.nil_append, chF]
    cases e : chF tb want xs m (now &&& tb x) with
    | none => exact absurd e h
    | some r => exact Option.some_ne_none _
  | y :: a => by
    rw [List.cons_append, chF]
    cases chF tb want (a ++ x :: xs) m (now &&& tb y) with
    | none => exact chF_at tb want m now x xs h a
    | some r => exact Option.some_ne_none _
theorem chF_one {α : Type} (tb : α → Nat) (want now : Nat) (l : List α) (x : α) (hx : x ∈ l) (h : now &&& tb x = want) : chF tb want l 1 now ≠ none := by
  obtain ⟨a, xs, rfl⟩ := List.append_of_mem hx
  refine chF_at tb want 0 now x xs ?_ a
  rw [chF_zero, if_pos h]; exact Option.some_ne_none _
theorem split_two {α : Type} {x y : α} (hne : x ≠ y) : ∀ l : List α, x ∈ l → y ∈ l → (∃ a xs, l = a ++ x :: xs ∧ y ∈ xs) ∨ (∃ a xs, l = a ++ y :: xs ∧ x ∈ xs)
  | [], h, _ => by cases h
  | z :: l, hx, hy => by
    rcases List.mem_cons.1 hx with rfl | hx2
    · rcases List.mem_cons.1 hy with rfl | hy2
      · exact absurd rfl hne
      · exact .inl ⟨[], l, rfl, hy2⟩
    · rcases List.mem_cons.1 hy with rfl | hy2
      · exact .inr ⟨[], l, rfl, hx2⟩
      · rcases split_two hne l hx2 hy2 with ⟨a, xs, e, h⟩ | ⟨a, xs, e, h⟩
        · exact .inl ⟨z :: a, xs, by rw [e]; rfl, h⟩
        · exact .inr ⟨z :: a, xs, by rw [e]; rfl, h⟩
theorem chF_two {α : Type} (tb : α → Nat) (want now : Nat) (l : List α) (x y : α) (hx : x ∈ l) (hy : y ∈ l) (hne : x ≠ y) (h : now &&& tb x &&& tb y = want) : chF tb want l 2 now ≠ none := by
  rcases split_two hne l hx hy with ⟨a, xs, e, h2⟩ | ⟨a, xs, e, h2⟩
  · rw [e]; exact chF_at tb want 1 now x xs (chF_one tb want _ xs y h2 h) a
  · rw [e]; exact chF_at tb want 1 now y xs (chF_one tb want _ xs x h2 (by rw [Nat.and_assoc, Nat.and_comm (tb y), ← Nat.and_assoc]; exact h)) a
theorem chF_mem {α : Type} (tb : α → Nat) (want : Nat) : ∀ (l : List α) (m now : Nat) (r : List α), chF tb want l m now = some r → (∀ x ∈ r, x ∈ l) ∧ r.length = m
  | l, 0, now, r, h => by
    rw [chF_zero] at h
    split at h
    · obtain rfl := Option.some.inj h; exact ⟨fun _ hx => (by cases hx), rfl⟩
    · cases h
  | [], m + 1, now, r, h => by cases h
  | x :: xs, m + 1, now, r, h => by
    rw [chF] at h
    cases e : chF tb want xs m (now &&& tb x) with
    | some r1 =>
      rw [e] at h
      obtain rfl := Option.some.inj h
      obtain ⟨h1, h2⟩ := chF_mem tb want xs m _ r1 e
      exact ⟨fun y hy => (List.mem_cons.1 hy).elim (fun e => e ▸ List.mem_cons_self ..) (fun hy => List.mem_cons_of_mem _ (h1 y hy)), by rw [List.length_cons, h2]⟩
    | none =>
      rw [e] at h
      obtain ⟨h1, h2⟩ := chF_mem tb want xs (m + 1) now r h
      exact ⟨fun y hy => List.mem_cons_of_mem _ (h1 y hy), h2⟩
def chL {α : Type} (tb : α → Nat) (want now : Nat) (l : List α) : List α := match chF tb want l 1 now with
  | some r => r
  | none => (chF tb want l 2 now).getD []
def codeK (t : List Bool) : Nat := encT (fun i => t.getD i false) t.length
def comT (n : Nat) (t : List Bool) : Bool := comA (fun i => t.getD i false) n
def dimC (n : Nat) (all : List (Bool × Nat)) : Bool := all.all fun t => t.1 || all.any fun a => a.1 && t.2 &&& a.2 == t.2 && all.any fun b => b.1 && !(a.2 == b.2) && a.2 &&& b.2 == t.2
def dimB (n : Nat) : Bool := dimC n ((tabsK n).map fun t => (comT n t, codeK t))
theorem dim_K : ∀ n : Nat, n < 5 → 1 ≤ n → dimB n = true := by decide +kernel
theorem any_eq_mem {α : Type} {p q : α → Bool} : ∀ {l : List α}, (∀ x ∈ l, p x = q x) → l.any p = l.any q
  | [], _ => rfl
  | x :: xs, h => by rw [List.any_cons, List.any_cons, h x (List.mem_cons_self ..), any_eq_mem fun y hy => h y (List.mem_cons_of_mem _ hy)]
theorem votesOf_l0 (p : Int → Option Bool) (q : Nat → Bool) (a n : Nat) (m : Int) (hn : n ≤ 1048576) (h : ∀ i, i < n → p (i : Int) = some (q i)) : Ev (fun k => impl_votesOf.l0 p k (n : Int) 0 m (List.replicate n false)) (m, tabB q n) := by
  have := ev_range n (fun k i => impl_votesOf.l0 p k (n : Int) (i : Int) m (tabB q i ++ List.replicate (n - i) false)) (fun _ => (m, tabB q n)) ?_ ?_ 0 (Nat.zero_le _)
  · simpa [tabB] using this
  · refine ev_succ ?_
    simp only [impl_votesOf.l0]
    exact ev_neg (Int.lt_irrefl _) (ev_eqv (Ev.now _) (by simp))
  · intro i hi ih
    refine ev_succ ?_
    simp only [impl_votesOf.l0]
    have hlen : (tabB q i ++ List.replicate (n - i) false).length = n := by rw [List.length_append, tabB_len, List.length_replicate]; omega
    refine ev_pos (by omega) (ev_bindS (h i hi) (ev_pos (by omega) (ev_pos (by rw [hlen]; omega) ?_)))
    rw [wrap_succ hi (Nat.le_trans hn (by decide)), Int.toNat_natCast, show n - i = (n - (i + 1)) + 1 by omega, List.replicate_succ, tabB_set, tabB_next]
    exact ih
theorem votesOf_ev (p : Int → Option Bool) (q : Nat → Bool) (m : Int) (hm : 0 ≤ m ∧ m ≤ 9) (h : ∀ i : Nat, i < 2 ^ m.toNat → p (i : Int) = some (q i)) : Ev (fun k => impl_votesOf.f k m p) (m, tabB q (2 ^ m.toNat)) := by
  have hp : 2 ^ m.toNat ≤ 512 := Nat.pow_le_pow_right (n := 2) (by decide) (show m.toNat ≤ 9 by omega)
  have hs : shl .i64 1 m = ((2 ^ m.toNat : Nat) : Int) := by rw [shl_one m (by omega)]; simp
  have hl0 := votesOf_l0 p q 0 (2 ^ m.toNat) m (by omega) h
  unfold impl_votesOf.f
  refine ev_pos hm.1 ?_
  rw [hs]
  generalize 2 ^ m.toNat = n at *
  have hn2 : (n : Int).toNat ≤ 281474976710656 := by rw [Int.toNat_natCast]; exact Nat.le_trans hp (by decide)
  refine ev_pos (Int.natCast_nonneg n) (ev_pos hn2 (ev_bindS rfl ?_))
  simp only [Int.toNat_natCast, List.length_replicate]
  exact hl0
theorem votesBy_l0 (m : Int) (l : List (List Int)) (hl : l.length ≤ 1048576) (h : SetsOk m l) : Ev (fun k => impl_votesBy.l0 k m l (l.length : Int) 0 []) (m, winT m l) := by
  have := ev_range l.length (fun k i => impl_votesBy.l0 k m l (l.length : Int) (i : Int) ((l.take i).map fun s => ((maskN 0 s : Nat) : Int))) (fun _ => (m, winT m l)) ?_ ?_ 0 (Nat.zero_le _)
  · simpa using this
  · refine ev_succ ?_
    simp only [impl_votesBy.l0]
    refine ev_neg (Int.lt_irrefl _) ?_
    rw [List.take_length]
    unfold votesOf_votesBy.f
    refine Ev.bind (votesOf_ev _ (winB l) m (by have := h.1; omega) (fun i hi => ?_)) (Ev.now _)
    have hp := pow_le512 h.1
    rw [anyO_some (q := fun x => Go.bits .and .i64 (i : Int) x == x) (fun _ _ => rfl), List.any_map]
    congr 1
    unfold winB
    refine any_eq_mem fun s hs => ?_
    obtain ⟨j, hj, rfl⟩ := List.mem_iff_getElem.1 hs
    have hlt := h.lt hj
    unfold mk at hlt
    rw [getD_get hj] at hlt
    exact and_self_nat (by omega) hlt
  · intro i hi ih
    refine ev_succ ?_
    simp only [impl_votesBy.l0]
    refine ev_pos (by omega) (ev_pos (by omega) (ev_pos (by omega) ?_))
    rw [rdL1_get hi, wrap_succ hi (Nat.le_trans hl (by decide))]
    have hm := (h.masks hi).1
    have hk : mk l i = maskN 0 l[i] := by unfold mk; rw [getD_get hi]
    rw [hk] at hm
    refine Ev.bind hm (ev_pos (by rw [List.length_map, List.length_take]; omega) ?_)
    rw [List.take_succ_eq_append_getElem hi, List.map_append] at ih
    exact ih
theorem votesBy_ev (m : Int) (l : List (List Int)) (hl : l.length ≤ 1048576) (h : SetsOk m l) : Ev (fun k => impl_votesBy.f k m l) (m, winT m l) := by
  unfold impl_votesBy.f
  exact votesBy_l0 m l hl h
theorem Game_votes_ev (m : Int) (l : List (List Int)) (hl : l.length ≤ 1048576) (h : SetsOk m l) : Ev (fun k => impl_Game_votes.f k m l) (m, winT m l) := by
  unfold impl_Game_votes.f
  exact Ev.bind (votesBy_ev m l hl h) (Ev.now _)
def mkG (n : Nat) (s : List (List Int)) : S28 := ⟨(n : Int), s⟩
theorem tab_self {N : Nat} (t : List Bool) (h : t.length = N) : tabB (fun i => t.getD i false) N = t := by
  refine List.ext_getElem (by rw [tabB_len, h]) fun i h1 h2 => ?_
  rw [tabB_get, getD_get h2]
theorem gmBefore_ev (a b : Int) (l1 l2 : List (List Int)) (h1 : l1.length ≤ 1048576) (hx : ∀ x ∈ l1, x.length ≤ 1048576) (hy : ∀ x ∈ l2, x.length ≤ 1048576) : Ev (fun k => spec_gmBefore.f k a l1 b l2) (lexG l1 l2) := by
  unfold spec_gmBefore.f
  have := ev_range l1.length (fun k i => spec_gmBefore.l0 k l1 (l1.length : Int) (i : Int) a l1 b l2) (fun i => lexG (l1.drop i) (l2.drop i)) ?_ ?_ 0 (Nat.zero_le _)
  · simpa using this
  · refine ev_succ ?_
    simp only [spec_gmBefore.l0]
    refine ev_neg (by omega) (ev_eqv (Ev.now _) ?_)
    rw [drop_end]
    by_cases h : l1.length < l2.length
    · rw [List.drop_eq_getElem_cons h]; exact decide_eq_true (by omega)
    · rw [List.drop_of_length_le (Nat.le_of_not_lt h)]; exact decide_eq_false (by omega)
  · intro i hi ih
    refine ev_succ ?_
    simp only [spec_gmBefore.l0]
    refine ev_pos (by omega) (ev_pos (by omega) (ev_pos (by omega) ?_))
    rw [List.drop_eq_getElem_cons hi]
    by_cases h : i < l2.length
    · refine ev_neg (by omega) (ev_pos (by omega) ?_)
      rw [rdL1_get hi, rdL1_get h, wrap_succ hi (Nat.le_trans h1 (by decide)), List.drop_eq_getElem_cons h]
      refine Ev.bind (voBefore_ev _ _ (Nat.le_trans (hx _ (List.getElem_mem hi)) (by decide))) (ev_bool (fun e => ?_) (fun e => ?_))
      · refine ev_eqv (Ev.now _) ?_
        unfold lexG
        rw [if_neg (fun e2 => by rw [e2, lexB_irrefl] at e; cases e)]
        exact e.symm
      · refine Ev.bind (voBefore_ev _ _ (Nat.le_trans (hy _ (List.getElem_mem h)) (by decide))) (ev_bool (fun e2 => ?_) (fun e2 => ?_))
        · refine ev_eqv (Ev.now _) ?_
          unfold lexG
          rw [if_neg (fun e3 => by rw [e3, lexB_irrefl] at e2; cases e2)]
          exact e.symm
        · have := lexB_total _ _ e e2
          unfold lexG
          rw [if_pos this]
          exact ih
    · rw [List.drop_of_length_le (Nat.le_of_not_lt h)]
      exact ev_pos (by omega) (Ev.now _)
theorem sortL_map {α β : Type} (lt : α → α → Bool) (lt' : β → β → Bool) (f : α → β) (h : ∀ a b, lt' (f a) (f b) = lt a b) (l : List α) : sortL lt' (l.map f) = (sortL lt l).map f := by
  have hi : ∀ x (ys : List α), insL lt' (f x) (ys.map f) = (insL lt x ys).map f := by
    intro x ys
    induction ys with
    | nil => rfl
    | cons y ys ih =>
      simp only [List.map_cons, insL, h]
      split
      · rw [ih]; rfl
      · rfl
  have : ∀ (l out : List α), (l.map f).foldl (fun out x => insL lt' x out) (out.map f) = (l.foldl (fun out x => insL lt x out) out).map f := by
    intro l
    induction l with
    | nil => intro out; rfl
    | cons x l ih => intro out; simp only [List.map_cons, List.foldl_cons]; rw [hi]; exact ih _
  exact this l []
def posL {α : Type} (lt : α → α → Bool) (x : α) : List α → Nat
  | [] => 0
  | y :: ys => if lt y x = true then posL lt x ys + 1 else 0
theorem insL_pos {α : Type} (lt : α → α → Bool) (x : α) : ∀ l, l.take (posL lt x l) ++ [x] ++ l.drop (posL lt x l) = insL lt x l
  | [] => rfl
  | y :: ys => by
    have ih := insL_pos lt x ys
    unfold posL insL
    by_cases h : lt y x = true
    · simp only [if_pos h, List.take_succ_cons, List.drop_succ_cons, List.cons_append]; rw [ih]
    · simp only [if_neg h]; rfl
def ltG (a b : S28) : Bool := lexG a.f1 b.f1
def GOk (g : S28) : Prop := g.f1.length ≤ 1048576 ∧ ∀ x ∈ g.f1, x.length ≤ 1048576
theorem pzPos_ev (g : S28) (hg : GOk g) : ∀ (l : List S28) (i : Nat), (∀ x ∈ l, GOk x) → Ev (fun k => pzPos k g l i) (i + posL ltG g l)
  | [], _, _ => Ev.now _
  | x :: xs, i, h => by
    have hx := h x (List.mem_cons_self ..)
    unfold pzPos posL
    refine Ev.bind (gmBefore_ev _ _ _ _ hx.1 hx.2 hg.2) (ev_bool (fun e => ?_) (fun e => ?_))
    · have e' : ltG x g = true := e
      rw [if_pos e']
      exact ev_eqv (pzPos_ev g hg xs (i + 1) (fun y hy => h y (List.mem_cons_of_mem _ hy))) (by omega)
    · have e' : ¬ ltG x g = true := by rw [show ltG x g = false from e]; decide
      rw [if_neg e']; exact Ev.now _
theorem pzSort_ev : ∀ (gs outs : List S28), (∀ x ∈ gs, GOk x) → (∀ x ∈ outs, GOk x) → Ev (fun k => pzSort k gs outs) (gs.foldl (fun out x => insL ltG x out) outs)
  | [], _, _, _ => Ev.now _
  | g :: gs, outs, h, ho => by
    have hg := h g (List.mem_cons_self ..)
    unfold pzSort pzIns
    refine Ev.bind (Ev.bind (ev_eqv (pzPos_ev g hg outs 0 ho) (Nat.zero_add _)) (Ev.now _)) ?_
    rw [insL_pos, List.foldl_cons]
    exact pzSort_ev gs _ (fun x hx => h x (List.mem_cons_of_mem _ hx)) (fun x hx => by
      rcases List.mem_cons.1 ((insL_perm ltG g outs).mem_iff.1 hx) with rfl | h2
      · exact hg
      · exact ho x h2)
theorem lookT_some {n : Nat} (hn : n < 5) : lookT (2 ^ n) [] = some (tabsK n) := by
  have h := look_K n hn
  unfold tabsK
  cases e : lookT (2 ^ n) [] with
  | none => rw [e] at h; cases h
  | some ts => rfl
theorem leastK_ok {n : Nat} (hn : 1 ≤ n ∧ n < 5) {t : List Bool} (ht : t ∈ tabsK n) : GOk (mkG n (leastK t)) := by
  have h := sets_K n hn.2 hn.1 t ht
  exact ⟨Nat.le_trans h.1 (by decide), fun x hx => Nat.le_trans (h.2 x hx).2 (by decide)⟩
theorem allGames_ev {n : Nat} (hn : 1 ≤ n ∧ n < 5) : Ev (fun k => impl_allGames.f k n) ((gamesK n).map (mkG n)) := by
  have h := games_K n hn.2 hn.1
  cases e : impl_allGames.f 1200 n with
  | none => rw [e] at h; cases h
  | some gs =>
    rw [e] at h
    have h2 := Option.some.inj h
    have : gs = (gamesK n).map (mkG n) := by
      have h3 := congrArg (List.map fun (p : Int × List (List Int)) => (⟨p.1, p.2⟩ : S28)) h2
      rw [List.map_map, List.map_map] at h3
      rw [show (gs.map ((fun (p : Int × List (List Int)) => (⟨p.1, p.2⟩ : S28)) ∘ fun g => (g.f0, g.f1))) = gs from (List.map_congr_left (fun _ _ => rfl)).trans (List.map_id _)] at h3
      exact h3
    rw [← this]
    exact Ev.of (impl_allGames.mono _) e
theorem gamesK_mem {n : Nat} {s : List (List Int)} (h : s ∈ gamesK n) : ∃ t ∈ tabsK n, s = leastK t := by
  obtain ⟨t, ht, rfl⟩ := List.mem_map.1 ((sortL_perm lexG _).mem_iff.1 h)
  exact ⟨t, ht, rfl⟩
theorem gamesK_sets {n : Nat} (hn : 1 ≤ n ∧ n < 5) {s : List (List Int)} (h : s ∈ gamesK n) : s.length ≤ 1048576 ∧ SetsOk n s := by
  obtain ⟨t, ht, rfl⟩ := gamesK_mem h
  have h := sets_K n hn.2 hn.1 t ht
  exact ⟨Nat.le_trans h.1 (by decide), ⟨by omega, fun x hx => ⟨(h.2 x hx).1, Nat.le_trans (h.2 x hx).2 (by decide)⟩⟩⟩
def covT (o t : List Bool) : Bool := (List.range t.length).all fun i => !o.getD i false || t.getD i false
theorem covT_snoc {o p ts : List Bool} (h : covT o (p ++ [false] ++ ts) = true) : o.getD p.length false = false := by
  unfold covT at h
  rw [List.all_eq_true] at h
  have := h p.length (List.mem_range.2 (by rw [List.length_append, List.length_append, List.length_singleton]; omega))
  rw [List.getD_eq_getElem?_getD (l := p ++ [false] ++ ts), List.append_assoc, List.getElem?_append_right (Nat.le_refl _), Nat.sub_self] at this
  simpa using this
theorem lookT_pre : ∀ (d : Nat) (p : List Bool) (ts : List (List Bool)), lookT d p = some ts → ∀ t ∈ ts, ∃ r, t = p ++ r
  | 0, p, ts, h, t, ht => by
    unfold lookT at h
    obtain rfl := Option.some.inj h
    split at ht
    · cases ht
    · split at ht
      · cases ht
      · exact ⟨[], by rw [List.mem_singleton.1 ht, List.append_nil]⟩
  | d + 1, p, ts, h, t, ht => by
    unfold lookT at h
    obtain ⟨m, _, h⟩ := Option.bind_eq_some_iff.mp h
    obtain ⟨l1, h1, h⟩ := Option.bind_eq_some_iff.mp h
    have k1 : ∀ t ∈ l1, ∃ r, t = p ++ r := fun t ht => by
      obtain ⟨r, hr⟩ := lookT_pre d _ l1 h1 t ht
      exact ⟨[true] ++ r, by rw [hr, List.append_assoc]⟩
    split at h
    · obtain rfl := Option.some.inj h
      exact k1 t ht
    · obtain ⟨l2, h2, h⟩ := Option.bind_eq_some_iff.mp h
      obtain rfl := Option.some.inj h
      rcases List.mem_append.1 ht with ht | ht
      · exact k1 t ht
      · obtain ⟨r, hr⟩ := lookT_pre d _ l2 h2 t ht
        exact ⟨[false] ++ r, by rw [hr, List.append_assoc]⟩
theorem mustO_true (p : List Bool) : ∀ s, mustO p s true = some true
  | [] => rfl
  | i :: s => by unfold mustO; rw [if_pos rfl]; exact mustO_true p s
def okT (n : Nat) (o t : List Bool) : Bool := covT o t && comT n t
theorem chW_ev {n : Nat} (hn : 1 ≤ n ∧ n < 5) (o : List Bool) : ∀ (d : Nat) (p : List Bool) (ts : List (List Bool)), p.length + d ≤ 16 → lookT d p = some ts → (∀ t ∈ ts, t ∈ tabsK n) → covT o p = true →
    Ev (fun k => spec_chWeighted.f k n o d p) ((ts.filter (okT n o)).map fun t => mkG n (leastK t))
  | 0, p, ts, _, h, hm, hc => by
    unfold lookT at h
    obtain rfl := Option.some.inj h
    unfold spec_chWeighted.f
    by_cases h1 : rdOf false p ((p.length - 1 : Nat) : Int) = true
    · refine ev_pos h1 ?_
      rw [if_neg (by rw [h1]; decide)] at hm ⊢
      by_cases h2 : rdOf false p 0 = true
      · refine ev_pos h2 (ev_eqv (Ev.now _) ?_)
        rw [if_pos h2]; rfl
      · refine ev_neg h2 ?_
        rw [if_neg h2] at hm ⊢
        have hp := hm p (List.mem_singleton.2 rfl)
        have hcm := deComplete_ev (fun i => p.getD i false) n (by omega)
        rw [tab_self p ((len_K n hn.2 hn.1).2 p hp)] at hcm
        refine Ev.bind hcm (ev_bool (fun e => ?_) (fun e => ?_))
        · refine Ev.bind (Ev.of (spec_gmOf.mono _ _) (gmOf_K n hn.2 hn.1 p hp)) (ev_eqv (Ev.now _) ?_)
          rw [List.filter_cons_of_pos (by unfold okT comT; rw [hc, e]; rfl)]; rfl
        · rw [List.filter_cons_of_neg (by unfold okT comT; rw [e, Bool.and_false]; decide)]; exact Ev.now _
    · refine ev_neg h1 (ev_eqv (Ev.now _) ?_)
      rw [if_pos (eq_false_of_ne_true h1)]; rfl
  | d + 1, p, ts, hd, h, hm, hc => by
    unfold lookT at h
    obtain ⟨m, hmu, h⟩ := Option.bind_eq_some_iff.mp h
    obtain ⟨l1, h1, h⟩ := Option.bind_eq_some_iff.mp h
    have snoc : ∀ b : Bool, (o.getD p.length false = true → b = true) → covT o (p ++ [b]) = true := fun b hb => by
      unfold covT at *
      rw [List.all_eq_true] at *
      intro i hi
      have hi := List.mem_range.1 hi
      rw [List.length_append, List.length_singleton] at hi
      by_cases e : i = p.length
      · subst e
        rw [List.getD_eq_getElem?_getD (l := p ++ [b]), List.getElem?_append_right (Nat.le_refl _), Nat.sub_self]
        cases ho : o.getD p.length false with
        | false => rfl
        | true => rw [hb ho]; rfl
      · have := hc i (List.mem_range.2 (by omega))
        rwa [List.getD_eq_getElem?_getD (l := p ++ [b]), List.getElem?_append_left (by omega), ← List.getD_eq_getElem?_getD]
    unfold spec_chWeighted.f
    refine Ev.bind (Ev.of (spec_voList.mono _) (voList_K p.length (by omega))) ?_
    have hrd : rdOf false o (p.length : Int) = o.getD p.length false := by unfold rdOf; rw [Int.toNat_natCast]
    rw [hrd]
    cases ho : o.getD p.length false with
    | true =>
      refine ev_bindS (mustO_true p _) ?_
      have e1 := chW_ev hn o d (p ++ [true]) l1 (by rw [List.length_append, List.length_singleton]; omega) h1
      cases m with
      | true =>
        rw [if_pos rfl] at h
        obtain rfl := Option.some.inj h
        exact Ev.bind (e1 hm (snoc true (fun _ => rfl))) (ev_pos rfl (Ev.now _))
      | false =>
        rw [if_neg (by decide)] at h
        obtain ⟨l2, h2, h⟩ := Option.bind_eq_some_iff.mp h
        obtain rfl := Option.some.inj h
        refine Ev.bind (e1 (fun t ht => hm t (List.mem_append_left _ ht)) (snoc true (fun _ => rfl))) (ev_pos rfl (ev_eqv (Ev.now _) ?_))
        rw [List.filter_append, (List.filter_eq_nil_iff (l := l2)).2 (fun t ht hx => ?_), List.append_nil]
        obtain ⟨r, hr⟩ := lookT_pre d _ l2 h2 t ht
        unfold okT at hx
        rw [Bool.and_eq_true] at hx
        have := covT_snoc (hr ▸ hx.1)
        rw [ho] at this; cases this
    | false =>
      refine ev_bindS hmu ?_
      cases m with
      | true =>
        rw [if_pos rfl] at h
        obtain rfl := Option.some.inj h
        exact Ev.bind (chW_ev hn o d (p ++ [true]) l1 (by rw [List.length_append, List.length_singleton]; omega) h1 hm (snoc true (fun _ => rfl))) (ev_pos rfl (Ev.now _))
      | false =>
        rw [if_neg (by decide)] at h
        obtain ⟨l2, h2, h⟩ := Option.bind_eq_some_iff.mp h
        obtain rfl := Option.some.inj h
        refine Ev.bind (chW_ev hn o d (p ++ [true]) l1 (by rw [List.length_append, List.length_singleton]; omega) h1 (fun t ht => hm t (List.mem_append_left _ ht)) (snoc true (fun _ => rfl))) (ev_neg (by decide) (Ev.bind (chW_ev hn o d (p ++ [false]) l2 (by rw [List.length_append, List.length_singleton]; omega) h2 (fun t ht => hm t (List.mem_append_right _ ht)) (snoc false (fun h => by rw [ho] at h; cases h))) (ev_eqv (Ev.now _) ?_)))
        rw [List.filter_append, List.map_append]
theorem gamesK_filter {n : Nat} (hn : 1 ≤ n ∧ n < 5) (q : List Bool → Bool) : sortL ltG (((tabsK n).filter q).map fun t => mkG n (leastK t)) = ((gamesK n).filter fun s => q (winT n s)).map (mkG n) := by
  have e : (((tabsK n).filter q).map fun t => mkG n (leastK t)) = (((tabsK n).map leastK).filter fun s => q (winT n s)).map (mkG n) := by
    rw [List.filter_map, List.map_map]
    refine congrArg _ (List.filter_congr fun t ht => ?_)
    show q t = q (winT n (leastK t))
    rw [win_K n hn.2 hn.1 t ht]
  rw [e, sortL_map lexG ltG (mkG n) (fun _ _ => rfl), sort_filter lexG lexG_ntrans (fun _ _ => lexG_asymm) lexG_total]
  rfl
def chG (n : Nat) (o : List Bool) : List (List (List Int)) := (gamesK n).filter fun s => okT n o (winT n s)
theorem chGames_ev {n : Nat} (hn : 1 ≤ n ∧ n < 5) (l : List (List Int)) (hl : l.length ≤ 1048576) (hs : SetsOk (n : Int) l) : Ev (fun k => spec_chGames.f k n l) ((chG n (winT n l)).map (mkG n)) := by
  unfold spec_chGames.f
  have h4 : 2 ^ n ≤ 16 := Nat.pow_le_pow_right (n := 2) (by decide) (show n ≤ 4 by omega)
  have hgm : Ev (fun k => spec_gmAll.f k (n : Int) l) (winT n l) := by
    unfold spec_gmAll.f
    exact Ev.bind (gmWins_ev (n : Int) l hl hs) (Ev.now _)
  refine ev_pos (by omega) (Ev.bind hgm ?_)
  refine ev_pos (by unfold winT; rw [tabB_len, Int.toNat_natCast]) ?_
  rw [Int.toNat_natCast]
  refine Ev.bind (chW_ev hn _ (2 ^ n) [] (tabsK n) (by simpa using h4) (lookT_some hn.2) (fun _ h => h) rfl) (ev_pos ?_ (ev_eqv (pzSort_ev _ [] ?_ ?_) (gamesK_filter hn _)))
  · rw [List.length_map]
    exact Nat.le_trans (List.length_filter_le _ _) (len_K n hn.2 hn.1).1
  · intro x hx
    obtain ⟨t, ht, rfl⟩ := List.mem_map.1 hx
    exact leastK_ok hn (List.mem_filter.1 ht).1
  · intro x hx; cases hx
def chI {α : Type} (tb : α → Nat) (want : Nat) : List α → Nat → Nat → Nat → Option (List Int)
  | [], _, 0, now => if now = want then some [] else none
  | [], _, _ + 1, _ => none
  | _ :: _, _, 0, now => if now = want then some [] else none
  | x :: xs, p, m + 1, now => match chI tb want xs (p + 1) m (now &&& tb x) with
    | some r => some ((p : Int) :: r)
    | none => chI tb want xs (p + 1) (m + 1) now
theorem chI_zero {α : Type} (tb : α → Nat) (want : Nat) (l : List α) (p now : Nat) : chI tb want l p 0 now = if now = want then some [] else none := by
  cases l <;> rfl
theorem chI_chF {α : Type} (tb : α → Nat) (want : Nat) (L : List α) (d : α) : ∀ (xs : List α) (p m now : Nat), L.drop p = xs → (chI tb want xs p m now).map (List.map fun i => L.getD i.toNat d) = chF tb want xs m now
  | xs, p, 0, now, _ => by rw [chI_zero, chF_zero]; split <;> rfl
  | [], _, _ + 1, _, _ => rfl
  | x :: xs, p, m + 1, now, h => by
    have h1 : L.drop (p + 1) = xs := by rw [← List.drop_drop, h]; rfl
    have hx : L.getD p d = x := by
      have := congrArg (fun l => l.getD 0 d) h
      simpa [List.getD_eq_getElem?_getD] using this
    have e1 := chI_chF tb want L d xs (p + 1) m (now &&& tb x) h1
    have e2 := chI_chF tb want L d xs (p + 1) (m + 1) now h1
    rw [chI, chF, ← e1]
    cases chI tb want xs (p + 1) m (now &&& tb x) with
    | some r => simp only [Option.map_some, List.map_cons, Int.toNat_natCast, hx]
    | none => exact e2
theorem chI_in {α : Type} (tb : α → Nat) (want : Nat) : ∀ (xs : List α) (p m now : Nat) (r : List Int), chI tb want xs p m now = some r → ∀ i ∈ r, (p : Int) ≤ i ∧ i < ((p + xs.length : Nat) : Int)
  | xs, p, 0, now, r, h => by
    rw [chI_zero] at h
    split at h
    · obtain rfl := Option.some.inj h; intro i hi; cases hi
    · cases h
  | [], _, _ + 1, _, _, h => by cases h
  | x :: xs, p, m + 1, now, r, h => by
    rw [chI] at h
    rw [List.length_cons]
    cases e : chI tb want xs (p + 1) m (now &&& tb x) with
    | some r1 =>
      rw [e] at h
      obtain rfl := Option.some.inj h
      intro i hi
      rcases List.mem_cons.1 hi with rfl | hi
      · omega
      · have := chI_in tb want xs (p + 1) m _ r1 e i hi
        omega
    | none =>
      rw [e] at h
      intro i hi
      have := chI_in tb want xs (p + 1) (m + 1) now r h i hi
      omega
theorem chI_len {α : Type} (tb : α → Nat) (want : Nat) : ∀ (xs : List α) (p m now : Nat) (r : List Int), chI tb want xs p m now = some r → r.length = m
  | xs, p, 0, now, r, h => by
    rw [chI_zero] at h
    split at h
    · obtain rfl := Option.some.inj h; rfl
    · cases h
  | [], _, _ + 1, _, _, h => by cases h
  | x :: xs, p, m + 1, now, r, h => by
    rw [chI] at h
    cases e : chI tb want xs (p + 1) m (now &&& tb x) with
    | some r1 =>
      rw [e] at h
      obtain rfl := Option.some.inj h
      rw [List.length_cons, chI_len tb want xs (p + 1) m _ r1 e]
    | none =>
      rw [e] at h
      exact chI_len tb want xs (p + 1) (m + 1) now r h
theorem table_ev (n : Int) (g : Nat → Bool) (N : Nat) (hN : N ≤ 16) : Ev (fun k => impl_votes_table.f k n (tabB g N)) (encT g N : Int) := by
  unfold impl_votes_table.f
  rw [tabB_len]
  have := ev_range N (fun k i => impl_votes_table.l0 k (encT g i : Int) (tabB g N) (N : Int) (i : Int)) (fun _ => (encT g N : Int)) ?_ ?_ 0 (Nat.zero_le _)
  · exact this
  · refine ev_succ ?_
    simp only [impl_votes_table.l0]
    exact ev_neg (Int.lt_irrefl _) (Ev.now _)
  · intro i hi ih
    have hlt := encT_lt g i
    have h16 : 2 ^ i ≤ 2 ^ 16 := Nat.pow_le_pow_right (by decide) (by omega)
    have h62 : (2 : Nat) ^ 16 < 2 ^ 62 := by decide
    refine ev_succ ?_
    simp only [impl_votes_table.l0]
    rw [rdOf_tab hi, wrap_succ hi (by omega), tabB_len]
    refine ev_pos (by omega) (ev_pos (by omega) (ev_pos (by omega) (ev_bool (fun e => ?_) (fun e => ?_))))
    · rw [shl_one_nat i (by omega), or_nat _ _ (by omega) (by omega)]
      have e1 := Nat.two_pow_add_eq_or_of_lt hlt 1
      rw [Nat.mul_one] at e1
      rw [Nat.or_comm, ← e1, Nat.add_comm]
      rw [encT, if_pos e] at ih
      exact ih
    · rw [encT, if_neg (by rw [e]; decide), Nat.add_zero] at ih
      exact ih
section
variable {α : Type} (tb : α → Nat) (want : Nat) (L : List α) (hL : L.length ≤ 1000000) (htb : ∀ x ∈ L, tb x < 65536) (hw : want < 65536)
include hL htb hw
theorem chosen_ev : ∀ (m p now : Nat), p ≤ L.length → m ≤ 1000 → now < 65536 → Ev (fun k => impl_chosen.f k (L.map fun x => (tb x : Int)) (p : Int) (m : Int) (now : Int) (want : Int)) ((chI tb want (L.drop p) p m now).getD [], (chI tb want (L.drop p) p m now).isSome)
  | 0, p, now, hp, hm, hn => by
    refine ev_succ ?_
    simp only [impl_chosen.f]
    refine ev_pos rfl (ev_eqv (Ev.now _) ?_)
    rw [chI_zero]
    by_cases h : now = want
    · subst h; rw [if_pos rfl, beq_self_eq_true]; rfl
    · rw [if_neg h, beq_eq_false_iff_ne.2 (by omega)]; rfl
  | m + 1, p, now, hp, hm, hn => by
    refine ev_succ ?_
    simp only [impl_chosen.f]
    refine ev_neg (by omega) ?_
    have := ev_range L.length (fun k i => impl_chosen.l0 k (L.map fun x => (tb x : Int)) ((m + 1 : Nat) : Int) (now : Int) (want : Int) (i : Int)) (fun i => ((chI tb want (L.drop i) i (m + 1) now).getD [], (chI tb want (L.drop i) i (m + 1) now).isSome)) ?_ ?_ p hp
    · exact this
    · refine ev_succ ?_
      simp only [impl_chosen.l0]
      rw [List.length_map]
      refine ev_neg (by omega) (ev_eqv (Ev.now _) ?_)
      rw [List.drop_length]; rfl
    · intro i hi ih
      have hr : rd (L.map fun x => (tb x : Int)) (i : Int) = (tb L[i] : Int) := by rw [rd_get (by rw [List.length_map]; exact hi), List.getElem_map]
      have ht := htb L[i] (List.getElem_mem hi)
      have hnb : (now &&& tb L[i]) < 65536 := Nat.lt_of_le_of_lt Nat.and_le_left hn
      refine ev_succ ?_
      simp only [impl_chosen.l0]
      rw [List.length_map, hr, and_nat _ _ (by omega) (by omega), wrap_succ hi (by omega), wrap_pred (show m < 1001 by omega) (by decide)]
      refine ev_pos (by omega) (ev_pos (by omega) ?_)
      have h1 := chosen_ev m (i + 1) (now &&& tb L[i]) hi (by omega) hnb
      have hl1 := chI_len tb want (L.drop (i + 1)) (i + 1) m (now &&& tb L[i])
      rw [List.drop_eq_getElem_cons hi, chI]
      cases e : chI tb want (L.drop (i + 1)) (i + 1) m (now &&& tb L[i]) with
      | some r =>
        rw [e] at h1
        have hl2 := hl1 r e
        refine Ev.bind h1 (ev_pos rfl (ev_bindS rfl (ev_pos ?_ (Ev.now _))))
        simp only [Option.getD_some, List.length_singleton]; omega
      | none =>
        rw [e] at h1
        exact Ev.bind h1 (ev_neg (by decide) ih)
end
theorem weSame_ev (f g : Nat → Bool) (N : Nat) (hN : N ≤ 65536) : Ev (fun k => spec_weSame.f k (tabB f N) (tabB g N)) (decide (encT f N = encT g N)) := by
  have hiff : encT f N = encT g N ↔ ∀ i, i < N → f i = g i := by
    refine ⟨fun h i hi => ?_, fun h => ?_⟩
    · have := congrArg (fun x => Nat.testBit x i) h
      simpa [encT_bit, hi] using this
    · refine Nat.eq_of_testBit_eq fun i => ?_
      rw [encT_bit, encT_bit]
      by_cases hi : i < N
      · rw [h i hi]
      · simp [hi]
  unfold spec_weSame.f
  rw [tabB_len, tabB_len]
  refine ev_pos rfl ?_
  have := ev_range N (fun k i => spec_weSame.l0 k (tabB f N) (tabB g N) (N : Int) (i : Int)) (fun i => ((List.range N).drop i).all fun j => f j == g j) ?_ ?_ 0 (Nat.zero_le _)
  · refine ev_eqv this ?_
    rw [Bool.eq_iff_iff, decide_eq_true_eq, hiff, List.drop_zero, List.all_eq_true]
    exact ⟨fun h i hi => beq_iff_eq.1 (h i (List.mem_range.2 hi)), fun h i hi => beq_iff_eq.2 (h i (List.mem_range.1 hi))⟩
  · refine ev_succ ?_
    simp only [spec_weSame.l0]
    refine ev_neg (Int.lt_irrefl _) (ev_eqv (Ev.now _) ?_)
    rw [List.drop_eq_nil_of_le (by simp)]; rfl
  · intro i hi ih
    refine ev_succ ?_
    simp only [spec_weSame.l0]
    rw [rdOf_tab hi, rdOf_tab hi, wrap_succ hi (by omega), tabB_len, tabB_len, range_drop N i hi, List.all_cons]
    refine ev_pos (by omega) (ev_pos (by omega) (ev_pos (by omega) (ev_pos (by omega) ?_)))
    by_cases e : f i = g i
    · refine ev_neg (by rw [e, bne_self_eq_false]; decide) (ev_eqv ih ?_)
      rw [e, beq_self_eq_true, Bool.true_and]
    · refine ev_pos (by rw [bne_iff_ne]; exact e) (ev_eqv (Ev.now _) ?_)
      rw [beq_eq_false_iff_ne.2 e]; rfl
theorem zip_tab (f g : Nat → Bool) (N : Nat) : List.zipWith (fun x y => x && y) (tabB f N) (tabB g N) = tabB (fun i => f i && g i) N := by
  refine List.ext_getElem (by rw [List.length_zipWith, tabB_len, tabB_len, tabB_len, Nat.min_self]) fun i h1 h2 => ?_
  rw [List.getElem_zipWith, tabB_get, tabB_get, tabB_get]
theorem enc_and (f g : Nat → Bool) (N : Nat) : encT (fun i => f i && g i) N = encT f N &&& encT g N := by
  refine Nat.eq_of_testBit_eq fun i => ?_
  rw [Nat.testBit_and, encT_bit, encT_bit, encT_bit]
  cases decide (i < N) <;> cases f i <;> cases g i <;> rfl
section
variable (n N : Nat) (hN : N ≤ 65536) (want : Nat → Bool) (L : List (List (List Int))) (hg : ∀ s ∈ L, Ev (fun k => spec_gmAll.f k (n : Int) s) (tabB (winB s) N))
include hN hg
theorem chLook_ev : ∀ (m p : Nat) (now : Nat → Bool) (b : List S28), p ≤ L.length → Ev (fun k => spec_chLook.f k (L.map (mkG n)) (tabB want N) m p (tabB now N) b) (match chF (fun s => encT (winB s) N) (encT want N) (L.drop p) m (encT now N) with
    | some r => (b ++ r.map (mkG n), true)
    | none => (if m = 0 then b else [], false))
  | 0, p, now, b, hp => by
    simp only [spec_chLook.f]
    refine Ev.bind (weSame_ev now want N hN) (ev_eqv (Ev.now _) ?_)
    rw [chF_zero]
    by_cases h : encT now N = encT want N
    · rw [if_pos h, decide_eq_true h]; simp
    · rw [if_neg h, decide_eq_false h]; rfl
  | m + 1, p, now, b, hp => by
    simp only [spec_chLook.f]
    have key : ∀ (d p : Nat), p + d = L.length → Ev (fun k => chLoop k (spec_chLook.f k (L.map (mkG n)) (tabB want N) m) (tabB now N) b ((L.map (mkG n)).drop p) p) (match chF (fun s => encT (winB s) N) (encT want N) (L.drop p) (m + 1) (encT now N) with
        | some r => (b ++ r.map (mkG n), true)
        | none => ([], false)) := by
      intro d
      induction d with
      | zero =>
        intro p hp
        rw [← List.map_drop, List.drop_of_length_le (by omega)]
        exact Ev.now _
      | succ d ih =>
        intro p hp
        have hi : p < L.length := by omega
        have h1 := chLook_ev m (p + 1) (fun i => winB L[p] i && now i) (b ++ [mkG n L[p]]) hi
        rw [← List.map_drop, List.drop_eq_getElem_cons hi, List.map_cons, chF]
        unfold chLoop
        rw [enc_and, Nat.and_comm] at h1
        refine Ev.bind (hg L[p] (List.getElem_mem hi)) (ev_pos (by rw [tabB_len, tabB_len]) ?_)
        rw [zip_tab]
        cases e : chF (fun s => encT (winB s) N) (encT want N) (L.drop (p + 1)) m (encT now N &&& encT (winB L[p]) N) with
        | some r =>
          rw [e] at h1
          refine Ev.bind h1 (ev_pos rfl (ev_eqv (Ev.now _) ?_))
          simp
        | none =>
          rw [e] at h1
          refine Ev.bind h1 (ev_neg (by simp) ?_)
          have h2 := ih (p + 1) (by omega)
          rw [← List.map_drop] at h2
          exact h2
    exact key (L.length - p) p (by omega)
end
end Go.Proofs.YtmbkmabpebjboaaGreat.Q
end

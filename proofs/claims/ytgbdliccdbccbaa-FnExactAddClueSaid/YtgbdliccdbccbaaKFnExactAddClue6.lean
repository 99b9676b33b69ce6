/- The row of the law FnExactAddClue: for every input it returns true, and its arguments read afterwards as before. No condition: FnExactAddClue_pure says that its pure form answers true at every input, and laws_FnExactAddClue.calls that the machine comes to just that. -/
import Derived.Test.YtgbdliccdbccbaaKFnExactAddClue5
import Derived.Test.YtgbdliccdbccbaaRows
import Derived.Laws.StructEq
section
namespace Go.Proofs.Ytgbdliccdbccbaa.Q
open Go.RowKit Go.Proofs.YtgbdliccdbccbaaW.PrintWords Go.Proofs.YtgbdliccdbccbaaW.PrintLast Go.Proofs.YtgbdliccdbccbaaW.PrintMore
set_option linter.unusedVariables false
set_option linter.unusedSimpArgs false
def inB (n lo hi : Int) : Bool := decide (lo ≤ n) && decide (n ≤ hi)
theorem bind_ite_false {b : Bool} {x : Option Bool} {y : Bool} (h : b = true → x = some y) : (if b = true then x else some false) = some (b && y) := by
  cases b
  · rfl
  · simpa using h rfl
theorem shl_one (n : Int) (h : 0 ≤ n ∧ n ≤ 16) : shl .i64 1 n = 2 ^ n.toNat := by
  obtain ⟨m, rfl⟩ := Int.eq_ofNat_of_zero_le h.1
  have hm : m ≤ 16 := by omega
  have : ∀ m : Nat, m ≤ 16 → shl .i64 1 (m : Int) = 2 ^ (m : Int).toNat := by decide
  exact this m hm
theorem pow_le16 (n : Int) (h : 0 ≤ n ∧ n ≤ 16) : 1 ≤ (2 : Int) ^ n.toNat ∧ (2 : Int) ^ n.toNat ≤ 65536 := by
  obtain ⟨m, rfl⟩ := Int.eq_ofNat_of_zero_le h.1
  have hm : m ≤ 16 := by omega
  have : ∀ m : Nat, m ≤ 16 → 1 ≤ (2 : Int) ^ (m : Int).toNat ∧ (2 : Int) ^ (m : Int).toNat ≤ 65536 := by decide
  exact this m hm
theorem wrap64_id {x : Int} (h : -9223372036854775808 ≤ x ∧ x ≤ 9223372036854775807) : wrap64 x = x := by unfold wrap64; omega
theorem all_bits (n : Int) (h : 0 ≤ n ∧ n ≤ 16) : wrap64 (shl .i64 1 n - 1) = 2 ^ n.toNat - 1 := by
  rw [shl_one n h]
  have := pow_le16 n h
  exact wrap64_id (by omega)
theorem within_eq (n lo hi : Int) : impl_within.f n lo hi = some (inB n lo hi) := by
  unfold impl_within.f inB
  split <;> simp_all <;> omega
theorem l1In_eq (n lo hi : Int) : spec_l1In.f n lo hi = some (inB n lo hi) := by
  unfold spec_l1In.f inB
  split <;> simp_all <;> omega
theorem voAll_eq (n : Int) (h : 0 ≤ n ∧ n ≤ 16) : spec_voAll.f n = some (2 ^ n.toNat - 1) := by
  unfold spec_voAll.f
  rw [if_pos h.1, all_bits n h]
theorem isHidden_eq (n : Int) : impl_isHidden.f n = some (inB n 1 4) := by unfold impl_isHidden.f; rw [within_eq]; rfl
theorem pzMembers_eq (n : Int) : spec_pzMembers.f n = some (inB n 1 4) := by unfold spec_pzMembers.f; rw [l1In_eq]; rfl
theorem inB_iff {n lo hi : Int} : inB n lo hi = true ↔ lo ≤ n ∧ n ≤ hi := by unfold inB; simp
def clueOk (n k a b : Int) : Bool :=
  if k = 0 then inB a 0 (2 ^ n.toNat - 1) && inB b 0 1 else if k = 1 then inB a 1 15 && (b == 0) else if k = 2 then inB a 0 (n - 1) && inB b 0 1
  else if k = 3 then inB a 0 (n - 1) && inB b 0 8 else if k = 4 then inB a 0 1 && (b == 0) else if k = 5 then inB a 0 1 && (b == 0) else false
theorem pzClue_eq (n k a b : Int) (h : 1 ≤ n ∧ n ≤ 4) : spec_pzClue.f n k a b = some (clueOk n k a b) := by
  unfold spec_pzClue.f clueOk
  simp only [l1In_eq, voAll_eq n (by omega), Option.bind_some, wrap64_id (show -9223372036854775808 ≤ n - 1 ∧ n - 1 ≤ 9223372036854775807 by omega)]
  repeat' split
  all_goals simp_all
theorem IsClue_eq (n k a b : Int) : impl_IsClue.f n k a b = some (inB n 1 4 && clueOk n k a b) := by
  unfold impl_IsClue.f
  rw [isHidden_eq, Option.bind_some]
  refine bind_ite_false fun h => ?_
  have hn := inB_iff.1 h
  unfold clueOk
  simp only [within_eq, if_pos (show 0 ≤ n by omega), Option.bind_some, all_bits n (by omega), wrap64_id (show -9223372036854775808 ≤ n - 1 ∧ n - 1 ≤ 9223372036854775807 by omega)]
  repeat' split
  all_goals simp_all
end Go.Proofs.Ytgbdliccdbccbaa.Q
end
section
namespace Go.Proofs.Ytgbdliccdbccbaa.Q
open Go.RowKit Go.Proofs.YtgbdliccdbccbaaW.PrintWords Go.Proofs.YtgbdliccdbccbaaW.PrintLast Go.Proofs.YtgbdliccdbccbaaW.PrintMore
set_option linter.unusedVariables false
set_option linter.unusedSimpArgs false
theorem ev_pos {α : Type} {c : Prop} [Decidable c] {f g : Nat → Option α} {r : α} (h : c) (k : Ev f r) : Ev (fun n => if c then f n else g n) r := by
  simp only [if_pos h]; exact k
theorem ev_neg {α : Type} {c : Prop} [Decidable c] {f g : Nat → Option α} {r : α} (h : ¬ c) (k : Ev g r) : Ev (fun n => if c then f n else g n) r := by
  simp only [if_neg h]; exact k
theorem ev_bindS {α β : Type} {x : Option α} {f : Nat → α → Option β} {a : α} {r : β} (h : x = some a) (k : Ev (fun n => f n a) r) : Ev (fun n => x.bind (f n)) r := by
  subst h; exact k
theorem ev_succ {α : Type} {g : Nat → Option α} {r : α} (k : Ev (fun n => g (n + 1)) r) : Ev g r := Ev.step (fun _ => rfl) k
theorem ev_eqv {α : Type} {f : Nat → Option α} {r q : α} (h : Ev f r) (e : r = q) : Ev f q := e ▸ h
theorem ev_bool {α : Type} {c : Bool} {f g : Nat → Option α} {r : α} (h1 : c = true → Ev f r) (h2 : c = false → Ev g r) : Ev (fun n => if c = true then f n else g n) r := by
  cases c
  · simpa using h2 rfl
  · simpa using h1 rfl
theorem wrap_succ {i : Nat} {n : Nat} (h : i < n) (hn : n ≤ 1152921504606846976) : wrap64 ((i : Int) + 1) = ((i + 1 : Nat) : Int) := by
  unfold wrap64; omega
end Go.Proofs.Ytgbdliccdbccbaa.Q
end
section
namespace Go.Proofs.Ytgbdliccdbccbaa.Q
open Go.RowKit Go.Proofs.YtgbdliccdbccbaaW.PrintWords Go.Proofs.YtgbdliccdbccbaaW.PrintLast Go.Proofs.YtgbdliccdbccbaaW.PrintMore
set_option linter.unusedVariables false
set_option linter.unusedSimpArgs false
theorem ev_range {R : Type} (n : Nat) (L : Nat → Nat → Option R) (v : Nat → R) (hend : Ev (fun k => L k n) (v n)) (hstep : ∀ i, i < n → Ev (fun k => L k (i + 1)) (v (i + 1)) → Ev (fun k => L k i) (v i)) :
    ∀ i, i ≤ n → Ev (fun k => L k i) (v i) := by
  have key : ∀ d i, i + d = n → Ev (fun k => L k i) (v i) := by
    intro d
    induction d with
    | zero => intro i hi; rw [show i = n by omega]; exact hend
    | succ d ih => intro i hi; exact hstep i (by omega) (ih (i + 1) (by omega))
  exact fun i hi => key (n - i) i (by omega)
theorem set_copy {α β : Type} (g : α → β) (z : β) (l : List α) (i : Nat) (h : i < l.length) :
    ((l.take i).map g ++ List.replicate (l.length - i) z).set i (g l[i]) = (l.take (i + 1)).map g ++ List.replicate (l.length - (i + 1)) z := by
  rw [List.set_append_right _ _ (by rw [List.length_map, List.length_take]; omega), List.length_map, List.length_take, Nat.min_eq_left (by omega), Nat.sub_self, show l.length - i = (l.length - (i + 1)) + 1 by omega, List.replicate_succ, List.set_cons_zero, List.take_succ_eq_append_getElem h, List.map_append, List.append_assoc]
  rfl
theorem copy_len {α β : Type} (g : α → β) (z : β) (l : List α) (i : Nat) (h : i ≤ l.length) : ((l.take i).map g ++ List.replicate (l.length - i) z).length = l.length := by
  rw [List.length_append, List.length_map, List.length_take, List.length_replicate]; omega
theorem getD_get {α : Type} {xs : List α} {z : α} {i : Nat} (h : i < xs.length) : xs.getD i z = xs[i] := by
  simp [List.getD_eq_getElem?_getD, List.getElem?_eq_getElem h]
theorem all_drop {α : Type} (p : α → Bool) (l : List α) (i : Nat) (h : i < l.length) : (l.drop i).all p = (p l[i] && (l.drop (i + 1)).all p) := by
  rw [List.drop_eq_getElem_cons h, List.all_cons]
theorem drop_end {α : Type} (l : List α) : l.drop l.length = [] := by simp
theorem eq_drop {α : Type} [DecidableEq α] (a b : List α) (i : Nat) (h1 : i < a.length) (h2 : i < b.length) : decide (a.drop i = b.drop i) = (decide (a[i] = b[i]) && decide (a.drop (i + 1) = b.drop (i + 1))) := by
  rw [List.drop_eq_getElem_cons h1, List.drop_eq_getElem_cons h2]
  by_cases e : a[i] = b[i]
  · by_cases e2 : a.drop (i + 1) = b.drop (i + 1)
    · rw [decide_eq_true e, decide_eq_true e2, decide_eq_true (by rw [e, e2])]; rfl
    · rw [decide_eq_false e2, decide_eq_false (fun h => e2 (List.cons.inj h).2)]; simp
  · rw [decide_eq_false e, decide_eq_false (fun h => e (List.cons.inj h).1)]; rfl
end Go.Proofs.Ytgbdliccdbccbaa.Q
end
section
namespace Go.Proofs.Ytgbdliccdbccbaa.Q
open Go.RowKit Go.Proofs.YtgbdliccdbccbaaW.PrintWords Go.Proofs.YtgbdliccdbccbaaW.PrintLast Go.Proofs.YtgbdliccdbccbaaW.PrintMore
set_option linter.unusedVariables false
set_option linter.unusedSimpArgs false
theorem any_not_all {α : Type} (l : List α) (p : α → Bool) : (!l.any fun x => !p x) = l.all p := by
  induction l with
  | nil => rfl
  | cons x l ih => rw [List.any_cons, List.all_cons, ← ih]; cases p x <;> simp
end Go.Proofs.Ytgbdliccdbccbaa.Q
end
section
namespace Go.Proofs.Ytgbdliccdbccbaa.Q
open Go.RowKit Go.Proofs.YtgbdliccdbccbaaW.PrintWords Go.Proofs.YtgbdliccdbccbaaW.PrintLast Go.Proofs.YtgbdliccdbccbaaW.PrintMore
set_option linter.unusedVariables false
set_option linter.unusedSimpArgs false
deriving instance DecidableEq for S25
def clueI (x : S23) : S25 := ⟨x.f0, x.f1, x.f2⟩
theorem rdI_get {xs : List S25} {i : Nat} (h : i < xs.length) : rd_T25 xs (i : Int) = xs[i] := by unfold rd_T25; rw [Int.toNat_natCast]; exact getD_get h
theorem rdL_get {xs : List S23} {i : Nat} (h : i < xs.length) : rd_T23 xs (i : Int) = xs[i] := by unfold rd_T23; rw [Int.toNat_natCast]; exact getD_get h
theorem toClueS_ev (l : List S23) (hl : l.length ≤ 1152921504606) : Ev (fun k => laws_toClueS.f k l) (l.map clueI) := by
  unfold laws_toClueS.f
  refine ev_pos (by omega) (ev_pos (by omega) ?_)
  rw [Int.toNat_natCast]
  refine ev_range l.length (fun k i => laws_toClueS.l0 k l ((l.take i).map clueI ++ List.replicate (l.length - i) z25) (i : Int)) (fun _ => l.map clueI) ?_ ?_ 0 (Nat.zero_le _)
  · refine ev_succ ?_
    simp only [laws_toClueS.l0]
    exact ev_neg (by omega) (ev_eqv (Ev.now _) (by simp))
  · intro i hi ih
    refine ev_succ ?_
    simp only [laws_toClueS.l0, laws_toClue.f, Option.bind_some]
    refine ev_pos (by omega) (ev_pos (by omega) (ev_pos (by rw [copy_len _ _ _ _ (by omega)]; omega) ?_))
    rw [wrap_succ hi (by omega), Int.toNat_natCast, rdL_get hi, show (⟨l[i].f0, l[i].f1, l[i].f2⟩ : S25) = clueI l[i] from rfl, set_copy clueI _ l i hi]
    exact ih
theorem toPuzzle_ev (m : Int) (l : List S23) (hl : l.length ≤ 1152921504606) : Ev (fun k => laws_toPuzzle.f k m l) (m, l.map clueI) := by
  unfold laws_toPuzzle.f
  exact Ev.bind (toClueS_ev l hl) (Ev.now _)
theorem eqClue_eq (x y : S25) : laws_eqClue.f x.f0 x.f1 x.f2 y.f0 y.f1 y.f2 = some (decide (x = y)) := by
  unfold laws_eqClue.f
  obtain ⟨a, b, c⟩ := x
  obtain ⟨d, e, f⟩ := y
  simp only [S25.mk.injEq]
  repeat' split
  all_goals simp_all
theorem eqClueS_ev (a b : List S25) (ha : a.length ≤ 1152921504606) : Ev (fun k => laws_eqClueS.f k a b) (decide (a = b)) := by
  unfold laws_eqClueS.f
  by_cases hl : a.length = b.length
  · refine ev_pos (by omega) ?_
    refine ev_range a.length (fun k i => laws_eqClueS.l0 k a b (i : Int)) (fun i => decide (a.drop i = b.drop i)) ?_ ?_ 0 (Nat.zero_le _)
    · refine ev_succ ?_
      simp only [laws_eqClueS.l0]
      refine ev_neg (by omega) (ev_eqv (Ev.now _) ?_)
      rw [List.drop_of_length_le (by omega), List.drop_of_length_le (by omega)]; simp
    · intro i hi ih
      have h2 : i < b.length := by omega
      refine ev_succ ?_
      simp only [laws_eqClueS.l0]
      refine ev_pos (by omega) (ev_pos (by omega) (ev_pos (by omega) ?_))
      rw [rdI_get hi, rdI_get h2, eqClue_eq, wrap_succ hi (by omega), eq_drop a b i hi h2]
      refine ev_bool (fun h => ?_) (fun h => ?_)
      · rw [h]; exact ih
      · rw [h]; exact Ev.now _
  · refine ev_neg (by omega) (ev_eqv (Ev.now false) ?_)
    exact (decide_eq_false fun e => hl (by rw [e])).symm
theorem eqPuzzle_ev (m n : Int) (a b : List S25) (ha : a.length ≤ 1152921504606) : Ev (fun k => laws_eqPuzzle.f k m a n b) (decide (m = n ∧ a = b)) := by
  unfold laws_eqPuzzle.f
  by_cases hm : m = n
  · refine ev_pos hm (Ev.bind (eqClueS_ev a b ha) (ev_bool (fun h => ev_eqv (Ev.now _) ?_) (fun h => ev_eqv (Ev.now _) ?_)))
    · exact (decide_eq_true ⟨hm, of_decide_eq_true h⟩).symm
    · exact (decide_eq_false fun e => of_decide_eq_false h e.2).symm
  · exact ev_neg hm (ev_eqv (Ev.now _) (decide_eq_false fun e => hm e.1).symm)
theorem szPuzzle_eq (m : Int) (l : List S23) (n : Nat) (hn : n ≤ 1048576) (hl : l.length ≤ 9223372036854775807) : ∃ q, laws_szPuzzle.f m l (n : Int) = some q ∧ (¬ q < 0 → l.length ≤ n) := by
  unfold laws_szPuzzle.f laws_szClueS.f
  rw [wrap64_id (by omega)]
  by_cases h : (n : Int) - (l.length : Int) < 0
  · exact ⟨-1, by rw [if_pos h]; rfl, fun h => absurd (by decide) h⟩
  · exact ⟨_, by rw [if_neg h, Option.bind_some, if_neg h], fun _ => by omega⟩
def puzzleOk (m : Int) (l : List S25) : Bool := inB m 1 4 && (decide (l.length ≤ 8) && l.all fun x => clueOk m x.f0 x.f1 x.f2)
theorem pzGood_ev (m : Int) (l : List S25) : Ev (fun k => spec_pzGood.f k m l) (puzzleOk m l) := by
  unfold spec_pzGood.f puzzleOk
  simp only [pzMembers_eq, Option.bind_some]
  refine ev_bool (fun hb => ?_) (fun hb => ?_)
  · rw [hb]
    refine ev_succ ?_
    simp only [spec_pzGood.j0]
    by_cases hl : l.length ≤ 8
    · rw [decide_eq_true hl, decide_eq_false (show ¬ (l.length : Int) > 8 by omega)]
      refine ev_neg (by simp) ?_
      refine ev_range l.length (fun k i => spec_pzGood.l0 k l (l.length : Int) (i : Int) m l) (fun i => (l.drop i).all fun x => clueOk m x.f0 x.f1 x.f2) ?_ ?_ 0 (Nat.zero_le _)
      · refine ev_succ ?_
        simp only [spec_pzGood.l0]
        exact ev_neg (by omega) (ev_eqv (Ev.now _) (by rw [drop_end]; rfl))
      · intro i hi ih
        refine ev_succ ?_
        simp only [spec_pzGood.l0]
        refine ev_pos (by omega) (ev_pos (by omega) (ev_pos (by omega) ?_))
        rw [rdI_get hi, wrap_succ hi (by omega), pzClue_eq _ _ _ _ (inB_iff.1 hb), all_drop _ _ _ hi]
        exact ev_bool (fun h => by rw [h]; exact ih) (fun h => by rw [h]; exact Ev.now _)
    · rw [decide_eq_false hl, decide_eq_true (show (l.length : Int) > 8 by omega)]
      exact ev_pos (by simp) (Ev.now _)
  · rw [hb]
    refine ev_succ ?_
    simp only [spec_pzGood.j0]
    exact ev_pos (by simp) (Ev.now _)
theorem IsPuzzle_eq (m : Int) (l : List S25) : impl_IsPuzzle.f m l = some (puzzleOk m l) := by
  unfold impl_IsPuzzle.f puzzleOk
  rw [isHidden_eq, Option.bind_some]
  refine bind_ite_false fun hb => ?_
  by_cases hl : l.length ≤ 8
  · rw [if_pos (by omega), decide_eq_true hl]
    rw [anyO_some (q := fun x => !clueOk m x.f0 x.f1 x.f2) (fun x _ => by unfold impl_IsPuzzle_1.f; rw [IsClue_eq, hb]; rfl)]
    rw [Option.bind_some, any_not_all]; rfl
  · rw [if_neg (by omega), decide_eq_false hl]; rfl
end Go.Proofs.Ytgbdliccdbccbaa.Q
end
section
namespace Go.Proofs.Ytgbdliccdbccbaa.Q
open Go.RowKit Go.Proofs.YtgbdliccdbccbaaW.PrintWords Go.Proofs.YtgbdliccdbccbaaW.PrintLast Go.Proofs.YtgbdliccdbccbaaW.PrintMore
set_option linter.unusedVariables false
set_option linter.unusedSimpArgs false
def tab {α : Type} (g : Nat → α) (n : Nat) : List α := (List.range n).map g
theorem tab_len {α : Type} (g : Nat → α) (n : Nat) : (tab g n).length = n := by simp [tab]
theorem tab_get {α : Type} (g : Nat → α) (n i : Nat) (h : i < (tab g n).length) : (tab g n)[i] = g i := by simp [tab]
theorem tab_succ {α : Type} (g : Nat → α) (n : Nat) : tab g (n + 1) = tab g n ++ [g n] := by simp [tab, List.range_succ]
theorem set_tab {α : Type} (g : Nat → α) (l : List α) (i : Nat) (h : i < l.length) : (tab g i ++ l.drop i).set i (g i) = tab g (i + 1) ++ l.drop (i + 1) := by
  rw [List.set_append_right _ _ (by rw [tab_len]; omega), tab_len, Nat.sub_self, List.drop_eq_getElem_cons h, List.set_cons_zero, tab_succ, List.append_assoc]; rfl
theorem tab_drop_len {α : Type} (g : Nat → α) (l : List α) (i : Nat) (h : i ≤ l.length) : (tab g i ++ l.drop i).length = l.length := by
  rw [List.length_append, tab_len, List.length_drop]; omega
theorem rdI_set {xs : List S25} {i : Nat} {v : S25} (h : i < xs.length) : rd_T25 (xs.set i v) (i : Int) = v := by
  rw [rdI_get (by rw [List.length_set]; exact h), List.getElem_set_self]
def mkC (m : Int) (i : Nat) : S25 := ⟨m + 3 * i, m + 3 * i + 1, m + 3 * i + 2⟩
theorem wrap_add1 {x : Int} (h : 0 ≤ x ∧ x ≤ 9223372036854775806) : wrap64 (x + 1) = x + 1 := wrap64_id (by omega)
theorem markClueS_ev (l : List S25) (m : Int) (hl : l.length ≤ 1152921504606) (hm : 0 ≤ m ∧ m ≤ 1152921504606846976) : Ev (fun k => laws_markClueS.f k l m) (m + 3 * l.length, tab (mkC m) l.length) := by
  unfold laws_markClueS.f
  have := ev_range l.length (fun k i => laws_markClueS.l0 k (tab (mkC m) i ++ l.drop i) (m + 3 * i) (i : Int)) (fun _ => (m + 3 * l.length, tab (mkC m) l.length)) ?_ ?_ 0 (Nat.zero_le _)
  · simpa [tab] using this
  · refine ev_succ ?_
    simp only [laws_markClueS.l0]
    refine ev_neg (by rw [tab_drop_len _ _ _ (Nat.le_refl _)]; omega) (ev_eqv (Ev.now _) ?_)
    rw [drop_end, List.append_nil]
  · intro i hi ih
    have hx := tab_drop_len (mkC m) l i (by omega)
    refine ev_succ ?_
    simp only [laws_markClueS.l0]
    refine ev_pos (by omega) (ev_pos (by omega) ?_)
    simp only [Option.bind_some, Int.toNat_natCast]
    rw [wrap_add1 (x := m + 3 * i) (by omega), wrap_add1 (x := m + 3 * i + 1) (by omega), wrap_add1 (x := m + 3 * i + 1 + 1) (by omega)]
    rw [rdI_set (by rw [hx]; exact hi), rdI_set (by rw [List.length_set, hx]; exact hi), List.set_set, List.set_set]
    rw [show (⟨m + 3 * i, m + 3 * i + 1, m + 3 * i + 1 + 1⟩ : S25) = mkC m i by unfold mkC; congr 1; omega, set_tab _ _ _ hi, wrap_succ hi (by omega), show m + 3 * (i : Int) + 1 + 1 + 1 = m + 3 * ((i + 1 : Nat) : Int) by omega]
    exact ih
theorem heldClueS_ev (m : Int) (n : Nat) (hl : n ≤ 1152921504606) (hm : 0 ≤ m ∧ m ≤ 1152921504606846976) : Ev (fun k => laws_heldClueS.f k (tab (mkC m) n) m) (m + 3 * n) := by
  unfold laws_heldClueS.f
  have := ev_range n (fun k i => laws_heldClueS.l0 k (tab (mkC m) n) (m + 3 * i) (i : Int)) (fun _ => m + 3 * n) ?_ ?_ 0 (Nat.zero_le _)
  · simpa using this
  · refine ev_succ ?_
    simp only [laws_heldClueS.l0]
    exact ev_neg (by rw [tab_len]; omega) (Ev.now _)
  · intro i hi ih
    refine ev_succ ?_
    simp only [laws_heldClueS.l0]
    rw [rdI_get (by rw [tab_len]; exact hi), tab_get]
    refine ev_pos (by rw [tab_len]; omega) (ev_pos (by omega) (ev_pos rfl ?_))
    rw [wrap_add1 (x := m + 3 * i) (by omega), wrap_add1 (x := m + 3 * i + 1) (by omega), wrap_add1 (x := m + 3 * i + 1 + 1) (by omega)]
    refine ev_pos rfl (ev_pos (by unfold mkC; simp only []; omega) ?_)
    rw [wrap_succ hi (by omega), show m + 3 * (i : Int) + 1 + 1 + 1 = m + 3 * ((i + 1 : Nat) : Int) by omega]
    exact ih
theorem markPuzzle_ev (n : Int) (l : List S25) (hl : l.length ≤ 1152921504606) : Ev (fun k => laws_markPuzzle.f k n l 1) (1 + 3 * (l.length : Int), tab (mkC 1) l.length) := by
  unfold laws_markPuzzle.f
  exact Ev.bind (markClueS_ev l 1 hl (by omega)) (Ev.now _)
theorem heldPuzzle_ev (a : Int) (n : Nat) (hl : n ≤ 1152921504606) : Ev (fun k => laws_heldPuzzle.f k a (tab (mkC 1) n) 1) (1 + 3 * (n : Int)) := by
  unfold laws_heldPuzzle.f
  exact Ev.bind (heldClueS_ev 1 n hl (by omega)) (ev_neg (by omega) (Ev.now _))
end Go.Proofs.Ytgbdliccdbccbaa.Q
end
section
namespace Go.Proofs.Ytgbdliccdbccbaa.Q
open Go.RowKit Go.Proofs.YtgbdliccdbccbaaW.PrintWords Go.Proofs.YtgbdliccdbccbaaW.PrintLast Go.Proofs.YtgbdliccdbccbaaW.PrintMore
set_option linter.unusedVariables false
set_option linter.unusedSimpArgs false
def addClue (m : Int) (l : List S25) (c : S25) : Int × List S25 × Bool :=
  if puzzleOk m l = true ∧ clueOk m c.f0 c.f1 c.f2 = true ∧ l.length ≠ 8 then (m, l ++ [c], true) else (0, [], false)
theorem puzzleOk_len {m : Int} {l : List S25} (h : puzzleOk m l = true) : l.length ≤ 8 ∧ (1 ≤ m ∧ m ≤ 4) := by
  unfold puzzleOk at h
  rw [Bool.and_eq_true, Bool.and_eq_true] at h
  exact ⟨of_decide_eq_true h.2.1, inB_iff.1 h.1⟩
theorem puzzleOk_add {m : Int} {l : List S25} {c : S25} (h : puzzleOk m l = true) : puzzleOk m (l ++ [c]) = (clueOk m c.f0 c.f1 c.f2 && decide (l.length ≠ 8)) := by
  have hl := puzzleOk_len h
  unfold puzzleOk at h ⊢
  rw [Bool.and_eq_true, Bool.and_eq_true] at h
  rw [h.1, List.all_append, h.2.2, List.length_append, List.length_singleton]
  simp only [List.all_cons, List.all_nil, Bool.true_and, Bool.and_true]
  rw [Bool.and_comm]
  congr 1
  exact decide_eq_decide.2 (by omega)
theorem sAddClue_ev (m : Int) (l : List S25) (c0 c1 c2 : Int) : Ev (fun k => spec_AddClue.f k m l c0 c1 c2) (addClue m l ⟨c0, c1, c2⟩) := by
  unfold spec_AddClue.f
  refine Ev.bind (pzGood_ev m l) (ev_bool (fun h => ?_) (fun h => ?_))
  · have hl := puzzleOk_len h
    rw [pzClue_eq _ _ _ _ hl.2, Option.bind_some]
    refine ev_bool (fun hc => ?_) (fun hc => ?_)
    · by_cases h8 : l.length = 8
      · exact ev_pos (by omega) (ev_eqv (Ev.now _) (by unfold addClue; rw [if_neg (by simp [h8])]))
      · refine ev_neg (by omega) ?_
        simp only [Option.bind_some, List.nil_append, List.length_nil, List.length_singleton]
        refine ev_pos (by omega) (ev_pos (by omega) (ev_eqv (Ev.now _) ?_))
        unfold addClue; rw [if_pos ⟨h, hc, h8⟩]
    · exact ev_eqv (Ev.now _) (by unfold addClue; rw [if_neg (by simp [hc])])
  · exact ev_eqv (Ev.now _) (by unfold addClue; rw [if_neg (by simp [h])])
theorem AddClue_eq (m : Int) (l : List S25) (c0 c1 c2 : Int) (hl : l.length ≤ 1048576) : impl_AddClue.f m l c0 c1 c2 = some (addClue m l ⟨c0, c1, c2⟩) := by
  unfold impl_AddClue.f
  rw [show impl_Clue_49.f l = some l from if_pos (by omega), Option.bind_some]
  simp only [Option.bind_some, List.length_singleton, IsPuzzle_eq]
  rw [if_pos (by omega)]
  unfold addClue
  by_cases h : puzzleOk m l = true
  · rw [if_pos h, puzzleOk_add h]
    by_cases hc : clueOk m c0 c1 c2 = true
    · by_cases h8 : l.length = 8
      · simp [h8]
      · simp [h, hc, h8]
    · simp [hc]
  · rw [if_neg h, if_neg (fun e => h e.1)]
theorem addClue_len (m : Int) (l : List S25) (c : S25) (hl : l.length ≤ 1048576) : (addClue m l c).2.1.length ≤ 1048577 := by
  unfold addClue
  split
  · simp only [List.length_append, List.length_singleton]; omega
  · simp
theorem FnExactAddClue_pure (a0_0 : Int) (l0_1 : List S23) (a1_0 a1_1 a1_2 : Int) (g0 : I64 a0_0 ∧ ∀ y ∈ l0_1, I64 y.f0 ∧ I64 y.f1 ∧ I64 y.f2) (_ : I64 a1_0 ∧ I64 a1_1 ∧ I64 a1_2) (hl : l0_1.length ≤ 9223372036854775807) : ∃ k, laws_FnExactAddClue.f k a0_0 l0_1 a1_0 a1_1 a1_2 = some true := by
  refine Ev.rounds ?_
  unfold laws_FnExactAddClue.f
  obtain ⟨q, hq, hq2⟩ := szPuzzle_eq a0_0 l0_1 1048576 (by decide) hl
  refine ev_bindS hq ?_
  by_cases h : q < 0
  · exact ev_pos h (Ev.now _)
  have hn := hq2 h
  refine ev_neg h ?_
  have ht := toPuzzle_ev a0_0 l0_1 (by omega)
  have hm : (l0_1.map clueI).length ≤ 1048576 := by rw [List.length_map]; omega
  have hg := addClue_len a0_0 (l0_1.map clueI) ⟨a1_0, a1_1, a1_2⟩ hm
  unfold laws_toClue.f
  simp only [Option.bind_some]
  refine Ev.bind ht (Ev.bind (sAddClue_ev _ _ _ _ _) (Ev.bind ht ?_))
  simp only [AddClue_eq _ _ _ _ _ hm, Option.bind_some]
  refine Ev.bind (eqPuzzle_ev _ _ _ _ (by omega)) (ev_pos (by simp) (ev_neg (by simp) (Ev.bind ht (Ev.bind (eqPuzzle_ev _ _ _ _ (by omega)) (ev_pos (by simp) ?_)))))
  refine Ev.bind (markPuzzle_ev _ _ (by omega)) (ev_neg (by simp only []; omega) (Ev.bind (eqPuzzle_ev _ _ _ _ (by omega)) (ev_pos (by simp) ?_)))
  refine Ev.bind (markPuzzle_ev _ _ (by omega)) (Ev.bind (heldPuzzle_ev _ _ (by omega)) (ev_neg (by omega) (ev_pos rfl ?_)))
  refine Ev.bind ht ?_
  simp only [AddClue_eq _ _ _ _ _ hm, Option.bind_some]
  refine Ev.bind (eqPuzzle_ev _ _ _ _ (by omega)) (ev_pos (by simp) (ev_neg (by simp) (Ev.bind (heldPuzzle_ev _ _ (by omega)) (ev_neg (by omega) (ev_pos rfl (Ev.now _))))))
end Go.Proofs.Ytgbdliccdbccbaa.Q
end
section
namespace Go.Proofs.Ytgbdliccdbccbaa.Q
open Go.RowKit Go.Proofs.YtgbdliccdbccbaaW.PrintWords Go.Proofs.YtgbdliccdbccbaaW.PrintLast Go.Proofs.YtgbdliccdbccbaaW.PrintMore
set_option linter.unusedVariables false
set_option linter.unusedSimpArgs false
section
variable {H : Type} {enc : TypeId × Value → H} {W : World}
instance : Inhabited S23 := ⟨z23⟩
theorem opens_Clue : Opens enc Try.prog W 23 k23 (fun x => I64 x.f0 ∧ I64 x.f1 ∧ I64 x.f2) :=
  opens_iso _ (fun x => ⟨x.1, x.2.1, x.2.2⟩) (fun _ => rfl) (opens_triple Try.underlying23 (by kernel_rfl) rfl rfl rfl (by kernel_rfl) (by kernel_rfl) (by kernel_rfl) (opens_int Try.underlying3) (opens_int Try.underlying3) (opens_int Try.underlying3))
theorem opens_Puzzle : Opens enc Try.prog W 40 (Kd.pair (Kd.int .i64) (Kd.slice 23 k23)) (fun x => I64 x.1 ∧ ∀ y ∈ x.2, I64 y.f0 ∧ I64 y.f1 ∧ I64 y.f2) :=
  opens_pair Try.underlying40 (by kernel_rfl) rfl rfl (by kernel_rfl) (by kernel_rfl) (opens_int Try.underlying3) (opens_slice Try.underlying38 (by kernel_rfl) opens_Clue)
end
open Go.ChangeShapes Go.WideShapes Go.ChangeAt Go.Deep
section
variable {H : Type} {enc : TypeId × Value → H} {W : World} {r : Reach} {b0 : Nat} {v : Value} {y : DataW H} {p : List MemPlace}
theorem arg_Clue (hv : Value.okWide Try.prog W r b0 23 v) (hr : DataW.Trod enc Try.prog W 0 (fun _ => true) true 23 v y p) :
    ∃ a b c, v = .agg #[.int .i64 a, .int .i64 b, .int .i64 c] ∧ I64 a ∧ I64 b ∧ I64 c := by
  obtain ⟨x, ⟨l⟩, rfl, k, g⟩ := open_struct Try.underlying23 hv hr opens_Clue
  obtain rfl := k23_open k
  exact ⟨_, _, _, rfl, g⟩
theorem arg_Puzzle (hv : Value.okWide Try.prog W r b0 40 v) (hr : DataW.Trod enc Try.prog W 0 (fun _ => true) true 40 v y p) :
    ∃ a A c l, v = .agg #[.int .i64 a, .slice A (l : List S23).length c] ∧ l.length ≤ c ∧ Kd.C k23 W A l.length l ∧ I64 a ∧ ∀ y ∈ l, I64 y.f0 ∧ I64 y.f1 ∧ I64 y.f2 := by
  obtain ⟨x, ⟨l⟩, rfl, k, g⟩ := open_struct Try.underlying40 hv hr opens_Puzzle
  obtain ⟨_, _, rfl, rfl, ⟨A, c, rfl, hl, hC⟩⟩ := k
  exact ⟨_, A, c, _, rfl, hl, hC, g⟩
end
end Go.Proofs.Ytgbdliccdbccbaa.Q
end
section
namespace Go.Proofs.Ytgbdliccdbccbaa.fnExactAddClue
open Go.ChangeShapes Go.WideShapes Go.ChangeAt Go.RowKit Go.Proofs.Ytgbdliccdbccbaa.Q
open Go.ChangeMaps (open_string shut_string)
set_option linter.unusedVariables false
theorem own : ownKnob Try.prog.godebug = none := by kernel_rfl
theorem laidOut : laidOutB Try.prog = true := by kernel_rfl
set_option maxRecDepth 100000 in
theorem lifted (os : Os) (started : os.Started) (H : Type) (enc : TypeId × Value → H) :
    ReturnsInHanded {} Try.checked os 7 .any (Rows.fnExactAddClueSpec.pre6 enc Try.prog Try.f7 Rows.fnExactAddClueRow.domain false) (Rows.fnExactAddClueSpec.post enc Try.prog Try.f7 false true false false) := by
  refine returnsInHanded_of_change_sized (C := Try.checked) own started (by kernel_rfl) Try.func7
    (ChangeSpec.witness6 (enc := enc) (C := Try.checked) false ⟨#[], #[.agg #[.int .i64 0, .slice none 0 0], .agg #[.int .i64 0, .int .i64 0, .int .i64 0]], []⟩ 8 (by kernel_rfl) (by kernel_rfl) (by kernel_rfl) (by kernel_rfl)) ?_
  intro W base args ds gs before hval0 hW hcnd hsz0 _
  have hsz : (DataW.weightsEach Try.prog (Try.f7.params.toList ++ Rows.fnExactAddClueSpec.plain.varTypes Try.prog) (ds ++ gs)).all (· ≤ reachBytes) = true := hsz0
  have hval : ∀ (j : Nat) t v, Try.f7.params[j]? = some t → args[j]? = some v → Value.okWide Try.prog W .any base t v := hval0
  have hW' := hW
  obtain ⟨p, q, hA0, hV, rfl, hfz, hnd⟩ := hW
  have hA : DataW.TrodAll enc Try.prog W 0 (fun _ => true) true Try.f7.params.toList args.toList ds p := hA0
  rw [Try.params7] at hA hval hsz
  obtain ⟨v0, vs0, d0, ds0, p0, q0, hargs, rfl, rfl, h0, r0⟩ := trodAll_cons hA
  obtain ⟨v1, vs1, d1, ds1, p1, q1, rfl, rfl, rfl, h1, r1⟩ := trodAll_cons r0
  obtain ⟨rfl, rfl, rfl⟩ := trodAll_nil r1
  obtain rfl : args = #[v0, v1] := by cases args; simp_all
  obtain ⟨rfl, rfl⟩ := trodVars_none hV
  have k0 := h0
  have lt0 : ∀ x ∈ p0, x.block < W.heap.size := by obtain ⟨m, hm⟩ := k0; exact DataW.trod_lt m _ _ _ hm
  obtain ⟨a0_0, A0_1, c0_1, l0_1, rfl, hc0_1, hr0_1, g0⟩ := arg_Puzzle (hval 0 40 v0 rfl rfl) h0
  have k1 := h1
  have lt1 : ∀ x ∈ p1, x.block < W.heap.size := by obtain ⟨m, hm⟩ := k1; exact DataW.trod_lt m _ _ _ hm
  obtain ⟨a1_0, a1_1, a1_2, rfl, g1⟩ := arg_Clue (hval 1 23 v1 rfl rfl) h1
  clear hA0 hval0 hsz0 hsz
  obtain ⟨k, hk⟩ := FnExactAddClue_pure a0_0 l0_1 a1_0 a1_1 a1_2 g0 g1 hr0_1.2.1
  refine (laws_FnExactAddClue.calls k a0_0 A0_1 c0_1 l0_1 a1_0 a1_1 a1_2 true W hr0_1 hc0_1 hk).mono fun e W' ⟨he, bel⟩ => ?_
  subst he
  exact ⟨_, rfl, _, _, _, [], _, [], hW', trodAll_mk1 (shut_bool Try.underlying4 _), (trodAll_cons_mk (Below.trod laidOut (by kernel_rfl) (of_decide_eq_true (by kernel_rfl)) k0 bel lt0) (trodAll_cons_mk (Below.trod laidOut (by kernel_rfl) (of_decide_eq_true (by kernel_rfl)) k1 bel lt1) trodAll_mk0)), rfl, bel.frame _, fun h => by cases h⟩
theorem over : Rows.fnExactAddClueRow.holds Try.pinned (OpenSpec.ofChange Rows.fnExactAddClueSpec) :=
  OpenClaim.holds_of_wide 7 Try.f7 rfl rfl rfl rfl rfl rfl rfl ⟨rfl, rfl, rfl, rfl, rfl⟩ rfl rfl rfl rfl rfl (by kernel_rfl) Try.func7 (by kernel_rfl)
    (of_decide_eq_true (by kernel_rfl)) (by unfold Func.isWrapper; first | (rw [if_pos (by decide +kernel)]; kernel_rfl) | (rw [if_neg (by decide +kernel)]; exact ⟨rfl, rfl⟩))
    (fun os started H enc _ => lifted os started H enc)
theorem proved : Rows.FnExactAddClueSaid := over
end Go.Proofs.Ytgbdliccdbccbaa.fnExactAddClue
namespace Go.Proofs.Ytgbdliccdbccbaa
theorem fnExactAddClue_holds : Rows.FnExactAddClueSaid := fnExactAddClue.proved
end Go.Proofs.Ytgbdliccdbccbaa
end
#print axioms Go.Proofs.Ytgbdliccdbccbaa.fnExactAddClue_holds

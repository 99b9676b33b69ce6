/- Lists of numbers: copies, masks of sets, rising lists. -/
import Derived.Test.YtgbdliccdbccbaaQ0
import Derived.Test.YtgbdliccdbccbaaHofA
import Derived.Test.YtgbdliccdbccbaaHofInt
import Derived.Test.YtgbdliccdbccbaaPureA
import Derived.Test.YtgbdliccdbccbaaPureB
import Derived.Test.YtgbdliccdbccbaaPureE
import Derived.Test.YtgbdliccdbccbaaQL0s40
import Derived.Test.YtgbdliccdbccbaaQL1s40
namespace Go.Proofs.Ytgbdliccdbccbaa.Q
open Go.RowKit Go.Proofs.YtgbdliccdbccbaaW.PrintWords Go.Proofs.YtgbdliccdbccbaaW.PrintLast Go.Proofs.YtgbdliccdbccbaaW.PrintMore
set_option linter.unusedVariables false
set_option linter.unusedSimpArgs false
theorem toIntS_ev (l : List Int) (hl : l.length ≤ 1152921504606) : Ev (fun k => laws_toIntS.f k l) l := by
  unfold laws_toIntS.f
  refine ev_pos (by omega) (ev_pos (by omega) ?_)
  rw [Int.toNat_natCast]
  have key : ∀ (d i : Nat), i + d = l.length → Ev (fun k => laws_toIntS.l0 k l (l.take i ++ List.replicate (l.length - i) 0) (i : Int)) l := by
    intro d
    induction d with
    | zero =>
      intro i hi
      refine ev_succ ?_
      simp only [laws_toIntS.l0]
      refine ev_neg (by omega) (ev_eqv (Ev.now _) ?_)
      rw [show i = l.length by omega]; simp
    | succ d ih =>
      intro i hi
      have h1 : i < l.length := by omega
      refine ev_succ ?_
      simp only [laws_toIntS.l0]
      refine ev_pos (by omega) (ev_pos (by omega) (ev_pos (by rw [List.length_append, List.length_take, List.length_replicate]; omega) ?_))
      rw [wrap_succ h1 (by omega), Int.toNat_natCast, rd_get h1]
      have e : (l.take i ++ List.replicate (l.length - i) 0).set i l[i] = l.take (i + 1) ++ List.replicate (l.length - (i + 1)) 0 := by
        rw [List.set_append_right _ _ (by rw [List.length_take]; omega), List.length_take, Nat.min_eq_left (by omega), Nat.sub_self, show l.length - i = (l.length - (i + 1)) + 1 by omega, List.replicate_succ, List.set_cons_zero, List.take_succ_eq_append_getElem h1, List.append_assoc]
        rfl
      rw [e]
      exact ih (i + 1) (by omega)
  exact key l.length 0 (by omega)
/-- The numbers of a list as bits. -/
def maskN (m : Nat) : List Int → Nat
  | [] => m
  | x :: l => maskN (m ||| 2 ^ x.toNat) l
theorem maskN_lt (l : List Int) : ∀ m, m < 65536 → (∀ x ∈ l, 0 ≤ x ∧ x ≤ 15) → maskN m l < 65536 := by
  induction l with
  | nil => intro m hm _; exact hm
  | cons x l ih =>
    intro m hm h
    refine ih _ ?_ (fun y hy => h y (List.mem_cons_of_mem _ hy))
    have hx := h x (List.mem_cons_self ..)
    exact Nat.or_lt_two_pow (n := 16) hm (Nat.pow_lt_pow_right (by decide) (by omega))
theorem maskOf_ev (l : List Int) (hl : l.length ≤ 1152921504606) (h : ∀ x ∈ l, 0 ≤ x ∧ x ≤ 15) : Ev (fun k => impl_maskOf.f k l) (maskN 0 l : Int) ∧ Ev (fun k => spec_voBits.f k l) (maskN 0 l : Int) := by
  unfold impl_maskOf.f spec_voBits.f
  have key : ∀ (d i m : Nat), i + d = l.length → m < 65536 → Ev (fun k => impl_maskOf.l0 k (m : Int) l (l.length : Int) (i : Int)) (maskN m (l.drop i) : Int) ∧ Ev (fun k => spec_voBits.l0 k (m : Int) l (l.length : Int) (i : Int)) (maskN m (l.drop i) : Int) := by
    intro d
    induction d with
    | zero =>
      intro i m hi hm
      refine ⟨ev_succ ?_, ev_succ ?_⟩
      all_goals
        simp only [impl_maskOf.l0, spec_voBits.l0]
        refine ev_neg (by omega) (ev_eqv (Ev.now _) ?_)
        rw [List.drop_of_length_le (by omega)]; rfl
    | succ d ih =>
      intro i m hi hm
      have h1 : i < l.length := by omega
      have hx := h l[i] (List.getElem_mem h1)
      obtain ⟨q, hq⟩ := Int.eq_ofNat_of_zero_le hx.1
      have hq16 : q ≤ 15 := by omega
      have hp : 2 ^ q < 65536 := Nat.pow_lt_pow_right (n := 16) (by decide) (by omega)
      have ih' := ih (i + 1) (m ||| 2 ^ q) (by omega) (Nat.or_lt_two_pow (n := 16) hm hp)
      rw [List.drop_eq_getElem_cons h1, maskN, hq, Int.toNat_natCast]
      refine ⟨ev_succ ?_, ev_succ ?_⟩
      all_goals
        simp only [impl_maskOf.l0, spec_voBits.l0]
        refine ev_pos (by omega) (ev_pos (by omega) (ev_pos (by omega) (ev_pos (by rw [rd_get h1]; omega) ?_)))
        rw [rd_get h1, hq, shl_one_nat q (by omega), or_nat m (2 ^ q) (by omega) (by omega), wrap_succ h1 (by omega)]
      · exact ih'.1
      · exact ih'.2
  exact key l.length 0 0 (by omega) (by decide)
/-- Each number is greater than the one before. -/
def incFrom : Option Int → List Int → Bool
  | _, [] => true
  | p, x :: l => (match p with | none => true | some y => decide (y < x)) && incFrom (some x) l
def incB (l : List Int) : Bool := incFrom none l
/-- A set of n members. -/
def isSetB (l : List Int) (n : Int) : Bool := l.all (inB · 0 (n - 1)) && incB l
/-- The number before the i-th one. -/
def prev (l : List Int) : Nat → Option Int
  | 0 => none
  | i + 1 => l[i]?
theorem isIncreasing_ev (l : List Int) (hl : l.length ≤ 1152921504606) : Ev (fun k => impl_isIncreasing.f k l) (incB l) := by
  unfold impl_isIncreasing.f
  have key : ∀ (d i : Nat), i + d = l.length → Ev (fun k => impl_isIncreasing.l0 k l (l.length : Int) (i : Int)) (incFrom (prev l i) (l.drop i)) := by
    intro d
    induction d with
    | zero =>
      intro i hi
      refine ev_succ ?_
      simp only [impl_isIncreasing.l0]
      refine ev_neg (by omega) (ev_eqv (Ev.now _) ?_)
      rw [List.drop_of_length_le (by omega)]; rfl
    | succ d ih =>
      intro i hi
      have h1 : i < l.length := by omega
      have ih' := ih (i + 1) (by omega)
      have hp : prev l (i + 1) = some l[i] := by rw [prev, List.getElem?_eq_getElem h1]
      rw [hp] at ih'
      refine ev_succ ?_
      simp only [impl_isIncreasing.l0]
      refine ev_pos (by omega) ?_
      rw [wrap_succ h1 (by omega), List.drop_eq_getElem_cons h1]
      cases i with
      | zero => exact ev_neg (by omega) (ev_eqv ih' (by simp [incFrom, prev]))
      | succ i =>
        have h2 : i < l.length := by omega
        rw [wrap_pred h2 (by omega), rd_get h1, rd_get h2]
        refine ev_pos (by omega) (ev_pos (by omega) (ev_pos (by omega) (ev_pos (by omega) (ev_pos (by omega) ?_))))
        have e : prev l (i + 1) = some l[i] := by rw [prev, List.getElem?_eq_getElem h2]
        rw [e, incFrom]
        by_cases c : l[i + 1] ≤ l[i]
        · exact ev_pos c (ev_eqv (Ev.now _) (by rw [decide_eq_false (by omega)]; rfl))
        · exact ev_neg c (ev_eqv ih' (by rw [decide_eq_true (by omega)]; rfl))
  exact key l.length 0 (by omega)
theorem l1Rising_ev (l : List Int) (lo hi : Int) (hl : l.length ≤ 1152921504606) : Ev (fun k => spec_l1Rising.f k l lo hi) (l.all (inB · lo hi) && incB l) := by
  unfold spec_l1Rising.f
  have key : ∀ (d i : Nat), i + d = l.length → Ev (fun k => spec_l1Rising.l0 k l lo hi l (l.length : Int) (i : Int)) ((l.drop i).all (inB · lo hi) && incFrom (prev l i) (l.drop i)) := by
    intro d
    induction d with
    | zero =>
      intro i hi
      refine ev_succ ?_
      simp only [spec_l1Rising.l0]
      refine ev_neg (by omega) (ev_eqv (Ev.now _) ?_)
      rw [List.drop_of_length_le (by omega)]; rfl
    | succ d ih =>
      intro i hi
      have h1 : i < l.length := by omega
      have ih' := ih (i + 1) (by omega)
      have hp : prev l (i + 1) = some l[i] := by rw [prev, List.getElem?_eq_getElem h1]
      rw [hp] at ih'
      refine ev_succ ?_
      simp only [spec_l1Rising.l0, l1In_eq, Option.bind_some]
      refine ev_pos (by omega) (ev_pos (by omega) (ev_pos (by omega) ?_))
      rw [wrap_succ h1 (by omega), List.drop_eq_getElem_cons h1, rd_get h1, List.all_cons]
      refine ev_bool (fun hb => ?_) (fun hb => ev_eqv (Ev.now _) (by rw [hb]; rfl))
      rw [hb]
      cases i with
      | zero => exact ev_neg (by omega) (ev_eqv ih' (by simp [incFrom, prev]))
      | succ i =>
        have h2 : i < l.length := by omega
        rw [wrap_pred h2 (by omega), rd_get h2]
        refine ev_pos (by omega) (ev_pos (by omega) (ev_pos (by omega) ?_))
        have e : prev l (i + 1) = some l[i] := by rw [prev, List.getElem?_eq_getElem h2]
        rw [e, incFrom]
        by_cases c : l[i] ≥ l[i + 1]
        · exact ev_pos c (ev_eqv (Ev.now _) (by rw [decide_eq_false (by omega)]; simp))
        · exact ev_neg c (ev_eqv ih' (by rw [decide_eq_true (by omega)]; rfl))
  exact key l.length 0 (by omega)
theorem any_not_all {α : Type} (l : List α) (p : α → Bool) : (!l.any fun x => !p x) = l.all p := by
  induction l with
  | nil => rfl
  | cons x l ih => rw [List.any_cons, List.all_cons, ← ih]; cases p x <;> simp
theorem areIn_eq (l : List Int) (lo hi : Int) : impl_areIn.f l lo hi = some (l.all (inB · lo hi)) := by
  unfold impl_areIn.f
  rw [anyO_some (q := fun x => !inB x lo hi) (fun x _ => by unfold impl_areIn_1.f; rw [within_eq]; rfl)]
  rw [Option.bind_some, any_not_all]
theorem isSet_ev (l : List Int) (n : Int) (hn : -1000000 ≤ n ∧ n ≤ 1000000) (hl : l.length ≤ 1152921504606) : Ev (fun k => impl_isSet.f k l n) (isSetB l n) := by
  unfold impl_isSet.f isSetB
  rw [wrap64_id (by omega)]
  simp only [areIn_eq, Option.bind_some]
  refine ev_bool (fun hb => ?_) (fun hb => ev_eqv (Ev.now _) (by rw [hb]; rfl))
  rw [hb]
  exact Ev.bind (isIncreasing_ev l hl) (Ev.now _)
theorem voSet_ev (l : List Int) (n : Int) (hn : -1000000 ≤ n ∧ n ≤ 1000000) (hl : l.length ≤ 1152921504606) : Ev (fun k => spec_voSet.f k n l) (isSetB l n) := by
  unfold spec_voSet.f isSetB
  rw [wrap64_id (by omega)]
  exact Ev.bind (l1Rising_ev l 0 (n - 1) hl) (Ev.now _)
theorem isSetB_mem {l : List Int} {n : Int} (h : isSetB l n = true) : ∀ x ∈ l, 0 ≤ x ∧ x ≤ n - 1 := by
  intro x hx
  unfold isSetB at h
  rw [Bool.and_eq_true, List.all_eq_true] at h
  exact inB_iff.1 (h.1 x hx)
end Go.Proofs.Ytgbdliccdbccbaa.Q

/- Bits of whole numbers as bits of natural numbers; sets and their masks. -/
import Derived.Test.YtgbdliccdbccbaaQ0
import Derived.Test.YtgbdliccdbccbaaPureA
import Derived.Test.YtgbdliccdbccbaaPureE
import Derived.Test.YtgbdliccdbccbaaQL0s20
namespace Go.Proofs.Ytgbdliccdbccbaa.Q
open Go.RowKit Go.Proofs.YtgbdliccdbccbaaW.PrintWords Go.Proofs.YtgbdliccdbccbaaW.PrintLast Go.Proofs.YtgbdliccdbccbaaW.PrintMore
set_option linter.unusedVariables false
set_option linter.unusedSimpArgs false
theorem wraps_i64 (n : Int) (h0 : 0 ≤ n) (h1 : n < 2 ^ 62) : IntKind.i64.wrap n = n := by rw [IntKind.wrap_i64]; omega
theorem and_nat (a b : Nat) (ha : a < 2 ^ 62) (hb : b < 2 ^ 62) : Go.bits .and .i64 (a : Int) (b : Int) = ((a &&& b : Nat) : Int) := (Go.bits_nat .i64 62 (by decide) wraps_i64 a b ha hb).1
theorem or_nat (a b : Nat) (ha : a < 2 ^ 62) (hb : b < 2 ^ 62) : Go.bits .or .i64 (a : Int) (b : Int) = ((a ||| b : Nat) : Int) := (Go.bits_nat .i64 62 (by decide) wraps_i64 a b ha hb).2
theorem shr_nat (a n : Nat) (hn : n ≤ 64) : shr .i64 (a : Int) (n : Int) = ((a >>> n : Nat) : Int) := by
  unfold shr
  rw [Int.toNat_natCast, show min n IntKind.i64.bits = n from Nat.min_eq_left hn, Nat.shiftRight_eq_div_pow]
  simp
theorem shl_one_nat (n : Nat) (hn : n ≤ 16) : shl .i64 1 (n : Int) = ((2 ^ n : Nat) : Int) := by
  rw [shl_one (n : Int) ⟨by omega, by omega⟩, Int.toNat_natCast]; simp
theorem and_one_nat (a : Nat) (ha : a < 2 ^ 62) : Go.bits .and .i64 (a : Int) 1 = ((a % 2 : Nat) : Int) := by
  have := and_nat a 1 ha (by decide)
  rw [Nat.and_one_is_mod] at this
  exact this
theorem tmod_two (a : Nat) : Int.tmod (a : Int) 2 = ((a % 2 : Nat) : Int) := by
  rw [Int.tmod_eq_emod_of_nonneg (by omega)]; omega
theorem shr_lt (a i : Nat) (ha : a < 2 ^ 62) : a >>> i < 2 ^ 62 := by
  rw [Nat.shiftRight_eq_div_pow]
  exact Nat.lt_of_le_of_lt (Nat.div_le_self _ _) ha
/-- The members of a mask from i on, n of them looked at. -/
def bitsL (m : Nat) : Nat → Nat → List Int
  | _, 0 => []
  | i, n + 1 => if m >>> i % 2 = 1 then (i : Int) :: bitsL m (i + 1) n else bitsL m (i + 1) n
/-- The set with a number. -/
def setL (m : Nat) : List Int := bitsL m 0 16
theorem bitsL_zero (m i n : Nat) (h : m >>> i = 0) : bitsL m i n = [] := by
  induction n generalizing i with
  | zero => rfl
  | succ n ih =>
    rw [bitsL, h, if_neg (by decide)]
    exact ih (i + 1) (by rw [Nat.shiftRight_succ, h])
theorem bitsL_len (m i n : Nat) : (bitsL m i n).length ≤ n := by
  induction n generalizing i with
  | zero => simp [bitsL]
  | succ n ih =>
    rw [bitsL]
    split
    · simp; exact ih _
    · exact Nat.le_succ_of_le (ih _)
theorem setOf_ev (m : Nat) (hm : m < 65536) : Ev (fun k => impl_setOf.f k (m : Int)) (setL m) := by
  unfold impl_setOf.f
  have key : ∀ (n i : Nat) (acc : List Int), i + n = 16 → acc.length ≤ i → Ev (fun k => impl_setOf.l0 k (m : Int) acc (i : Int)) (acc ++ bitsL m i n) := by
    intro n
    induction n with
    | zero =>
      intro i acc hi ha
      refine ev_succ ?_
      simp only [impl_setOf.l0, shr_nat m i (by omega)]
      refine ev_pos (by omega) (ev_neg ?_ (ev_eqv (Ev.now acc) (by simp [bitsL])))
      rw [show i = 16 by omega, Nat.shiftRight_eq_div_pow, Nat.div_eq_of_lt hm]; decide
    | succ n ih =>
      intro i acc hi ha
      refine ev_succ ?_
      simp only [impl_setOf.l0, shr_nat m i (by omega), and_one_nat _ (shr_lt m i (by omega))]
      refine ev_pos (by omega) ?_
      by_cases h0 : m >>> i = 0
      · exact ev_neg (by rw [h0]; decide) (ev_eqv (Ev.now acc) (by rw [bitsL_zero m i _ h0]; simp))
      · refine ev_pos (Int.ofNat_lt.2 (Nat.pos_of_ne_zero h0)) ?_
        rw [wrap_succ (n := 16) (by omega) (by decide), bitsL]
        by_cases h1 : m >>> i % 2 = 1
        · refine ev_pos (by omega) (ev_pos (by omega) (ev_eqv (ih (i + 1) (acc ++ [(i : Int)]) (by omega) (by simp; omega)) ?_))
          rw [if_pos h1]; simp
        · refine ev_neg (by omega) (ev_eqv (ih (i + 1) acc (by omega) (by omega)) ?_)
          rw [if_neg h1]
  exact key 16 0 [] (by omega) (by simp)
theorem voList_ev (m : Nat) (hm : m < 65536) : Ev (fun k => spec_voList.f k (m : Int)) (setL m) := by
  unfold spec_voList.f
  have key : ∀ (n i : Nat) (acc : List Int), i + n = 16 → acc.length ≤ i → Ev (fun k => spec_voList.l0 k (m : Int) acc (i : Int)) (acc ++ bitsL m i n) := by
    intro n
    induction n with
    | zero =>
      intro i acc hi ha
      refine ev_succ ?_
      simp only [spec_voList.l0, shr_nat m i (by omega)]
      refine ev_pos (by omega) (ev_neg ?_ (ev_eqv (Ev.now acc) (by simp [bitsL])))
      rw [show i = 16 by omega, Nat.shiftRight_eq_div_pow, Nat.div_eq_of_lt hm]; decide
    | succ n ih =>
      intro i acc hi ha
      refine ev_succ ?_
      simp only [spec_voList.l0, shr_nat m i (by omega), tmod_two]
      refine ev_pos (by omega) ?_
      by_cases h0 : m >>> i = 0
      · exact ev_neg (by rw [h0]; decide) (ev_eqv (Ev.now acc) (by rw [bitsL_zero m i _ h0]; simp))
      · refine ev_pos (Int.ofNat_lt.2 (Nat.pos_of_ne_zero h0)) ?_
        rw [wrap_succ (n := 16) (by omega) (by decide), bitsL]
        by_cases h1 : m >>> i % 2 = 1
        · refine ev_pos (by omega) (ev_pos (by omega) (ev_eqv (ih (i + 1) (acc ++ [(i : Int)]) (by omega) (by simp; omega)) ?_))
          rw [if_pos h1]; simp
        · refine ev_neg (by omega) (ev_eqv (ih (i + 1) acc (by omega) (by omega)) ?_)
          rw [if_neg h1]
  exact key 16 0 [] (by omega) (by simp)
end Go.Proofs.Ytgbdliccdbccbaa.Q

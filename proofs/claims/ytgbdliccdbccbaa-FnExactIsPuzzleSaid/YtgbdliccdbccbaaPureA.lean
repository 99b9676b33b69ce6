/- Plain words for what the smallest functions of the program and of the reference come to. -/
import Derived.Test.YtgbdliccdbccbaaQ0
import Derived.Test.YtgbdliccdbccbaaQL0s10
import Derived.Test.YtgbdliccdbccbaaQL0s10b
import Derived.Test.YtgbdliccdbccbaaQL0s93
import Derived.Test.YtgbdliccdbccbaaQL0s93b
import Derived.Test.YtgbdliccdbccbaaQL0s93c
import Derived.Test.YtgbdliccdbccbaaQL0sb3
import Derived.Test.YtgbdliccdbccbaaQL0sf3
namespace Go.Proofs.Ytgbdliccdbccbaa.Q
open Go.RowKit Go.Proofs.YtgbdliccdbccbaaW.PrintWords Go.Proofs.YtgbdliccdbccbaaW.PrintLast Go.Proofs.YtgbdliccdbccbaaW.PrintMore
set_option linter.unusedVariables false
set_option linter.unusedSimpArgs false
def inB (n lo hi : Int) : Bool := decide (lo ≤ n) && decide (n ≤ hi)
theorem bind_ite_false {b : Bool} {x : Option Bool} {y : Bool} (h : b = true → x = some y) : (if b = true then x else some false) = some (b && y) := by
  cases b
  · rfl
  · simpa using h rfl
theorem shl_one (n : Int) (h : 0 ≤ n ∧ n ≤ 16) : shl .i64 1 n = 2 ^ n.toNat := by
  obtain ⟨m, rfl⟩ := Int.eq_ofNat_of_zero_le h.1
  have hm : m ≤ 16 := by omega
  have : ∀ m : Nat, m ≤ 16 → shl .i64 1 (m : Int) = 2 ^ (m : Int).toNat := by decide
  exact this m hm
theorem pow_le16 (n : Int) (h : 0 ≤ n ∧ n ≤ 16) : 1 ≤ (2 : Int) ^ n.toNat ∧ (2 : Int) ^ n.toNat ≤ 65536 := by
  obtain ⟨m, rfl⟩ := Int.eq_ofNat_of_zero_le h.1
  have hm : m ≤ 16 := by omega
  have : ∀ m : Nat, m ≤ 16 → 1 ≤ (2 : Int) ^ (m : Int).toNat ∧ (2 : Int) ^ (m : Int).toNat ≤ 65536 := by decide
  exact this m hm
theorem wrap64_id {x : Int} (h : -9223372036854775808 ≤ x ∧ x ≤ 9223372036854775807) : wrap64 x = x := by unfold wrap64; omega
theorem all_bits (n : Int) (h : 0 ≤ n ∧ n ≤ 16) : wrap64 (shl .i64 1 n - 1) = 2 ^ n.toNat - 1 := by
  rw [shl_one n h]
  have := pow_le16 n h
  exact wrap64_id (by omega)
theorem within_eq (n lo hi : Int) : impl_within.f n lo hi = some (inB n lo hi) := by
  unfold impl_within.f inB
  split <;> simp_all <;> omega
theorem l1In_eq (n lo hi : Int) : spec_l1In.f n lo hi = some (inB n lo hi) := by
  unfold spec_l1In.f inB
  split <;> simp_all <;> omega
theorem voAll_eq (n : Int) (h : 0 ≤ n ∧ n ≤ 16) : spec_voAll.f n = some (2 ^ n.toNat - 1) := by
  unfold spec_voAll.f
  rw [if_pos h.1, all_bits n h]
theorem isHidden_eq (n : Int) : impl_isHidden.f n = some (inB n 1 4) := by unfold impl_isHidden.f; rw [within_eq]; rfl
theorem pzMembers_eq (n : Int) : spec_pzMembers.f n = some (inB n 1 4) := by unfold spec_pzMembers.f; rw [l1In_eq]; rfl
theorem inB_iff {n lo hi : Int} : inB n lo hi = true ↔ lo ≤ n ∧ n ≤ hi := by unfold inB; simp
/-- What a clue must be. -/
def clueOk (n k a b : Int) : Bool :=
  if k = 0 then inB a 0 (2 ^ n.toNat - 1) && inB b 0 1 else if k = 1 then inB a 1 15 && (b == 0) else if k = 2 then inB a 0 (n - 1) && inB b 0 1
  else if k = 3 then inB a 0 (n - 1) && inB b 0 8 else if k = 4 then inB a 0 1 && (b == 0) else if k = 5 then inB a 0 1 && (b == 0) else false
theorem pzClue_eq (n k a b : Int) (h : 1 ≤ n ∧ n ≤ 4) : spec_pzClue.f n k a b = some (clueOk n k a b) := by
  unfold spec_pzClue.f clueOk
  simp only [l1In_eq, voAll_eq n (by omega), Option.bind_some, wrap64_id (show -9223372036854775808 ≤ n - 1 ∧ n - 1 ≤ 9223372036854775807 by omega)]
  repeat' split
  all_goals simp_all
theorem IsClue_eq (n k a b : Int) : impl_IsClue.f n k a b = some (inB n 1 4 && clueOk n k a b) := by
  unfold impl_IsClue.f
  rw [isHidden_eq, Option.bind_some]
  refine bind_ite_false fun h => ?_
  have hn := inB_iff.1 h
  unfold clueOk
  simp only [within_eq, if_pos (show 0 ≤ n by omega), Option.bind_some, all_bits n (by omega), wrap64_id (show -9223372036854775808 ≤ n - 1 ∧ n - 1 ≤ 9223372036854775807 by omega)]
  repeat' split
  all_goals simp_all
theorem sIsClue_eq (n k a b : Int) : spec_IsClue.f n k a b = some (inB n 1 4 && clueOk n k a b) := by
  unfold spec_IsClue.f
  rw [pzMembers_eq, Option.bind_some]
  refine bind_ite_false fun h => ?_
  rw [pzClue_eq n k a b (inB_iff.1 h)]
  rfl
end Go.Proofs.Ytgbdliccdbccbaa.Q

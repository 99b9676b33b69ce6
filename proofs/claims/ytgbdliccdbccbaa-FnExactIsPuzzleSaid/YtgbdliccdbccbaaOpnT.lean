/- The law's own types of this seat, read as data. -/
import Derived.Test.YtgbdliccdbccbaaQ0
import Derived.Test.YtgbdliccdbccbaaOpnA
namespace Go.Proofs.Ytgbdliccdbccbaa.Q
open Go.RowKit Go.Proofs.YtgbdliccdbccbaaW.PrintWords Go.Proofs.YtgbdliccdbccbaaW.PrintLast Go.Proofs.YtgbdliccdbccbaaW.PrintMore
set_option linter.unusedVariables false
set_option linter.unusedSimpArgs false
section
variable {H : Type} {enc : TypeId × Value → H} {W : World}
instance : Inhabited S23 := ⟨z23⟩
theorem opens_Clue : Opens enc Try.prog W 23 k23 (fun x => I64 x.f0 ∧ I64 x.f1 ∧ I64 x.f2) :=
  opens_iso _ (fun x => ⟨x.1, x.2.1, x.2.2⟩) (fun _ => rfl) (opens_triple Try.underlying23 (by kernel_rfl) rfl rfl rfl (by kernel_rfl) (by kernel_rfl) (by kernel_rfl) (opens_int Try.underlying3) (opens_int Try.underlying3) (opens_int Try.underlying3))
theorem opens_Puzzle : Opens enc Try.prog W 40 (Kd.pair (Kd.int .i64) (Kd.slice 23 k23)) (fun x => I64 x.1 ∧ ∀ y ∈ x.2, I64 y.f0 ∧ I64 y.f1 ∧ I64 y.f2) :=
  opens_pair Try.underlying40 (by kernel_rfl) rfl rfl (by kernel_rfl) (by kernel_rfl) (opens_int Try.underlying3) (opens_slice Try.underlying38 (by kernel_rfl) opens_Clue)
end
open Go.ChangeShapes Go.WideShapes Go.ChangeAt Go.Deep
section
variable {H : Type} {enc : TypeId × Value → H} {W : World} {r : Reach} {b0 : Nat} {v : Value} {y : DataW H} {p : List MemPlace}
theorem arg_Clue (hv : Value.okWide Try.prog W r b0 23 v) (hr : DataW.Trod enc Try.prog W 0 (fun _ => true) true 23 v y p) :
    ∃ a b c, v = .agg #[.int .i64 a, .int .i64 b, .int .i64 c] ∧ I64 a ∧ I64 b ∧ I64 c := by
  obtain ⟨x, ⟨l⟩, rfl, k, g⟩ := open_struct Try.underlying23 hv hr opens_Clue
  obtain rfl := k23_open k
  exact ⟨_, _, _, rfl, g⟩
theorem arg_Puzzle (hv : Value.okWide Try.prog W r b0 40 v) (hr : DataW.Trod enc Try.prog W 0 (fun _ => true) true 40 v y p) :
    ∃ a A c l, v = .agg #[.int .i64 a, .slice A (l : List S23).length c] ∧ l.length ≤ c ∧ Kd.C k23 W A l.length l ∧ I64 a ∧ ∀ y ∈ l, I64 y.f0 ∧ I64 y.f1 ∧ I64 y.f2 := by
  obtain ⟨x, ⟨l⟩, rfl, k, g⟩ := open_struct Try.underlying40 hv hr opens_Puzzle
  obtain ⟨_, _, rfl, rfl, ⟨A, c, rfl, hl, hC⟩⟩ := k
  exact ⟨_, A, c, _, rfl, hl, hC, g⟩
theorem arg_ints (hv : Value.okWide Try.prog W r b0 28 v) (hr : DataW.Trod enc Try.prog W 0 (fun _ => true) true 28 v y p) :
    ∃ A c l, v = .slice A (l : List Int).length c ∧ l.length ≤ c ∧ Kd.C (Kd.int .i64) W A l.length l ∧ ∀ y ∈ l, I64 y := by
  obtain ⟨xs, A, c, rfl, hl, hC, g⟩ := open_rows Try.underlying28 (by kernel_rfl) hv hr (opens_int Try.underlying3)
  exact ⟨A, c, xs, rfl, hl, hC, g⟩
end
end Go.Proofs.Ytgbdliccdbccbaa.Q

/- The row of the law FnExactDropClue: for every input it returns true, and its arguments read afterwards as before. No condition: FnExactDropClue_pure says that its pure form answers true at every input, and laws_FnExactDropClue.calls that the machine comes to just that. -/
import Derived.Test.YtgbdliccdbccbaaKFnExactDropClue3
import Derived.Test.YtgbdliccdbccbaaRows
import Derived.Laws.StructEq
import Derived.ProofKit
import Derived.OpenShut
import Derived.ShutString
import Derived.ChangeOld
import Derived.SizedLaws
import Derived.Deep.Slices
import Derived.Deep.Strs
section
namespace Go.Proofs.Ytgbdliccdbccbaa.Q
open Go.RowKit Go.Proofs.YtgbdliccdbccbaaW.PrintWords Go.Proofs.YtgbdliccdbccbaaW.PrintLast Go.Proofs.YtgbdliccdbccbaaW.PrintMore
attribute [local go_sem] max2_int min2_int max_two min_two max_three min_three max_four min_four
set_option linter.unusedVariables false
set_option linter.unusedSimpArgs false
def laws_FnExactDropClue.f (k : Nat) (a0_0 : Int) (l0_1 : List (S23)) (a1 : Int) : Option (Bool) := (laws_szPuzzle.f a0_0 l0_1 1048576).bind fun t394 => (if t394 < 0 then (some true) else ((laws_toPuzzle.f k a0_0 l0_1).bind fun bt395 => ((spec_DropClue.f k bt395.1 bt395.2 a1).bind fun bt399 => ((laws_toPuzzle.f k a0_0 l0_1).bind fun bt405 => ((impl_DropClue.f bt405.1 bt405.2 a1).bind fun bt410 => ((laws_eqPuzzle.f k bt410.1 bt410.2.1 bt399.1 bt399.2.1).bind fun t416 => (if t416 = true then (if (bt410.2.2 != bt399.2.2) = true then (none) else ((laws_toPuzzle.f k a0_0 l0_1).bind fun bt417 => ((laws_eqPuzzle.f k bt405.1 bt405.2 bt417.1 bt417.2).bind fun t421 => (if t421 = true then ((laws_markPuzzle.f k bt405.1 bt405.2 1).bind fun bt422 => (if bt422.1 < 0 then (none) else ((laws_eqPuzzle.f k bt410.1 bt410.2.1 bt399.1 bt399.2.1).bind fun t424 => (if t424 = true then ((laws_markPuzzle.f k bt410.1 bt410.2.1 1).bind fun bt425 => ((laws_heldPuzzle.f k bt410.1 bt425.2 1).bind fun t427 => (if t427 < 0 then (none) else (if t427 = bt425.1 then ((laws_toPuzzle.f k a0_0 l0_1).bind fun bt428 => ((impl_DropClue.f bt428.1 bt428.2 a1).bind fun bt432 => ((laws_eqPuzzle.f k bt432.1 bt432.2.1 bt399.1 bt399.2.1).bind fun t438 => (if t438 = true then (if (bt432.2.2 != bt399.2.2) = true then (none) else ((laws_heldPuzzle.f k bt410.1 bt425.2 1).bind fun t439 => (if t439 < 0 then (none) else (if t439 = bt425.1 then (some true) else (none))))) else (none))))) else (none))))) else (none))))) else (none))))) else (none))))))))
set_option maxHeartbeats 8000000 in
set_option maxRecDepth 100000 in
theorem laws_FnExactDropClue.calls (k : Nat) (a0_0 : Int) (A0_1 : Option Addr) (c0_1 : Nat) (l0_1 : List (S23)) (a1 : Int) (r : Bool) (w : World) (hr0_1 : Kd.C k23 w A0_1 l0_1.length l0_1) (hc0_1 : l0_1.length ≤ c0_1) (h : laws_FnExactDropClue.f k a0_0 l0_1 a1 = some r) :
  Calls Try.prog 8 #[.agg #[.int .i64 a0_0, .slice A0_1 l0_1.length c0_1], .int .i64 a1] w fun e w' => e = .returned (.bool r) ∧ Below w.heap.size w w' := by
 have hu40 := Try.underlying40
 have hu45 := Try.underlying45
 have HR0_1 := Aside0.mk hr0_1
 have HC0_1 := Aside0.mk hc0_1
 clear hr0_1 hc0_1
 have HB := Aside0.mk (Below.refl w.heap.size w)
 have H : ((laws_szPuzzle.f a0_0 l0_1 1048576).bind fun t394 => (if t394 < 0 then (some true) else ((laws_toPuzzle.f k a0_0 l0_1).bind fun bt395 => ((spec_DropClue.f k bt395.1 bt395.2 a1).bind fun bt399 => ((laws_toPuzzle.f k a0_0 l0_1).bind fun bt405 => ((impl_DropClue.f bt405.1 bt405.2 a1).bind fun bt410 => ((laws_eqPuzzle.f k bt410.1 bt410.2.1 bt399.1 bt399.2.1).bind fun t416 => (if t416 = true then (if (bt410.2.2 != bt399.2.2) = true then (none) else ((laws_toPuzzle.f k a0_0 l0_1).bind fun bt417 => ((laws_eqPuzzle.f k bt405.1 bt405.2 bt417.1 bt417.2).bind fun t421 => (if t421 = true then ((laws_markPuzzle.f k bt405.1 bt405.2 1).bind fun bt422 => (if bt422.1 < 0 then (none) else ((laws_eqPuzzle.f k bt410.1 bt410.2.1 bt399.1 bt399.2.1).bind fun t424 => (if t424 = true then ((laws_markPuzzle.f k bt410.1 bt410.2.1 1).bind fun bt425 => ((laws_heldPuzzle.f k bt410.1 bt425.2 1).bind fun t427 => (if t427 < 0 then (none) else (if t427 = bt425.1 then ((laws_toPuzzle.f k a0_0 l0_1).bind fun bt428 => ((impl_DropClue.f bt428.1 bt428.2 a1).bind fun bt432 => ((laws_eqPuzzle.f k bt432.1 bt432.2.1 bt399.1 bt399.2.1).bind fun t438 => (if t438 = true then (if (bt432.2.2 != bt399.2.2) = true then (none) else ((laws_heldPuzzle.f k bt410.1 bt425.2 1).bind fun t439 => (if t439 < 0 then (none) else (if t439 = bt425.1 then (some true) else (none))))) else (none))))) else (none))))) else (none))))) else (none))))) else (none))))))))) = some r := h
 clear h
 replace H := Option.bind_eq_some_iff.mp H
 obtain ⟨t394, A30, H⟩ := H
 replace H : (if t394 < 0 then (some true) else ((laws_toPuzzle.f k a0_0 l0_1).bind fun bt395 => ((spec_DropClue.f k bt395.1 bt395.2 a1).bind fun bt399 => ((laws_toPuzzle.f k a0_0 l0_1).bind fun bt405 => ((impl_DropClue.f bt405.1 bt405.2 a1).bind fun bt410 => ((laws_eqPuzzle.f k bt410.1 bt410.2.1 bt399.1 bt399.2.1).bind fun t416 => (if t416 = true then (if (bt410.2.2 != bt399.2.2) = true then (none) else ((laws_toPuzzle.f k a0_0 l0_1).bind fun bt417 => ((laws_eqPuzzle.f k bt405.1 bt405.2 bt417.1 bt417.2).bind fun t421 => (if t421 = true then ((laws_markPuzzle.f k bt405.1 bt405.2 1).bind fun bt422 => (if bt422.1 < 0 then (none) else ((laws_eqPuzzle.f k bt410.1 bt410.2.1 bt399.1 bt399.2.1).bind fun t424 => (if t424 = true then ((laws_markPuzzle.f k bt410.1 bt410.2.1 1).bind fun bt425 => ((laws_heldPuzzle.f k bt410.1 bt425.2 1).bind fun t427 => (if t427 < 0 then (none) else (if t427 = bt425.1 then ((laws_toPuzzle.f k a0_0 l0_1).bind fun bt428 => ((impl_DropClue.f bt428.1 bt428.2 a1).bind fun bt432 => ((laws_eqPuzzle.f k bt432.1 bt432.2.1 bt399.1 bt399.2.1).bind fun t438 => (if t438 = true then (if (bt432.2.2 != bt399.2.2) = true then (none) else ((laws_heldPuzzle.f k bt410.1 bt425.2 1).bind fun t439 => (if t439 < 0 then (none) else (if t439 = bt425.1 then (some true) else (none))))) else (none))))) else (none))))) else (none))))) else (none))))) else (none)))))))) = some r := H
 have A3 := Aside0.mk A30
 clear A30
 by_cases c4 : t394 < 0
 ·rw [if_pos c4] at H
  have c4b0 : decide (t394 < 0) = true := decide_eq_true c4
  clear c4
  obtain rfl := Option.some.inj H
  go_enter Try.func8, Try.ntmps8
  go_wp2_with (first | ((with_reducible refine gate_dst (N := 2) rfl ?_); refine box_event ?hg (N := 2) ?hd (cs := #[.int .i64 a0_0, .slice A0_1 l0_1.length c0_1]) (t := 40) ?hr ?_; (case hd => rfl); (case hg => rfl); (case hr => first | (go_simp; done) | (go_simp; rfl)); intro gb393 hg w5 hbox hb; have n0_ := Aside0.mk (below_step (zh HB.out) hb); have n1_ := Aside0.mk (hbox); have n2_ := Aside0.mk ((by rw [hg]; exact (below_size (zh HB.out)) : w.heap.size ≤ gb393)); have n3_ := Aside0.mk ((by rw [hg]; exact (below_size (zh HB.out)) : w.heap.size ≤ gb393)); clear HB; have HB := n0_; have BK393 := n1_; have GW393 := n2_; have GE393 := n3_; clear n0_ n1_ n2_ n3_; clear hb hbox hg; have hcz6_0 : w5.cell? ⟨gb393, 0, none⟩ = some (.int .i64 a0_0) := (blk_cell BK393.out 0).trans rfl; have hcz6_1 : w5.cell? ⟨gb393, 1, none⟩ = some (.slice A0_1 l0_1.length c0_1) := (blk_cell BK393.out 1).trans rfl; have hfz6_0 := blk_frozen BK393.out 0; have hfz6_1 := blk_frozen BK393.out 1) | ((with_reducible refine gate_callee (f := 20) rfl ?_); refine goesL_ (some 18) rfl rfl Try.func20 (by kernel_rfl) rfl #[.agg #[.int .i64 a0_0, .slice A0_1 l0_1.length c0_1], .int .i64 1048576] rfl (by (try simp only [List.map_toArray, List.map_cons, List.map_nil]); first | done | rfl | (simp only [List.length_drop, List.length_take]; rfl)) ?_; (with_reducible refine (laws_szPuzzle.calls a0_0 _ _ l0_1 1048576 t394 _ ?side1 ?side2 A3.out).mono ?_); (case side1 => repeat (first | exact (Kd.C_below HR0_1.out HB.out) | (with_reducible refine Kd.C_alloc ?_ _) | (with_reducible refine Kd.C_drewN ?_ _) | (with_reducible refine Kd.C_drew ?_))); (case side2 => exact HC0_1.out); rintro e w7 ⟨rfl, hb⟩; refine ⟨_, rfl, ?_⟩; have n0_ := Aside0.mk (blk_below (g := gb393) (o := .cells #[.int .i64 a0_0, .slice A0_1 l0_1.length c0_1] 40 (0, 0)) (zb BK393.out) hb); have n1_ := Aside0.mk (below_step (zh HB.out) hb); clear BK393; clear HB; have BK393 := n0_; have HB := n1_; clear n0_ n1_; (try clear hb); (try clear hb2); (try clear hk); (try clear hi)))
  go_ret
  exact ⟨by first | rfl | (simp [errW_none, errW_some] <;> rfl) | (simp [*, errW_none, errW_some] <;> rfl), by repeat (first | (with_reducible first | exact HB.out | apply below_alloc | apply pw_below_drewN | apply below_drew1 | refine below_set ?_ GE393.out) | exact HB.out)⟩
 rw [if_neg c4] at H
 have c4b0 : decide (t394 < 0) = false := decide_eq_false c4
 clear c4
 replace H := Option.bind_eq_some_iff.mp H
 obtain ⟨⟨t395, t396⟩, A80, H⟩ := H
 replace H : ((spec_DropClue.f k t395 t396 a1).bind fun bt399 => ((laws_toPuzzle.f k a0_0 l0_1).bind fun bt405 => ((impl_DropClue.f bt405.1 bt405.2 a1).bind fun bt410 => ((laws_eqPuzzle.f k bt410.1 bt410.2.1 bt399.1 bt399.2.1).bind fun t416 => (if t416 = true then (if (bt410.2.2 != bt399.2.2) = true then (none) else ((laws_toPuzzle.f k a0_0 l0_1).bind fun bt417 => ((laws_eqPuzzle.f k bt405.1 bt405.2 bt417.1 bt417.2).bind fun t421 => (if t421 = true then ((laws_markPuzzle.f k bt405.1 bt405.2 1).bind fun bt422 => (if bt422.1 < 0 then (none) else ((laws_eqPuzzle.f k bt410.1 bt410.2.1 bt399.1 bt399.2.1).bind fun t424 => (if t424 = true then ((laws_markPuzzle.f k bt410.1 bt410.2.1 1).bind fun bt425 => ((laws_heldPuzzle.f k bt410.1 bt425.2 1).bind fun t427 => (if t427 < 0 then (none) else (if t427 = bt425.1 then ((laws_toPuzzle.f k a0_0 l0_1).bind fun bt428 => ((impl_DropClue.f bt428.1 bt428.2 a1).bind fun bt432 => ((laws_eqPuzzle.f k bt432.1 bt432.2.1 bt399.1 bt399.2.1).bind fun t438 => (if t438 = true then (if (bt432.2.2 != bt399.2.2) = true then (none) else ((laws_heldPuzzle.f k bt410.1 bt425.2 1).bind fun t439 => (if t439 < 0 then (none) else (if t439 = bt425.1 then (some true) else (none))))) else (none))))) else (none))))) else (none))))) else (none))))) else (none)))))) = some r := H
 have A8 := Aside0.mk A80
 clear A80
 replace H := Option.bind_eq_some_iff.mp H
 obtain ⟨⟨t399, t400, t403⟩, A90, H⟩ := H
 replace H : ((laws_toPuzzle.f k a0_0 l0_1).bind fun bt405 => ((impl_DropClue.f bt405.1 bt405.2 a1).bind fun bt410 => ((laws_eqPuzzle.f k bt410.1 bt410.2.1 t399 t400).bind fun t416 => (if t416 = true then (if (bt410.2.2 != t403) = true then (none) else ((laws_toPuzzle.f k a0_0 l0_1).bind fun bt417 => ((laws_eqPuzzle.f k bt405.1 bt405.2 bt417.1 bt417.2).bind fun t421 => (if t421 = true then ((laws_markPuzzle.f k bt405.1 bt405.2 1).bind fun bt422 => (if bt422.1 < 0 then (none) else ((laws_eqPuzzle.f k bt410.1 bt410.2.1 t399 t400).bind fun t424 => (if t424 = true then ((laws_markPuzzle.f k bt410.1 bt410.2.1 1).bind fun bt425 => ((laws_heldPuzzle.f k bt410.1 bt425.2 1).bind fun t427 => (if t427 < 0 then (none) else (if t427 = bt425.1 then ((laws_toPuzzle.f k a0_0 l0_1).bind fun bt428 => ((impl_DropClue.f bt428.1 bt428.2 a1).bind fun bt432 => ((laws_eqPuzzle.f k bt432.1 bt432.2.1 t399 t400).bind fun t438 => (if t438 = true then (if (bt432.2.2 != t403) = true then (none) else ((laws_heldPuzzle.f k bt410.1 bt425.2 1).bind fun t439 => (if t439 < 0 then (none) else (if t439 = bt425.1 then (some true) else (none))))) else (none))))) else (none))))) else (none))))) else (none))))) else (none))))) = some r := H
 have A9 := Aside0.mk A90
 clear A90
 replace H := Option.bind_eq_some_iff.mp H
 obtain ⟨⟨t405, t406⟩, A100, H⟩ := H
 replace H : ((impl_DropClue.f t405 t406 a1).bind fun bt410 => ((laws_eqPuzzle.f k bt410.1 bt410.2.1 t399 t400).bind fun t416 => (if t416 = true then (if (bt410.2.2 != t403) = true then (none) else ((laws_toPuzzle.f k a0_0 l0_1).bind fun bt417 => ((laws_eqPuzzle.f k t405 t406 bt417.1 bt417.2).bind fun t421 => (if t421 = true then ((laws_markPuzzle.f k t405 t406 1).bind fun bt422 => (if bt422.1 < 0 then (none) else ((laws_eqPuzzle.f k bt410.1 bt410.2.1 t399 t400).bind fun t424 => (if t424 = true then ((laws_markPuzzle.f k bt410.1 bt410.2.1 1).bind fun bt425 => ((laws_heldPuzzle.f k bt410.1 bt425.2 1).bind fun t427 => (if t427 < 0 then (none) else (if t427 = bt425.1 then ((laws_toPuzzle.f k a0_0 l0_1).bind fun bt428 => ((impl_DropClue.f bt428.1 bt428.2 a1).bind fun bt432 => ((laws_eqPuzzle.f k bt432.1 bt432.2.1 t399 t400).bind fun t438 => (if t438 = true then (if (bt432.2.2 != t403) = true then (none) else ((laws_heldPuzzle.f k bt410.1 bt425.2 1).bind fun t439 => (if t439 < 0 then (none) else (if t439 = bt425.1 then (some true) else (none))))) else (none))))) else (none))))) else (none))))) else (none))))) else (none)))) = some r := H
 have A10 := Aside0.mk A100
 clear A100
 replace H := Option.bind_eq_some_iff.mp H
 obtain ⟨⟨t410, t411, t414⟩, A110, H⟩ := H
 replace H : ((laws_eqPuzzle.f k t410 t411 t399 t400).bind fun t416 => (if t416 = true then (if (t414 != t403) = true then (none) else ((laws_toPuzzle.f k a0_0 l0_1).bind fun bt417 => ((laws_eqPuzzle.f k t405 t406 bt417.1 bt417.2).bind fun t421 => (if t421 = true then ((laws_markPuzzle.f k t405 t406 1).bind fun bt422 => (if bt422.1 < 0 then (none) else ((laws_eqPuzzle.f k t410 t411 t399 t400).bind fun t424 => (if t424 = true then ((laws_markPuzzle.f k t410 t411 1).bind fun bt425 => ((laws_heldPuzzle.f k t410 bt425.2 1).bind fun t427 => (if t427 < 0 then (none) else (if t427 = bt425.1 then ((laws_toPuzzle.f k a0_0 l0_1).bind fun bt428 => ((impl_DropClue.f bt428.1 bt428.2 a1).bind fun bt432 => ((laws_eqPuzzle.f k bt432.1 bt432.2.1 t399 t400).bind fun t438 => (if t438 = true then (if (bt432.2.2 != t403) = true then (none) else ((laws_heldPuzzle.f k t410 bt425.2 1).bind fun t439 => (if t439 < 0 then (none) else (if t439 = bt425.1 then (some true) else (none))))) else (none))))) else (none))))) else (none))))) else (none))))) else (none))) = some r := H
 have A11 := Aside0.mk A110
 clear A110
 replace H := Option.bind_eq_some_iff.mp H
 obtain ⟨t416, A120, H⟩ := H
 replace H : (if t416 = true then (if (t414 != t403) = true then (none) else ((laws_toPuzzle.f k a0_0 l0_1).bind fun bt417 => ((laws_eqPuzzle.f k t405 t406 bt417.1 bt417.2).bind fun t421 => (if t421 = true then ((laws_markPuzzle.f k t405 t406 1).bind fun bt422 => (if bt422.1 < 0 then (none) else ((laws_eqPuzzle.f k t410 t411 t399 t400).bind fun t424 => (if t424 = true then ((laws_markPuzzle.f k t410 t411 1).bind fun bt425 => ((laws_heldPuzzle.f k t410 bt425.2 1).bind fun t427 => (if t427 < 0 then (none) else (if t427 = bt425.1 then ((laws_toPuzzle.f k a0_0 l0_1).bind fun bt428 => ((impl_DropClue.f bt428.1 bt428.2 a1).bind fun bt432 => ((laws_eqPuzzle.f k bt432.1 bt432.2.1 t399 t400).bind fun t438 => (if t438 = true then (if (bt432.2.2 != t403) = true then (none) else ((laws_heldPuzzle.f k t410 bt425.2 1).bind fun t439 => (if t439 < 0 then (none) else (if t439 = bt425.1 then (some true) else (none))))) else (none))))) else (none))))) else (none))))) else (none))))) else (none)) = some r := H
 have A12 := Aside0.mk A120
 clear A120
 by_cases c13 : t416 = true
 rotate_left
 ·replace c13 := Bool.eq_false_iff.mpr c13
  subst c13
  have H1 : (none) = some r := by rw [if_neg (show ¬ (false = true) by decide)] at H; exact H
  clear H
  have H := H1
  clear H1
  exact absurd H (by simp)
 subst c13
 have H1 : (if (t414 != t403) = true then (none) else ((laws_toPuzzle.f k a0_0 l0_1).bind fun bt417 => ((laws_eqPuzzle.f k t405 t406 bt417.1 bt417.2).bind fun t421 => (if t421 = true then ((laws_markPuzzle.f k t405 t406 1).bind fun bt422 => (if bt422.1 < 0 then (none) else ((laws_eqPuzzle.f k t410 t411 t399 t400).bind fun t424 => (if t424 = true then ((laws_markPuzzle.f k t410 t411 1).bind fun bt425 => ((laws_heldPuzzle.f k t410 bt425.2 1).bind fun t427 => (if t427 < 0 then (none) else (if t427 = bt425.1 then ((laws_toPuzzle.f k a0_0 l0_1).bind fun bt428 => ((impl_DropClue.f bt428.1 bt428.2 a1).bind fun bt432 => ((laws_eqPuzzle.f k bt432.1 bt432.2.1 t399 t400).bind fun t438 => (if t438 = true then (if (bt432.2.2 != t403) = true then (none) else ((laws_heldPuzzle.f k t410 bt425.2 1).bind fun t439 => (if t439 < 0 then (none) else (if t439 = bt425.1 then (some true) else (none))))) else (none))))) else (none))))) else (none))))) else (none))))) = some r := by rw [if_pos rfl] at H; exact H
 clear H
 have H := H1
 clear H1
 by_cases c14 : (t414 != t403) = true
 ·rw [if_pos c14] at H
  exact absurd H (by simp)
 rw [if_neg c14] at H
 have c14b0 : (t414 != t403) = false := by simpa using c14
 (try (have c14b1 : decide (t414 = t403) = true := by simpa using c14))
 (try (have c14b2 : (t414 == t403) = true := by simpa using c14))
 clear c14
 replace H := Option.bind_eq_some_iff.mp H
 obtain ⟨⟨t417, t418⟩, A150, H⟩ := H
 replace H : ((laws_eqPuzzle.f k t405 t406 t417 t418).bind fun t421 => (if t421 = true then ((laws_markPuzzle.f k t405 t406 1).bind fun bt422 => (if bt422.1 < 0 then (none) else ((laws_eqPuzzle.f k t410 t411 t399 t400).bind fun t424 => (if t424 = true then ((laws_markPuzzle.f k t410 t411 1).bind fun bt425 => ((laws_heldPuzzle.f k t410 bt425.2 1).bind fun t427 => (if t427 < 0 then (none) else (if t427 = bt425.1 then ((laws_toPuzzle.f k a0_0 l0_1).bind fun bt428 => ((impl_DropClue.f bt428.1 bt428.2 a1).bind fun bt432 => ((laws_eqPuzzle.f k bt432.1 bt432.2.1 t399 t400).bind fun t438 => (if t438 = true then (if (bt432.2.2 != t403) = true then (none) else ((laws_heldPuzzle.f k t410 bt425.2 1).bind fun t439 => (if t439 < 0 then (none) else (if t439 = bt425.1 then (some true) else (none))))) else (none))))) else (none))))) else (none))))) else (none))) = some r := H
 have A15 := Aside0.mk A150
 clear A150
 replace H := Option.bind_eq_some_iff.mp H
 obtain ⟨t421, A160, H⟩ := H
 replace H : (if t421 = true then ((laws_markPuzzle.f k t405 t406 1).bind fun bt422 => (if bt422.1 < 0 then (none) else ((laws_eqPuzzle.f k t410 t411 t399 t400).bind fun t424 => (if t424 = true then ((laws_markPuzzle.f k t410 t411 1).bind fun bt425 => ((laws_heldPuzzle.f k t410 bt425.2 1).bind fun t427 => (if t427 < 0 then (none) else (if t427 = bt425.1 then ((laws_toPuzzle.f k a0_0 l0_1).bind fun bt428 => ((impl_DropClue.f bt428.1 bt428.2 a1).bind fun bt432 => ((laws_eqPuzzle.f k bt432.1 bt432.2.1 t399 t400).bind fun t438 => (if t438 = true then (if (bt432.2.2 != t403) = true then (none) else ((laws_heldPuzzle.f k t410 bt425.2 1).bind fun t439 => (if t439 < 0 then (none) else (if t439 = bt425.1 then (some true) else (none))))) else (none))))) else (none))))) else (none))))) else (none)) = some r := H
 have A16 := Aside0.mk A160
 clear A160
 by_cases c17 : t421 = true
 rotate_left
 ·replace c17 := Bool.eq_false_iff.mpr c17
  subst c17
  have H1 : (none) = some r := by rw [if_neg (show ¬ (false = true) by decide)] at H; exact H
  clear H
  have H := H1
  clear H1
  exact absurd H (by simp)
 subst c17
 have H1 : ((laws_markPuzzle.f k t405 t406 1).bind fun bt422 => (if bt422.1 < 0 then (none) else ((laws_eqPuzzle.f k t410 t411 t399 t400).bind fun t424 => (if t424 = true then ((laws_markPuzzle.f k t410 t411 1).bind fun bt425 => ((laws_heldPuzzle.f k t410 bt425.2 1).bind fun t427 => (if t427 < 0 then (none) else (if t427 = bt425.1 then ((laws_toPuzzle.f k a0_0 l0_1).bind fun bt428 => ((impl_DropClue.f bt428.1 bt428.2 a1).bind fun bt432 => ((laws_eqPuzzle.f k bt432.1 bt432.2.1 t399 t400).bind fun t438 => (if t438 = true then (if (bt432.2.2 != t403) = true then (none) else ((laws_heldPuzzle.f k t410 bt425.2 1).bind fun t439 => (if t439 < 0 then (none) else (if t439 = bt425.1 then (some true) else (none))))) else (none))))) else (none))))) else (none))))) = some r := by rw [if_pos rfl] at H; exact H
 clear H
 have H := H1
 clear H1
 replace H := Option.bind_eq_some_iff.mp H
 obtain ⟨⟨t422, t423⟩, A180, H⟩ := H
 replace H : (if t422 < 0 then (none) else ((laws_eqPuzzle.f k t410 t411 t399 t400).bind fun t424 => (if t424 = true then ((laws_markPuzzle.f k t410 t411 1).bind fun bt425 => ((laws_heldPuzzle.f k t410 bt425.2 1).bind fun t427 => (if t427 < 0 then (none) else (if t427 = bt425.1 then ((laws_toPuzzle.f k a0_0 l0_1).bind fun bt428 => ((impl_DropClue.f bt428.1 bt428.2 a1).bind fun bt432 => ((laws_eqPuzzle.f k bt432.1 bt432.2.1 t399 t400).bind fun t438 => (if t438 = true then (if (bt432.2.2 != t403) = true then (none) else ((laws_heldPuzzle.f k t410 bt425.2 1).bind fun t439 => (if t439 < 0 then (none) else (if t439 = bt425.1 then (some true) else (none))))) else (none))))) else (none))))) else (none)))) = some r := H
 have A18 := Aside0.mk A180
 clear A180
 by_cases c19 : t422 < 0
 ·rw [if_pos c19] at H
  exact absurd H (by simp)
 rw [if_neg c19] at H
 have c19b0 : decide (t422 < 0) = false := decide_eq_false c19
 clear c19
 replace H := Option.bind_eq_some_iff.mp H
 obtain ⟨t424, A200, H⟩ := H
 replace H : (if t424 = true then ((laws_markPuzzle.f k t410 t411 1).bind fun bt425 => ((laws_heldPuzzle.f k t410 bt425.2 1).bind fun t427 => (if t427 < 0 then (none) else (if t427 = bt425.1 then ((laws_toPuzzle.f k a0_0 l0_1).bind fun bt428 => ((impl_DropClue.f bt428.1 bt428.2 a1).bind fun bt432 => ((laws_eqPuzzle.f k bt432.1 bt432.2.1 t399 t400).bind fun t438 => (if t438 = true then (if (bt432.2.2 != t403) = true then (none) else ((laws_heldPuzzle.f k t410 bt425.2 1).bind fun t439 => (if t439 < 0 then (none) else (if t439 = bt425.1 then (some true) else (none))))) else (none))))) else (none))))) else (none)) = some r := H
 have A20 := Aside0.mk A200
 clear A200
 by_cases c21 : t424 = true
 rotate_left
 ·replace c21 := Bool.eq_false_iff.mpr c21
  subst c21
  have H1 : (none) = some r := by rw [if_neg (show ¬ (false = true) by decide)] at H; exact H
  clear H
  have H := H1
  clear H1
  exact absurd H (by simp)
 subst c21
 have H1 : ((laws_markPuzzle.f k t410 t411 1).bind fun bt425 => ((laws_heldPuzzle.f k t410 bt425.2 1).bind fun t427 => (if t427 < 0 then (none) else (if t427 = bt425.1 then ((laws_toPuzzle.f k a0_0 l0_1).bind fun bt428 => ((impl_DropClue.f bt428.1 bt428.2 a1).bind fun bt432 => ((laws_eqPuzzle.f k bt432.1 bt432.2.1 t399 t400).bind fun t438 => (if t438 = true then (if (bt432.2.2 != t403) = true then (none) else ((laws_heldPuzzle.f k t410 bt425.2 1).bind fun t439 => (if t439 < 0 then (none) else (if t439 = bt425.1 then (some true) else (none))))) else (none))))) else (none))))) = some r := by rw [if_pos rfl] at H; exact H
 clear H
 have H := H1
 clear H1
 replace H := Option.bind_eq_some_iff.mp H
 obtain ⟨⟨t425, t426⟩, A220, H⟩ := H
 replace H : ((laws_heldPuzzle.f k t410 t426 1).bind fun t427 => (if t427 < 0 then (none) else (if t427 = t425 then ((laws_toPuzzle.f k a0_0 l0_1).bind fun bt428 => ((impl_DropClue.f bt428.1 bt428.2 a1).bind fun bt432 => ((laws_eqPuzzle.f k bt432.1 bt432.2.1 t399 t400).bind fun t438 => (if t438 = true then (if (bt432.2.2 != t403) = true then (none) else ((laws_heldPuzzle.f k t410 t426 1).bind fun t439 => (if t439 < 0 then (none) else (if t439 = t425 then (some true) else (none))))) else (none))))) else (none)))) = some r := H
 have A22 := Aside0.mk A220
 clear A220
 replace H := Option.bind_eq_some_iff.mp H
 obtain ⟨t427, A230, H⟩ := H
 replace H : (if t427 < 0 then (none) else (if t427 = t425 then ((laws_toPuzzle.f k a0_0 l0_1).bind fun bt428 => ((impl_DropClue.f bt428.1 bt428.2 a1).bind fun bt432 => ((laws_eqPuzzle.f k bt432.1 bt432.2.1 t399 t400).bind fun t438 => (if t438 = true then (if (bt432.2.2 != t403) = true then (none) else ((laws_heldPuzzle.f k t410 t426 1).bind fun t439 => (if t439 < 0 then (none) else (if t439 = t425 then (some true) else (none))))) else (none))))) else (none))) = some r := H
 have A23 := Aside0.mk A230
 clear A230
 by_cases c24 : t427 < 0
 ·rw [if_pos c24] at H
  exact absurd H (by simp)
 rw [if_neg c24] at H
 have c24b0 : decide (t427 < 0) = false := decide_eq_false c24
 clear c24
 by_cases c25 : t427 = t425
 rotate_left
 ·rw [if_neg c25] at H
  exact absurd H (by simp)
 rw [if_pos c25] at H
 have c25b0 : (t427 == t425) = true := beq_iff_eq.mpr c25
 have c25b1 : (t427 != t425) = false := bne_eq_false_iff_eq.mpr c25
 clear c25
 replace H := Option.bind_eq_some_iff.mp H
 obtain ⟨⟨t428, t429⟩, A260, H⟩ := H
 replace H : ((impl_DropClue.f t428 t429 a1).bind fun bt432 => ((laws_eqPuzzle.f k bt432.1 bt432.2.1 t399 t400).bind fun t438 => (if t438 = true then (if (bt432.2.2 != t403) = true then (none) else ((laws_heldPuzzle.f k t410 t426 1).bind fun t439 => (if t439 < 0 then (none) else (if t439 = t425 then (some true) else (none))))) else (none)))) = some r := H
 have A26 := Aside0.mk A260
 clear A260
 replace H := Option.bind_eq_some_iff.mp H
 obtain ⟨⟨t432, t433, t436⟩, A270, H⟩ := H
 replace H : ((laws_eqPuzzle.f k t432 t433 t399 t400).bind fun t438 => (if t438 = true then (if (t436 != t403) = true then (none) else ((laws_heldPuzzle.f k t410 t426 1).bind fun t439 => (if t439 < 0 then (none) else (if t439 = t425 then (some true) else (none))))) else (none))) = some r := H
 have A27 := Aside0.mk A270
 clear A270
 replace H := Option.bind_eq_some_iff.mp H
 obtain ⟨t438, A280, H⟩ := H
 replace H : (if t438 = true then (if (t436 != t403) = true then (none) else ((laws_heldPuzzle.f k t410 t426 1).bind fun t439 => (if t439 < 0 then (none) else (if t439 = t425 then (some true) else (none))))) else (none)) = some r := H
 have A28 := Aside0.mk A280
 clear A280
 by_cases c29 : t438 = true
 rotate_left
 ·replace c29 := Bool.eq_false_iff.mpr c29
  subst c29
  have H1 : (none) = some r := by rw [if_neg (show ¬ (false = true) by decide)] at H; exact H
  clear H
  have H := H1
  clear H1
  exact absurd H (by simp)
 subst c29
 have H1 : (if (t436 != t403) = true then (none) else ((laws_heldPuzzle.f k t410 t426 1).bind fun t439 => (if t439 < 0 then (none) else (if t439 = t425 then (some true) else (none))))) = some r := by rw [if_pos rfl] at H; exact H
 clear H
 have H := H1
 clear H1
 by_cases c30 : (t436 != t403) = true
 ·rw [if_pos c30] at H
  exact absurd H (by simp)
 rw [if_neg c30] at H
 have c30b0 : (t436 != t403) = false := by simpa using c30
 (try (have c30b1 : decide (t436 = t403) = true := by simpa using c30))
 (try (have c30b2 : (t436 == t403) = true := by simpa using c30))
 clear c30
 replace H := Option.bind_eq_some_iff.mp H
 obtain ⟨t439, A310, H⟩ := H
 replace H : (if t439 < 0 then (none) else (if t439 = t425 then (some true) else (none))) = some r := H
 have A31 := Aside0.mk A310
 clear A310
 by_cases c32 : t439 < 0
 ·rw [if_pos c32] at H
  exact absurd H (by simp)
 rw [if_neg c32] at H
 have c32b0 : decide (t439 < 0) = false := decide_eq_false c32
 clear c32
 by_cases c33 : t439 = t425
 rotate_left
 ·rw [if_neg c33] at H
  exact absurd H (by simp)
 rw [if_pos c33] at H
 have c33b0 : (t439 == t425) = true := beq_iff_eq.mpr c33
 have c33b1 : (t439 != t425) = false := bne_eq_false_iff_eq.mpr c33
 clear c33
 obtain rfl := Option.some.inj H
 go_enter Try.func8, Try.ntmps8
 try go_wp2_with (first | ((with_reducible refine gate_dst (N := 2) rfl ?_); refine box_event ?hg (N := 2) ?hd (cs := #[.int .i64 a0_0, .slice A0_1 l0_1.length c0_1]) (t := 40) ?hr ?_; (case hd => rfl); (case hg => rfl); (case hr => first | (go_simp; done) | (go_simp; rfl)); intro gb393 hg w34 hbox hb; have n0_ := Aside0.mk (below_step (zh HB.out) hb); have n1_ := Aside0.mk (hbox); have n2_ := Aside0.mk ((by rw [hg]; exact (below_size (zh HB.out)) : w.heap.size ≤ gb393)); have n3_ := Aside0.mk ((by rw [hg]; exact (below_size (zh HB.out)) : w.heap.size ≤ gb393)); clear HB; have HB := n0_; have BK393 := n1_; have GW393 := n2_; have GE393 := n3_; clear n0_ n1_ n2_ n3_; clear hb hbox hg; have hcz35_0 : w34.cell? ⟨gb393, 0, none⟩ = some (.int .i64 a0_0) := (blk_cell BK393.out 0).trans rfl; have hcz35_1 : w34.cell? ⟨gb393, 1, none⟩ = some (.slice A0_1 l0_1.length c0_1) := (blk_cell BK393.out 1).trans rfl; have hfz35_0 := blk_frozen BK393.out 0; have hfz35_1 := blk_frozen BK393.out 1) | ((with_reducible refine gate_callee (f := 20) rfl ?_); refine goesL_ (some 18) rfl rfl Try.func20 (by kernel_rfl) rfl #[.agg #[.int .i64 a0_0, .slice A0_1 l0_1.length c0_1], .int .i64 1048576] rfl (by (try simp only [List.map_toArray, List.map_cons, List.map_nil]); first | done | rfl | (simp only [List.length_drop, List.length_take]; rfl)) ?_; (with_reducible refine (laws_szPuzzle.calls a0_0 _ _ l0_1 1048576 t394 _ ?side1 ?side2 A3.out).mono ?_); (case side1 => repeat (first | exact (Kd.C_below HR0_1.out HB.out) | (with_reducible refine Kd.C_alloc ?_ _) | (with_reducible refine Kd.C_drewN ?_ _) | (with_reducible refine Kd.C_drew ?_))); (case side2 => exact HC0_1.out); rintro e w36 ⟨rfl, hb⟩; refine ⟨_, rfl, ?_⟩; have n0_ := Aside0.mk (blk_below (g := gb393) (o := .cells #[.int .i64 a0_0, .slice A0_1 l0_1.length c0_1] 40 (0, 0)) (zb BK393.out) hb); have n1_ := Aside0.mk (below_step (zh HB.out) hb); clear BK393; clear HB; have BK393 := n0_; have HB := n1_; clear n0_ n1_; (try clear hb); (try clear hb2); (try clear hk); (try clear hi); have hcz37_0 : w36.cell? ⟨gb393, 0, none⟩ = some (.int .i64 a0_0) := (blk_cell BK393.out 0).trans rfl; have hcz37_1 : w36.cell? ⟨gb393, 1, none⟩ = some (.slice A0_1 l0_1.length c0_1) := (blk_cell BK393.out 1).trans rfl; have hfz37_0 := blk_frozen BK393.out 0; have hfz37_1 := blk_frozen BK393.out 1) | ((with_reducible refine gate_callee (f := 22) rfl ?_); refine goesL_ (some 23) rfl rfl Try.func22 (by kernel_rfl) rfl #[.agg #[.int .i64 a0_0, .slice A0_1 l0_1.length c0_1]] rfl (by (try simp only [List.map_toArray, List.map_cons, List.map_nil]); first | done | rfl | (simp only [List.length_drop, List.length_take]; rfl)) ?_; (with_reducible refine (laws_toPuzzle.calls k a0_0 _ _ l0_1 t395 t396 _ ?side1 ?side2 A8.out).mono ?_); (case side1 => repeat (first | exact (Kd.C_below HR0_1.out HB.out) | (with_reducible refine Kd.C_alloc ?_ _) | (with_reducible refine Kd.C_drewN ?_ _) | (with_reducible refine Kd.C_drew ?_))); (case side2 => exact HC0_1.out); rintro e w38 ⟨v397, rfl, ho0, hb⟩; refine ⟨_, rfl, ?_⟩; have n0_ := Aside0.mk (Kd.R_lower ho0 (below_size (zh HB.out))); have n1_ := Aside0.mk (blk_below (g := gb393) (o := .cells #[.int .i64 a0_0, .slice A0_1 l0_1.length c0_1] 40 (0, 0)) (zb BK393.out) hb); have n2_ := Aside0.mk (below_step (zh HB.out) hb); clear BK393; clear HB; have HO398 := n0_; have BK393 := n1_; have HB := n2_; clear n0_ n1_ n2_; (try clear hb); (try clear hb2); (try clear hk); (try clear hi); (try clear ho0); obtain ⟨Ao39, co39, eo39⟩ := Kd.R_slice HO398.out; subst eo39) | ((with_reducible refine gate_callee (f := 29) rfl ?_); refine goesL_ (some 25) rfl rfl Try.func29 (by kernel_rfl) rfl #[.agg #[.int .i64 t395, .slice Ao39 t396.length co39], .int .i64 a1] rfl (by (try simp only [List.map_toArray, List.map_cons, List.map_nil]); first | done | rfl | (simp only [List.length_drop, List.length_take]; rfl)) ?_; (with_reducible refine (spec_DropClue.calls k t395 _ _ t396 a1 t399 t400 t403 _ ?side1 ?side2 A9.out).mono ?_); (case side1 => repeat (first | exact (Kd.R_reads' HO398.out).2.2 | (with_reducible refine Kd.C_alloc ?_ _) | (with_reducible refine Kd.C_drewN ?_ _) | (with_reducible refine Kd.C_drew ?_))); (case side2 => exact (Kd.R_reads' HO398.out).2.1); rintro e w40 ⟨v401, rfl, ho0, hb⟩; refine ⟨_, rfl, ?_⟩; have n0_ := Aside0.mk (Kd.R_elder' (zr HO398.out) (Kd.R_base ho0) hb); have n1_ := Aside0.mk (Kd.R_lower (Kd.R_new' ho0 (Kd.R_lt (zr HO398.out))) (below_size (zh HB.out))); have n2_ := Aside0.mk (blk_below (g := gb393) (o := .cells #[.int .i64 a0_0, .slice A0_1 l0_1.length c0_1] 40 (0, 0)) (zb BK393.out) hb); have n3_ := Aside0.mk (below_step (zh HB.out) hb); clear HO398; clear BK393; clear HB; have HO398 := n0_; have HO402 := n1_; have BK393 := n2_; have HB := n3_; clear n0_ n1_ n2_ n3_; (try clear hb); (try clear hb2); (try clear hk); (try clear hi); (try clear ho0)) | ((with_reducible refine gate_dst (N := 6) rfl ?_); refine box_event ?hg (N := 6) ?hd (cs := #[.int .i64 0, .slice none 0 0]) (t := 45) ?hr ?_; (case hd => rfl); (case hg => rfl); (case hr => first | (go_simp; done) | (go_simp; rfl)); intro gb404 hg w41 hbox hb; have n0_ := Aside0.mk (Kd.R_below (zr HO398.out) hb); have n1_ := Aside0.mk (Kd.R_below (zr HO402.out) hb); have n2_ := Aside0.mk (blk_below (g := gb393) (o := .cells #[.int .i64 a0_0, .slice A0_1 l0_1.length c0_1] 40 (0, 0)) (zb BK393.out) hb); have n3_ := Aside0.mk (below_step (zh HB.out) hb); have n4_ := Aside0.mk (hbox); have n5_ := Aside0.mk ((by rw [hg]; exact (below_size (zh HB.out)) : w.heap.size ≤ gb404)); have n6_ := Aside0.mk ((by rw [hg]; exact (below_size (zh HB.out)) : w.heap.size ≤ gb404)); have n7_ := Aside0.mk ((by rw [hg]; exact Nat.ne_of_lt (blk_lt (g := gb393) (o := .cells #[.int .i64 a0_0, .slice A0_1 l0_1.length c0_1] 40 (0, 0)) (zb BK393.out)) : gb393 ≠ gb404)); have n8_ := Aside0.mk ((by rw [hg]; exact Nat.ne_of_gt (blk_lt (g := gb393) (o := .cells #[.int .i64 a0_0, .slice A0_1 l0_1.length c0_1] 40 (0, 0)) (zb BK393.out)) : gb404 ≠ gb393)); clear HO398; clear HO402; clear BK393; clear HB; have HO398 := n0_; have HO402 := n1_; have BK393 := n2_; have HB := n3_; have BK404 := n4_; have GW404 := n5_; have GE404 := n6_; have NB393_404 := n7_; have NB404_393 := n8_; clear n0_ n1_ n2_ n3_ n4_ n5_ n6_ n7_ n8_; clear hb hbox hg; have hnb42 := NB404_393.out; have hnc42 := NB393_404.out; have hcz43_0 : w41.cell? ⟨gb404, 0, none⟩ = some (.int .i64 0) := (blk_cell BK404.out 0).trans rfl; have hcz43_1 : w41.cell? ⟨gb404, 1, none⟩ = some (.slice none 0 0) := (blk_cell BK404.out 1).trans rfl; have hfz43_0 := blk_frozen BK404.out 0; have hfz43_1 := blk_frozen BK404.out 1; obtain ⟨Ao44, co44, eo44⟩ := Kd.R_slice HO402.out; subst eo44; have hcz45_0 : w41.cell? ⟨gb393, 0, none⟩ = some (.int .i64 a0_0) := (blk_cell BK393.out 0).trans rfl; have hcz45_1 : w41.cell? ⟨gb393, 1, none⟩ = some (.slice A0_1 l0_1.length c0_1) := (blk_cell BK393.out 1).trans rfl; have hfz45_0 := blk_frozen BK393.out 0; have hfz45_1 := blk_frozen BK393.out 1) | ((with_reducible refine gate_callee (f := 22) rfl ?_); refine goesL_ (some 29) rfl rfl Try.func22 (by kernel_rfl) rfl #[.agg #[.int .i64 a0_0, .slice A0_1 l0_1.length c0_1]] rfl (by (try simp only [List.map_toArray, List.map_cons, List.map_nil]); first | done | rfl | (simp only [List.length_drop, List.length_take]; rfl)) ?_; (with_reducible refine (laws_toPuzzle.calls k a0_0 _ _ l0_1 t405 t406 _ ?side1 ?side2 A10.out).mono ?_); (case side1 => exact Kd.C_below HR0_1.out (zh HB.out)); (case side2 => exact HC0_1.out); rintro e w46 ⟨v407, rfl, ho0, hb⟩; refine ⟨_, rfl, ?_⟩; have n0_ := Aside0.mk (Kd.R_elder' (by (with_reducible repeat (first | apply Kd.R_alloc | apply Kd.R_drewN | apply Kd.R_drew)); exact (Kd.R_mono (Kd.R_far (p := ⟨gb404, 1, none⟩) (Kd.R_far (p := ⟨gb404, 0, none⟩) (Kd.R_types HO398.out BK404.out (by decide)) (fun _ hk => hk.2) (.int .i64 t399)) (fun _ hk => hk.2) (.slice Ao44 t400.length co44)) (fun _ h_ => h_.1))) (Kd.R_base ho0) hb); have n1_ := Aside0.mk (Kd.R_elder' (by (with_reducible repeat (first | apply Kd.R_alloc | apply Kd.R_drewN | apply Kd.R_drew)); exact (Kd.R_mono (Kd.R_far (p := ⟨gb404, 1, none⟩) (Kd.R_far (p := ⟨gb404, 0, none⟩) (Kd.R_types HO402.out BK404.out (by decide)) (fun _ hk => hk.2) (.int .i64 t399)) (fun _ hk => hk.2) (.slice Ao44 t400.length co44)) (fun _ h_ => h_.1))) (Kd.R_base ho0) hb); have n2_ := Aside0.mk (Kd.R_lower (Kd.R_new' (Kd.R_new' ho0 (Kd.R_lt (by (with_reducible repeat (first | apply Kd.R_alloc | apply Kd.R_drewN | apply Kd.R_drew)); exact (Kd.R_mono (Kd.R_far (p := ⟨gb404, 1, none⟩) (Kd.R_far (p := ⟨gb404, 0, none⟩) (Kd.R_types HO398.out BK404.out (by decide)) (fun _ hk => hk.2) (.int .i64 t399)) (fun _ hk => hk.2) (.slice Ao44 t400.length co44)) (fun _ h_ => h_.1))))) (Kd.R_lt (by (with_reducible repeat (first | apply Kd.R_alloc | apply Kd.R_drewN | apply Kd.R_drew)); exact (Kd.R_mono (Kd.R_far (p := ⟨gb404, 1, none⟩) (Kd.R_far (p := ⟨gb404, 0, none⟩) (Kd.R_types HO402.out BK404.out (by decide)) (fun _ hk => hk.2) (.int .i64 t399)) (fun _ hk => hk.2) (.slice Ao44 t400.length co44)) (fun _ h_ => h_.1))))) (below_size (zh HB.out))); have n3_ := Aside0.mk (blk_below (g := gb393) (o := .cells #[.int .i64 a0_0, .slice A0_1 l0_1.length c0_1] 40 (0, 0)) (by (with_reducible repeat (first | refine blk_drewN ?_ _ | refine blk_drew ?_ | refine blk_alloc ?_ _)); refine blk_far ?_ NB393_404.out _; (with_reducible repeat (first | refine blk_drewN ?_ _ | refine blk_drew ?_ | refine blk_alloc ?_ _)); refine blk_far ?_ NB393_404.out _; (with_reducible repeat (first | refine blk_drewN ?_ _ | refine blk_drew ?_ | refine blk_alloc ?_ _)); exact BK393.out) hb); have n4_ := Aside0.mk (blk_below (g := gb404) (o := .cells #[.int .i64 t399, .slice Ao44 t400.length co44] 45 (0, 0)) (by (with_reducible repeat (first | refine blk_drewN ?_ _ | refine blk_drew ?_ | refine blk_alloc ?_ _)); refine blk_put (cs := #[.int .i64 t399, .slice none 0 0]) ?_ 1 _ rfl; (with_reducible repeat (first | refine blk_drewN ?_ _ | refine blk_drew ?_ | refine blk_alloc ?_ _)); refine blk_put (cs := #[.int .i64 0, .slice none 0 0]) ?_ 0 _ rfl; (with_reducible repeat (first | refine blk_drewN ?_ _ | refine blk_drew ?_ | refine blk_alloc ?_ _)); exact BK404.out) hb); have n5_ := Aside0.mk (below_step (zh HB.out) hb); clear HO398; clear HO402; clear BK393; clear BK404; clear HB; have HO398 := n0_; have HO402 := n1_; have HO408 := n2_; have BK393 := n3_; have BK404 := n4_; have HB := n5_; clear n0_ n1_ n2_ n3_ n4_ n5_; (try clear hb); (try clear hb2); (try clear hk); (try clear hi); (try clear ho0)) | ((with_reducible refine gate_dst (N := 8) rfl ?_); refine box_event ?hg (N := 8) ?hd (cs := #[.int .i64 0, .slice none 0 0]) (t := 45) ?hr ?_; (case hd => rfl); (case hg => rfl); (case hr => first | (go_simp; done) | (go_simp; rfl)); intro gb409 hg w47 hbox hb; have n0_ := Aside0.mk (Kd.R_below (zr HO398.out) hb); have n1_ := Aside0.mk (Kd.R_below (zr HO402.out) hb); have n2_ := Aside0.mk (Kd.R_below (zr HO408.out) hb); have n3_ := Aside0.mk (blk_below (g := gb393) (o := .cells #[.int .i64 a0_0, .slice A0_1 l0_1.length c0_1] 40 (0, 0)) (zb BK393.out) hb); have n4_ := Aside0.mk (blk_below (g := gb404) (o := .cells #[.int .i64 t399, .slice Ao44 t400.length co44] 45 (0, 0)) (zb BK404.out) hb); have n5_ := Aside0.mk (below_step (zh HB.out) hb); have n6_ := Aside0.mk (hbox); have n7_ := Aside0.mk ((by rw [hg]; exact (below_size (zh HB.out)) : w.heap.size ≤ gb409)); have n8_ := Aside0.mk ((by rw [hg]; exact (below_size (zh HB.out)) : w.heap.size ≤ gb409)); have n9_ := Aside0.mk ((by rw [hg]; exact Nat.ne_of_lt (blk_lt (g := gb393) (o := .cells #[.int .i64 a0_0, .slice A0_1 l0_1.length c0_1] 40 (0, 0)) (zb BK393.out)) : gb393 ≠ gb409)); have n10_ := Aside0.mk ((by rw [hg]; exact Nat.ne_of_gt (blk_lt (g := gb393) (o := .cells #[.int .i64 a0_0, .slice A0_1 l0_1.length c0_1] 40 (0, 0)) (zb BK393.out)) : gb409 ≠ gb393)); have n11_ := Aside0.mk ((by rw [hg]; exact Nat.ne_of_lt (blk_lt (g := gb404) (o := .cells #[.int .i64 t399, .slice Ao44 t400.length co44] 45 (0, 0)) (zb BK404.out)) : gb404 ≠ gb409)); have n12_ := Aside0.mk ((by rw [hg]; exact Nat.ne_of_gt (blk_lt (g := gb404) (o := .cells #[.int .i64 t399, .slice Ao44 t400.length co44] 45 (0, 0)) (zb BK404.out)) : gb409 ≠ gb404)); clear HO398; clear HO402; clear HO408; clear BK393; clear BK404; clear HB; have HO398 := n0_; have HO402 := n1_; have HO408 := n2_; have BK393 := n3_; have BK404 := n4_; have HB := n5_; have BK409 := n6_; have GW409 := n7_; have GE409 := n8_; have NB393_409 := n9_; have NB409_393 := n10_; have NB404_409 := n11_; have NB409_404 := n12_; clear n0_ n1_ n2_ n3_ n4_ n5_ n6_ n7_ n8_ n9_ n10_ n11_ n12_; clear hb hbox hg; have hnb48 := NB409_393.out; have hnc48 := NB393_409.out; have hnb49 := NB409_404.out; have hnc49 := NB404_409.out; have hcz50_0 : w47.cell? ⟨gb409, 0, none⟩ = some (.int .i64 0) := (blk_cell BK409.out 0).trans rfl; have hcz50_1 : w47.cell? ⟨gb409, 1, none⟩ = some (.slice none 0 0) := (blk_cell BK409.out 1).trans rfl; have hfz50_0 := blk_frozen BK409.out 0; have hfz50_1 := blk_frozen BK409.out 1; obtain ⟨Ao51, co51, eo51⟩ := Kd.R_slice HO408.out; subst eo51) | ((with_reducible refine gate_callee (f := 30) rfl ?_); refine goesL_ (some 33) rfl rfl Try.func30 (by kernel_rfl) rfl #[.agg #[.int .i64 t405, .slice Ao51 t406.length co51], .int .i64 a1] rfl (by (try simp only [List.map_toArray, List.map_cons, List.map_nil]); first | done | rfl | (simp only [List.length_drop, List.length_take]; rfl)) ?_; (with_reducible refine (impl_DropClue.calls t405 _ _ t406 a1 t410 t411 t414 _ ?side1 ?side2 A11.out).mono ?_); (case side1 => refine (Kd.R_reads' (e := 25) (base := w.heap.size) (ok := fun k_ => ((True ∧ some k_ ≠ (.slice Ao39 t396.length co39 : Value).ownBlock) ∧ some k_ ≠ (.slice Ao44 t400.length co44 : Value).ownBlock)) (n := t406.length) (c := co51) ?_).2.2; exact (by (with_reducible repeat (first | apply Kd.R_alloc | apply Kd.R_drewN | apply Kd.R_drew)); exact (Kd.R_mono (Kd.R_far (p := ⟨gb409, 1, none⟩) (Kd.R_far (p := ⟨gb409, 0, none⟩) (Kd.R_types HO408.out BK409.out (by decide)) (fun _ hk => hk.2) (.int .i64 t405)) (fun _ hk => hk.2) (.slice Ao51 t406.length co51)) (fun _ h_ => h_.1)))); (case side2 => exact (Kd.R_reads' HO408.out).2.1); rintro e w52 ⟨v412, rfl, ho0, hb⟩; refine ⟨_, rfl, ?_⟩; have n0_ := Aside0.mk (Kd.R_elder' (by (with_reducible repeat (first | apply Kd.R_alloc | apply Kd.R_drewN | apply Kd.R_drew)); exact (Kd.R_mono (Kd.R_far (p := ⟨gb409, 1, none⟩) (Kd.R_far (p := ⟨gb409, 0, none⟩) (Kd.R_types HO398.out BK409.out (by decide)) (fun _ hk => hk.2) (.int .i64 t405)) (fun _ hk => hk.2) (.slice Ao51 t406.length co51)) (fun _ h_ => h_.1))) (Kd.R_base ho0) hb); have n1_ := Aside0.mk (Kd.R_elder' (by (with_reducible repeat (first | apply Kd.R_alloc | apply Kd.R_drewN | apply Kd.R_drew)); exact (Kd.R_mono (Kd.R_far (p := ⟨gb409, 1, none⟩) (Kd.R_far (p := ⟨gb409, 0, none⟩) (Kd.R_types HO402.out BK409.out (by decide)) (fun _ hk => hk.2) (.int .i64 t405)) (fun _ hk => hk.2) (.slice Ao51 t406.length co51)) (fun _ h_ => h_.1))) (Kd.R_base ho0) hb); have n2_ := Aside0.mk (Kd.R_elder' (by (with_reducible repeat (first | apply Kd.R_alloc | apply Kd.R_drewN | apply Kd.R_drew)); exact (Kd.R_mono (Kd.R_far (p := ⟨gb409, 1, none⟩) (Kd.R_far (p := ⟨gb409, 0, none⟩) (Kd.R_types HO408.out BK409.out (by decide)) (fun _ hk => hk.2) (.int .i64 t405)) (fun _ hk => hk.2) (.slice Ao51 t406.length co51)) (fun _ h_ => h_.1))) (Kd.R_base ho0) hb); have n3_ := Aside0.mk (Kd.R_lower (Kd.R_new' (Kd.R_new' (Kd.R_new' ho0 (Kd.R_lt (by (with_reducible repeat (first | apply Kd.R_alloc | apply Kd.R_drewN | apply Kd.R_drew)); exact (Kd.R_mono (Kd.R_far (p := ⟨gb409, 1, none⟩) (Kd.R_far (p := ⟨gb409, 0, none⟩) (Kd.R_types HO398.out BK409.out (by decide)) (fun _ hk => hk.2) (.int .i64 t405)) (fun _ hk => hk.2) (.slice Ao51 t406.length co51)) (fun _ h_ => h_.1))))) (Kd.R_lt (by (with_reducible repeat (first | apply Kd.R_alloc | apply Kd.R_drewN | apply Kd.R_drew)); exact (Kd.R_mono (Kd.R_far (p := ⟨gb409, 1, none⟩) (Kd.R_far (p := ⟨gb409, 0, none⟩) (Kd.R_types HO402.out BK409.out (by decide)) (fun _ hk => hk.2) (.int .i64 t405)) (fun _ hk => hk.2) (.slice Ao51 t406.length co51)) (fun _ h_ => h_.1))))) (Kd.R_lt (by (with_reducible repeat (first | apply Kd.R_alloc | apply Kd.R_drewN | apply Kd.R_drew)); exact (Kd.R_mono (Kd.R_far (p := ⟨gb409, 1, none⟩) (Kd.R_far (p := ⟨gb409, 0, none⟩) (Kd.R_types HO408.out BK409.out (by decide)) (fun _ hk => hk.2) (.int .i64 t405)) (fun _ hk => hk.2) (.slice Ao51 t406.length co51)) (fun _ h_ => h_.1))))) (below_size (zh HB.out))); have n4_ := Aside0.mk (blk_below (g := gb393) (o := .cells #[.int .i64 a0_0, .slice A0_1 l0_1.length c0_1] 40 (0, 0)) (by (with_reducible repeat (first | refine blk_drewN ?_ _ | refine blk_drew ?_ | refine blk_alloc ?_ _)); refine blk_far ?_ NB393_409.out _; (with_reducible repeat (first | refine blk_drewN ?_ _ | refine blk_drew ?_ | refine blk_alloc ?_ _)); refine blk_far ?_ NB393_409.out _; (with_reducible repeat (first | refine blk_drewN ?_ _ | refine blk_drew ?_ | refine blk_alloc ?_ _)); exact BK393.out) hb); have n5_ := Aside0.mk (blk_below (g := gb404) (o := .cells #[.int .i64 t399, .slice Ao44 t400.length co44] 45 (0, 0)) (by (with_reducible repeat (first | refine blk_drewN ?_ _ | refine blk_drew ?_ | refine blk_alloc ?_ _)); refine blk_far ?_ NB404_409.out _; (with_reducible repeat (first | refine blk_drewN ?_ _ | refine blk_drew ?_ | refine blk_alloc ?_ _)); refine blk_far ?_ NB404_409.out _; (with_reducible repeat (first | refine blk_drewN ?_ _ | refine blk_drew ?_ | refine blk_alloc ?_ _)); exact BK404.out) hb); have n6_ := Aside0.mk (blk_below (g := gb409) (o := .cells #[.int .i64 t405, .slice Ao51 t406.length co51] 45 (0, 0)) (by (with_reducible repeat (first | refine blk_drewN ?_ _ | refine blk_drew ?_ | refine blk_alloc ?_ _)); refine blk_put (cs := #[.int .i64 t405, .slice none 0 0]) ?_ 1 _ rfl; (with_reducible repeat (first | refine blk_drewN ?_ _ | refine blk_drew ?_ | refine blk_alloc ?_ _)); refine blk_put (cs := #[.int .i64 0, .slice none 0 0]) ?_ 0 _ rfl; (with_reducible repeat (first | refine blk_drewN ?_ _ | refine blk_drew ?_ | refine blk_alloc ?_ _)); exact BK409.out) hb); have n7_ := Aside0.mk (below_step (zh HB.out) hb); clear HO398; clear HO402; clear HO408; clear BK393; clear BK404; clear BK409; clear HB; have HO398 := n0_; have HO402 := n1_; have HO408 := n2_; have HO413 := n3_; have BK393 := n4_; have BK404 := n5_; have BK409 := n6_; have HB := n7_; clear n0_ n1_ n2_ n3_ n4_ n5_ n6_ n7_; (try clear hb); (try clear hb2); (try clear hk); (try clear hi); (try clear ho0)) | ((with_reducible refine gate_dst (N := 9) rfl ?_); refine box_event ?hg (N := 9) ?hd (cs := #[.int .i64 0, .slice none 0 0]) (t := 45) ?hr ?_; (case hd => rfl); (case hg => rfl); (case hr => first | (go_simp; done) | (go_simp; rfl)); intro gb415 hg w53 hbox hb; have n0_ := Aside0.mk (Kd.R_below (zr HO398.out) hb); have n1_ := Aside0.mk (Kd.R_below (zr HO402.out) hb); have n2_ := Aside0.mk (Kd.R_below (zr HO408.out) hb); have n3_ := Aside0.mk (Kd.R_below (zr HO413.out) hb); have n4_ := Aside0.mk (blk_below (g := gb393) (o := .cells #[.int .i64 a0_0, .slice A0_1 l0_1.length c0_1] 40 (0, 0)) (zb BK393.out) hb); have n5_ := Aside0.mk (blk_below (g := gb404) (o := .cells #[.int .i64 t399, .slice Ao44 t400.length co44] 45 (0, 0)) (zb BK404.out) hb); have n6_ := Aside0.mk (blk_below (g := gb409) (o := .cells #[.int .i64 t405, .slice Ao51 t406.length co51] 45 (0, 0)) (zb BK409.out) hb); have n7_ := Aside0.mk (below_step (zh HB.out) hb); have n8_ := Aside0.mk (hbox); have n9_ := Aside0.mk ((by rw [hg]; exact (below_size (zh HB.out)) : w.heap.size ≤ gb415)); have n10_ := Aside0.mk ((by rw [hg]; exact (below_size (zh HB.out)) : w.heap.size ≤ gb415)); have n11_ := Aside0.mk ((by rw [hg]; exact Nat.ne_of_lt (blk_lt (g := gb393) (o := .cells #[.int .i64 a0_0, .slice A0_1 l0_1.length c0_1] 40 (0, 0)) (zb BK393.out)) : gb393 ≠ gb415)); have n12_ := Aside0.mk ((by rw [hg]; exact Nat.ne_of_gt (blk_lt (g := gb393) (o := .cells #[.int .i64 a0_0, .slice A0_1 l0_1.length c0_1] 40 (0, 0)) (zb BK393.out)) : gb415 ≠ gb393)); have n13_ := Aside0.mk ((by rw [hg]; exact Nat.ne_of_lt (blk_lt (g := gb404) (o := .cells #[.int .i64 t399, .slice Ao44 t400.length co44] 45 (0, 0)) (zb BK404.out)) : gb404 ≠ gb415)); have n14_ := Aside0.mk ((by rw [hg]; exact Nat.ne_of_gt (blk_lt (g := gb404) (o := .cells #[.int .i64 t399, .slice Ao44 t400.length co44] 45 (0, 0)) (zb BK404.out)) : gb415 ≠ gb404)); have n15_ := Aside0.mk ((by rw [hg]; exact Nat.ne_of_lt (blk_lt (g := gb409) (o := .cells #[.int .i64 t405, .slice Ao51 t406.length co51] 45 (0, 0)) (zb BK409.out)) : gb409 ≠ gb415)); have n16_ := Aside0.mk ((by rw [hg]; exact Nat.ne_of_gt (blk_lt (g := gb409) (o := .cells #[.int .i64 t405, .slice Ao51 t406.length co51] 45 (0, 0)) (zb BK409.out)) : gb415 ≠ gb409)); clear HO398; clear HO402; clear HO408; clear HO413; clear BK393; clear BK404; clear BK409; clear HB; have HO398 := n0_; have HO402 := n1_; have HO408 := n2_; have HO413 := n3_; have BK393 := n4_; have BK404 := n5_; have BK409 := n6_; have HB := n7_; have BK415 := n8_; have GW415 := n9_; have GE415 := n10_; have NB393_415 := n11_; have NB415_393 := n12_; have NB404_415 := n13_; have NB415_404 := n14_; have NB409_415 := n15_; have NB415_409 := n16_; clear n0_ n1_ n2_ n3_ n4_ n5_ n6_ n7_ n8_ n9_ n10_ n11_ n12_ n13_ n14_ n15_ n16_; clear hb hbox hg; have hnb54 := NB415_393.out; have hnc54 := NB393_415.out; have hnb55 := NB415_404.out; have hnc55 := NB404_415.out; have hnb56 := NB415_409.out; have hnc56 := NB409_415.out; have hcz57_0 : w53.cell? ⟨gb415, 0, none⟩ = some (.int .i64 0) := (blk_cell BK415.out 0).trans rfl; have hcz57_1 : w53.cell? ⟨gb415, 1, none⟩ = some (.slice none 0 0) := (blk_cell BK415.out 1).trans rfl; have hfz57_0 := blk_frozen BK415.out 0; have hfz57_1 := blk_frozen BK415.out 1; obtain ⟨Ao58, co58, eo58⟩ := Kd.R_slice HO413.out; subst eo58; have hcz59_0 : w53.cell? ⟨gb404, 0, none⟩ = some (.int .i64 t399) := (blk_cell BK404.out 0).trans rfl; have hcz59_1 : w53.cell? ⟨gb404, 1, none⟩ = some (.slice Ao44 t400.length co44) := (blk_cell BK404.out 1).trans rfl; have hfz59_0 := blk_frozen BK404.out 0; have hfz59_1 := blk_frozen BK404.out 1) | ((with_reducible refine gate_callee (f := 24) rfl ?_); refine goesL_ (some 38) rfl rfl Try.func24 (by kernel_rfl) rfl #[.agg #[.int .i64 t410, .slice Ao58 t411.length co58], .agg #[.int .i64 t399, .slice Ao44 t400.length co44]] rfl (by (try simp only [List.map_toArray, List.map_cons, List.map_nil]); first | done | rfl | (simp only [List.length_drop, List.length_take]; rfl)) ?_; (with_reducible refine (laws_eqPuzzle.calls k t410 _ _ t411 t399 _ _ t400 true _ ?side1 ?side2 ?side3 ?side4 A12.out).mono ?_); (case side1 => refine (Kd.R_reads' (e := 25) (base := w.heap.size) (ok := fun k_ => (((True ∧ some k_ ≠ (.slice Ao39 t396.length co39 : Value).ownBlock) ∧ some k_ ≠ (.slice Ao44 t400.length co44 : Value).ownBlock) ∧ some k_ ≠ (.slice Ao51 t406.length co51 : Value).ownBlock)) (n := t411.length) (c := co58) ?_).2.2; exact (by (with_reducible repeat (first | apply Kd.R_alloc | apply Kd.R_drewN | apply Kd.R_drew)); exact (Kd.R_mono (Kd.R_far (p := ⟨gb415, 1, none⟩) (Kd.R_far (p := ⟨gb415, 0, none⟩) (Kd.R_types HO413.out BK415.out (by decide)) (fun _ hk => hk.2) (.int .i64 t410)) (fun _ hk => hk.2) (.slice Ao58 t411.length co58)) (fun _ h_ => h_.1)))); (case side2 => exact (Kd.R_reads' HO413.out).2.1); (case side3 => refine (Kd.R_reads' (e := 25) (base := w.heap.size) (ok := fun k_ => (((True ∧ some k_ ≠ (.slice Ao39 t396.length co39 : Value).ownBlock) ∧ some k_ ≠ (.slice Ao51 t406.length co51 : Value).ownBlock) ∧ some k_ ≠ (.slice Ao58 t411.length co58 : Value).ownBlock)) (n := t400.length) (c := co44) ?_).2.2; exact (by (with_reducible repeat (first | apply Kd.R_alloc | apply Kd.R_drewN | apply Kd.R_drew)); exact (Kd.R_mono (Kd.R_far (p := ⟨gb415, 1, none⟩) (Kd.R_far (p := ⟨gb415, 0, none⟩) (Kd.R_types HO402.out BK415.out (by decide)) (fun _ hk => hk.2) (.int .i64 t410)) (fun _ hk => hk.2) (.slice Ao58 t411.length co58)) (fun _ h_ => h_.1)))); (case side4 => exact (Kd.R_reads' HO402.out).2.1); rintro e w60 ⟨rfl, hb⟩; refine ⟨_, rfl, ?_⟩; have n0_ := Aside0.mk (Kd.R_below (by (with_reducible repeat (first | apply Kd.R_alloc | apply Kd.R_drewN | apply Kd.R_drew)); exact (Kd.R_mono (Kd.R_far (p := ⟨gb415, 1, none⟩) (Kd.R_far (p := ⟨gb415, 0, none⟩) (Kd.R_types HO398.out BK415.out (by decide)) (fun _ hk => hk.2) (.int .i64 t410)) (fun _ hk => hk.2) (.slice Ao58 t411.length co58)) (fun _ h_ => h_.1))) hb); have n1_ := Aside0.mk (Kd.R_below (by (with_reducible repeat (first | apply Kd.R_alloc | apply Kd.R_drewN | apply Kd.R_drew)); exact (Kd.R_mono (Kd.R_far (p := ⟨gb415, 1, none⟩) (Kd.R_far (p := ⟨gb415, 0, none⟩) (Kd.R_types HO402.out BK415.out (by decide)) (fun _ hk => hk.2) (.int .i64 t410)) (fun _ hk => hk.2) (.slice Ao58 t411.length co58)) (fun _ h_ => h_.1))) hb); have n2_ := Aside0.mk (Kd.R_below (by (with_reducible repeat (first | apply Kd.R_alloc | apply Kd.R_drewN | apply Kd.R_drew)); exact (Kd.R_mono (Kd.R_far (p := ⟨gb415, 1, none⟩) (Kd.R_far (p := ⟨gb415, 0, none⟩) (Kd.R_types HO408.out BK415.out (by decide)) (fun _ hk => hk.2) (.int .i64 t410)) (fun _ hk => hk.2) (.slice Ao58 t411.length co58)) (fun _ h_ => h_.1))) hb); have n3_ := Aside0.mk (Kd.R_below (by (with_reducible repeat (first | apply Kd.R_alloc | apply Kd.R_drewN | apply Kd.R_drew)); exact (Kd.R_mono (Kd.R_far (p := ⟨gb415, 1, none⟩) (Kd.R_far (p := ⟨gb415, 0, none⟩) (Kd.R_types HO413.out BK415.out (by decide)) (fun _ hk => hk.2) (.int .i64 t410)) (fun _ hk => hk.2) (.slice Ao58 t411.length co58)) (fun _ h_ => h_.1))) hb); have n4_ := Aside0.mk (blk_below (g := gb393) (o := .cells #[.int .i64 a0_0, .slice A0_1 l0_1.length c0_1] 40 (0, 0)) (by (with_reducible repeat (first | refine blk_drewN ?_ _ | refine blk_drew ?_ | refine blk_alloc ?_ _)); refine blk_far ?_ NB393_415.out _; (with_reducible repeat (first | refine blk_drewN ?_ _ | refine blk_drew ?_ | refine blk_alloc ?_ _)); refine blk_far ?_ NB393_415.out _; (with_reducible repeat (first | refine blk_drewN ?_ _ | refine blk_drew ?_ | refine blk_alloc ?_ _)); exact BK393.out) hb); have n5_ := Aside0.mk (blk_below (g := gb404) (o := .cells #[.int .i64 t399, .slice Ao44 t400.length co44] 45 (0, 0)) (by (with_reducible repeat (first | refine blk_drewN ?_ _ | refine blk_drew ?_ | refine blk_alloc ?_ _)); refine blk_far ?_ NB404_415.out _; (with_reducible repeat (first | refine blk_drewN ?_ _ | refine blk_drew ?_ | refine blk_alloc ?_ _)); refine blk_far ?_ NB404_415.out _; (with_reducible repeat (first | refine blk_drewN ?_ _ | refine blk_drew ?_ | refine blk_alloc ?_ _)); exact BK404.out) hb); have n6_ := Aside0.mk (blk_below (g := gb409) (o := .cells #[.int .i64 t405, .slice Ao51 t406.length co51] 45 (0, 0)) (by (with_reducible repeat (first | refine blk_drewN ?_ _ | refine blk_drew ?_ | refine blk_alloc ?_ _)); refine blk_far ?_ NB409_415.out _; (with_reducible repeat (first | refine blk_drewN ?_ _ | refine blk_drew ?_ | refine blk_alloc ?_ _)); refine blk_far ?_ NB409_415.out _; (with_reducible repeat (first | refine blk_drewN ?_ _ | refine blk_drew ?_ | refine blk_alloc ?_ _)); exact BK409.out) hb); have n7_ := Aside0.mk (blk_below (g := gb415) (o := .cells #[.int .i64 t410, .slice Ao58 t411.length co58] 45 (0, 0)) (by (with_reducible repeat (first | refine blk_drewN ?_ _ | refine blk_drew ?_ | refine blk_alloc ?_ _)); refine blk_put (cs := #[.int .i64 t410, .slice none 0 0]) ?_ 1 _ rfl; (with_reducible repeat (first | refine blk_drewN ?_ _ | refine blk_drew ?_ | refine blk_alloc ?_ _)); refine blk_put (cs := #[.int .i64 0, .slice none 0 0]) ?_ 0 _ rfl; (with_reducible repeat (first | refine blk_drewN ?_ _ | refine blk_drew ?_ | refine blk_alloc ?_ _)); exact BK415.out) hb); have n8_ := Aside0.mk (below_step (zh HB.out) hb); clear HO398; clear HO402; clear HO408; clear HO413; clear BK393; clear BK404; clear BK409; clear BK415; clear HB; have HO398 := n0_; have HO402 := n1_; have HO408 := n2_; have HO413 := n3_; have BK393 := n4_; have BK404 := n5_; have BK409 := n6_; have BK415 := n7_; have HB := n8_; clear n0_ n1_ n2_ n3_ n4_ n5_ n6_ n7_ n8_; (try clear hb); (try clear hb2); (try clear hk); (try clear hi)))
 have n0_ := Aside0.mk (Kd.R_drew HO398.out)
 have n1_ := Aside0.mk (Kd.R_drew HO402.out)
 have n2_ := Aside0.mk (Kd.R_drew HO408.out)
 have n3_ := Aside0.mk (Kd.R_drew HO413.out)
 have n4_ := Aside0.mk (blk_drew BK393.out)
 have n5_ := Aside0.mk (blk_drew BK404.out)
 have n6_ := Aside0.mk (blk_drew BK409.out)
 have n7_ := Aside0.mk (blk_drew BK415.out)
 have n8_ := Aside0.mk (below_drew1 HB.out)
 clear HO398
 clear HO402
 clear HO408
 clear HO413
 clear BK393
 clear BK404
 clear BK409
 clear BK415
 clear HB
 have HO398 := n0_
 have HO402 := n1_
 have HO408 := n2_
 have HO413 := n3_
 have BK393 := n4_
 have BK404 := n5_
 have BK409 := n6_
 have BK415 := n7_
 have HB := n8_
 clear n0_ n1_ n2_ n3_ n4_ n5_ n6_ n7_ n8_
 refine start_ (n := 5) (S := fun w' => w'.cell? ⟨gb409, 0, none⟩ = some (.int .i64 t405) ∧ w'.cell? ⟨gb409, 1, none⟩ = some (.slice Ao51 t406.length co51) ∧ w'.cell? ⟨gb393, 0, none⟩ = some (.int .i64 a0_0) ∧ w'.cell? ⟨gb393, 1, none⟩ = some (.slice A0_1 l0_1.length c0_1)) (ds := []) #[false, false, false, false, false] (by kernel_rfl) rfl rfl ⟨(blk_cell BK409.out 0).trans rfl, (blk_cell BK409.out 1).trans rfl, (blk_cell BK393.out 0).trans rfl, (blk_cell BK393.out 1).trans rfl⟩ (fun hHeld => ?_)
 generalize w60.drew = w61 at HO398 HO402 HO408 HO413 BK393 BK404 BK409 BK415 HB hHeld ⊢
 refine take_ (i := 0) (N := some 45) (v := ?_) (a' := ?_) #[true, false, false, false, false] rfl rfl (by kernel_rfl) (fun _ _ _ h => h) (Or.inl ⟨by rfl, ?_⟩) hHeld ?_ ?_
 rotate_left
 ·rintro w' ⟨s0, s1, s2, s3⟩
  go_simp
  with_reducible rfl
 rotate_left
 ·simp only [Act.put, List.setIfInBounds_toArray, List.set_cons_zero, List.set_cons_succ, i64_w, i32_w]
  rfl
 refine take_ (i := 1) (N := some 46) (v := ?_) (a' := ?_) #[true, true, false, false, false] rfl rfl (by kernel_rfl) (fun _ _ _ h => h) (Or.inl ⟨by rfl, ?_⟩) hHeld ?_ ?_
 rotate_left
 ·rintro w' ⟨s0, s1, s2, s3⟩
  go_simp
  with_reducible rfl
 rotate_left
 ·simp only [Act.put, List.setIfInBounds_toArray, List.set_cons_zero, List.set_cons_succ, i64_w, i32_w]
  rfl
 refine one_ (i := 2) (N := some 47) #[true, true, true, false, false] rfl rfl (by kernel_rfl) (by decide) (fun K hK => ?_)
 refine goes_ Try.func22 (by kernel_rfl) rfl #[.agg #[.int .i64 a0_0, .slice A0_1 l0_1.length c0_1]] (by rfl) rfl rfl (by (try simp only [List.map_toArray, List.map_cons, List.map_nil]); first | done | rfl | (simp only [List.length_drop, List.length_take]; rfl)) ?_
 with_reducible refine (laws_toPuzzle.calls k a0_0 _ _ l0_1 t417 t418 _ ?side1 ?side2 A15.out).mono ?_
 (case side1 => repeat (first | exact (Kd.C_below HR0_1.out HB.out) | (with_reducible refine Kd.C_alloc ?_ _) | (with_reducible refine Kd.C_drewN ?_ _) | (with_reducible refine Kd.C_drew ?_)))
 (case side2 => exact HC0_1.out)
 rintro e w62 ⟨v419, rfl, ho0, hb⟩
 refine ⟨_, rfl, ?_⟩
 have n0_ := Aside0.mk (Kd.R_elder' (zr HO398.out) (Kd.R_base ho0) hb)
 have n1_ := Aside0.mk (Kd.R_elder' (zr HO402.out) (Kd.R_base ho0) hb)
 have n2_ := Aside0.mk (Kd.R_elder' (zr HO408.out) (Kd.R_base ho0) hb)
 have n3_ := Aside0.mk (Kd.R_elder' (zr HO413.out) (Kd.R_base ho0) hb)
 have n4_ := Aside0.mk (Kd.R_lower (Kd.R_new' (Kd.R_new' (Kd.R_new' (Kd.R_new' ho0 (Kd.R_lt (zr HO398.out))) (Kd.R_lt (zr HO402.out))) (Kd.R_lt (zr HO408.out))) (Kd.R_lt (zr HO413.out))) (below_size (zh HB.out)))
 have n5_ := Aside0.mk (blk_below (g := gb393) (o := .cells #[.int .i64 a0_0, .slice A0_1 l0_1.length c0_1] 40 (0, 0)) (zb BK393.out) hb)
 have n6_ := Aside0.mk (blk_below (g := gb404) (o := .cells #[.int .i64 t399, .slice Ao44 t400.length co44] 45 (0, 0)) (zb BK404.out) hb)
 have n7_ := Aside0.mk (blk_below (g := gb409) (o := .cells #[.int .i64 t405, .slice Ao51 t406.length co51] 45 (0, 0)) (zb BK409.out) hb)
 have n8_ := Aside0.mk (blk_below (g := gb415) (o := .cells #[.int .i64 t410, .slice Ao58 t411.length co58] 45 (0, 0)) (zb BK415.out) hb)
 have n9_ := Aside0.mk (below_step (zh HB.out) hb)
 clear HO398
 clear HO402
 clear HO408
 clear HO413
 clear BK393
 clear BK404
 clear BK409
 clear BK415
 clear HB
 have HO398 := n0_
 have HO402 := n1_
 have HO408 := n2_
 have HO413 := n3_
 have HO420 := n4_
 have BK393 := n5_
 have BK404 := n6_
 have BK409 := n7_
 have BK415 := n8_
 have HB := n9_
 clear n0_ n1_ n2_ n3_ n4_ n5_ n6_ n7_ n8_ n9_
 (try clear hb)
 (try clear hb2)
 (try clear hk)
 (try clear hi)
 (try clear ho0)
 obtain ⟨Ao63, co63, eo63⟩ := Kd.R_slice HO420.out
 (first | subst eo63 | (injection eo63 with f1_ f2_ f3_; have f4_ := f1_.symm; have f5_ := f3_.symm; clear f1_ f2_ f3_; subst f4_; subst f5_))
 refine hK.out _ _ ⟨(blk_cell BK409.out 0).trans rfl, (blk_cell BK409.out 1).trans rfl, (blk_cell BK393.out 0).trans rfl, (blk_cell BK393.out 1).trans rfl⟩ (fun hHeld => ?_)
 clear hK K
 refine norm_ (a' := ?_) ?_ ?_
 rotate_left
 ·show Act.put _ (some 47) _ = _
  simp only [Act.put, List.setIfInBounds_toArray, List.set_cons_zero, List.set_cons_succ, i64_w, i32_w]
  rfl
 refine one_ (i := 3) (N := some 48) #[true, true, true, true, false] rfl rfl (by kernel_rfl) (by decide) (fun K hK => ?_)
 refine goes_ Try.func24 (by kernel_rfl) rfl #[.agg #[.int .i64 t405, .slice Ao51 t406.length co51], .agg #[.int .i64 t417, .slice Ao63 t418.length co63]] (by rfl) rfl rfl (by (try simp only [List.map_toArray, List.map_cons, List.map_nil]); first | done | rfl | (simp only [List.length_drop, List.length_take]; rfl)) ?_
 with_reducible refine (laws_eqPuzzle.calls k t405 _ _ t406 t417 _ _ t418 true _ ?side1 ?side2 ?side3 ?side4 A16.out).mono ?_
 (case side1 => repeat (first | exact (Kd.R_reads' HO408.out).2.2 | (with_reducible refine Kd.C_alloc ?_ _) | (with_reducible refine Kd.C_drewN ?_ _) | (with_reducible refine Kd.C_drew ?_)))
 (case side2 => exact (Kd.R_reads' HO408.out).2.1)
 (case side3 => repeat (first | exact (Kd.R_reads' HO420.out).2.2 | (with_reducible refine Kd.C_alloc ?_ _) | (with_reducible refine Kd.C_drewN ?_ _) | (with_reducible refine Kd.C_drew ?_)))
 (case side4 => exact (Kd.R_reads' HO420.out).2.1)
 rintro e w64 ⟨rfl, hb⟩
 refine ⟨_, rfl, ?_⟩
 have n0_ := Aside0.mk (Kd.R_below (zr HO398.out) hb)
 have n1_ := Aside0.mk (Kd.R_below (zr HO402.out) hb)
 have n2_ := Aside0.mk (Kd.R_below (zr HO408.out) hb)
 have n3_ := Aside0.mk (Kd.R_below (zr HO413.out) hb)
 have n4_ := Aside0.mk (Kd.R_below (zr HO420.out) hb)
 have n5_ := Aside0.mk (blk_below (g := gb393) (o := .cells #[.int .i64 a0_0, .slice A0_1 l0_1.length c0_1] 40 (0, 0)) (zb BK393.out) hb)
 have n6_ := Aside0.mk (blk_below (g := gb404) (o := .cells #[.int .i64 t399, .slice Ao44 t400.length co44] 45 (0, 0)) (zb BK404.out) hb)
 have n7_ := Aside0.mk (blk_below (g := gb409) (o := .cells #[.int .i64 t405, .slice Ao51 t406.length co51] 45 (0, 0)) (zb BK409.out) hb)
 have n8_ := Aside0.mk (blk_below (g := gb415) (o := .cells #[.int .i64 t410, .slice Ao58 t411.length co58] 45 (0, 0)) (zb BK415.out) hb)
 have n9_ := Aside0.mk (below_step (zh HB.out) hb)
 clear HO398
 clear HO402
 clear HO408
 clear HO413
 clear HO420
 clear BK393
 clear BK404
 clear BK409
 clear BK415
 clear HB
 have HO398 := n0_
 have HO402 := n1_
 have HO408 := n2_
 have HO413 := n3_
 have HO420 := n4_
 have BK393 := n5_
 have BK404 := n6_
 have BK409 := n7_
 have BK415 := n8_
 have HB := n9_
 clear n0_ n1_ n2_ n3_ n4_ n5_ n6_ n7_ n8_ n9_
 (try clear hb)
 (try clear hb2)
 (try clear hk)
 (try clear hi)
 refine hK.out _ _ ⟨(blk_cell BK409.out 0).trans rfl, (blk_cell BK409.out 1).trans rfl, (blk_cell BK393.out 0).trans rfl, (blk_cell BK393.out 1).trans rfl⟩ (fun hHeld => ?_)
 clear hK K
 refine norm_ (a' := ?_) ?_ ?_
 rotate_left
 ·show Act.put _ (some 48) _ = _
  simp only [Act.put, List.setIfInBounds_toArray, List.set_cons_zero, List.set_cons_succ, i64_w, i32_w]
  rfl
 refine pure_ (i := 4) (N := some 49) (v := ?_) (a' := ?_) #[true, true, true, true, true] rfl rfl (by kernel_rfl) (fun _ _ _ h => h) (Or.inl ⟨by rfl, ?_⟩) ?_ ?_
 rotate_left
 ·intro w'
  go_simp
  with_reducible rfl
 rotate_left
 ·simp only [Act.put, List.setIfInBounds_toArray, List.set_cons_zero, List.set_cons_succ, i64_w, i32_w]
  rfl
 refine done_ (by kernel_rfl) ?_
 have hcz65_0 : w64.cell? ⟨gb409, 0, none⟩ = some (.int .i64 t405) := (blk_cell BK409.out 0).trans rfl
 have hcz65_1 : w64.cell? ⟨gb409, 1, none⟩ = some (.slice Ao51 t406.length co51) := (blk_cell BK409.out 1).trans rfl
 have hfz65_0 := blk_frozen BK409.out 0
 have hfz65_1 := blk_frozen BK409.out 1
 try go_wp2_with (first | ((with_reducible refine gate_callee (f := 27) rfl ?_); refine goesL_ (some 52) rfl rfl Try.func27 (by kernel_rfl) rfl #[.agg #[.int .i64 t405, .slice Ao51 t406.length co51], .int .i64 1] rfl (by (try simp only [List.map_toArray, List.map_cons, List.map_nil]); first | done | rfl | (simp only [List.length_drop, List.length_take]; rfl)) ?_; (with_reducible refine (laws_markPuzzle.calls k t405 (fun k_ => some k_ = (.slice Ao51 t406.length co51 : Value).ownBlock) (.slice Ao51 t406.length co51) t406 1 t422 t423 w _ ?side1 ?side2 A18.out).mono ?_); (case side1 => repeat (first | (with_reducible first | exact HB.out | apply below_alloc | apply pw_below_drewN | apply below_drew1 | refine below_set ?_ GE393.out | refine below_set ?_ GE404.out | refine below_set ?_ GE409.out | refine below_set ?_ GE415.out) | exact HB.out)); (case side2 => exact Kd.R_tight rfl HO408.out); rintro e w66 ⟨rfl, hy0, hb, hkp⟩; refine ⟨_, rfl, ?_⟩; have n0_ := Aside0.mk (blk_kept (zb BK393.out) hkp (fun hs_ => (fun e_ => (Kd.R_ne HO408.out BK393.out (by decide)) e_) hs_)); have n1_ := Aside0.mk (Kd.R_mono (ok' := fun k_ => some k_ ≠ (.slice Ao44 t400.length co44 : Value).ownBlock ∧ some k_ ≠ (.slice Ao51 t406.length co51 : Value).ownBlock ∧ some k_ ≠ (.slice Ao58 t411.length co58 : Value).ownBlock ∧ some k_ ≠ (.slice Ao63 t418.length co63 : Value).ownBlock) (Kd.R_keptB (HO398.out) hkp (fun k_ hk_ hs_ => (hk_.1.1.2) hs_)) (fun k_ hk_ => ⟨hk_.1.1.1.1.2, hk_.1.1.1.2, hk_.1.1.2, hk_.1.2⟩)); have n2_ := Aside0.mk (Kd.R_mono (ok' := fun k_ => some k_ ≠ (.slice Ao39 t396.length co39 : Value).ownBlock ∧ some k_ ≠ (.slice Ao51 t406.length co51 : Value).ownBlock ∧ some k_ ≠ (.slice Ao58 t411.length co58 : Value).ownBlock ∧ some k_ ≠ (.slice Ao63 t418.length co63 : Value).ownBlock) (Kd.R_keptB (HO402.out) hkp (fun k_ hk_ hs_ => (hk_.1.1.2) hs_)) (fun k_ hk_ => ⟨hk_.1.1.1.1.2, hk_.1.1.1.2, hk_.1.1.2, hk_.1.2⟩)); have n3_ := Aside0.mk (blk_kept (zb BK404.out) hkp (fun hs_ => (fun e_ => (Kd.R_ne HO408.out BK404.out (by decide)) e_) hs_)); have n4_ := Aside0.mk (Kd.R_reok rfl hy0 (fun k_ e_ => HO408.out.1 k_ e_)); have n5_ := Aside0.mk (blk_kept (zb BK409.out) hkp (fun hs_ => (fun e_ => (Kd.R_ne HO408.out BK409.out (by decide)) e_) hs_)); have n6_ := Aside0.mk (Kd.R_mono (ok' := fun k_ => some k_ ≠ (.slice Ao39 t396.length co39 : Value).ownBlock ∧ some k_ ≠ (.slice Ao44 t400.length co44 : Value).ownBlock ∧ some k_ ≠ (.slice Ao51 t406.length co51 : Value).ownBlock ∧ some k_ ≠ (.slice Ao63 t418.length co63 : Value).ownBlock) (Kd.R_keptB (HO413.out) hkp (fun k_ hk_ hs_ => (hk_.1.2) hs_)) (fun k_ hk_ => ⟨hk_.1.1.1.1.2, hk_.1.1.1.2, hk_.1.1.2, hk_.1.2⟩)); have n7_ := Aside0.mk (blk_kept (zb BK415.out) hkp (fun hs_ => (fun e_ => (Kd.R_ne HO408.out BK415.out (by decide)) e_) hs_)); have n8_ := Aside0.mk (Kd.R_mono (ok' := fun k_ => some k_ ≠ (.slice Ao39 t396.length co39 : Value).ownBlock ∧ some k_ ≠ (.slice Ao44 t400.length co44 : Value).ownBlock ∧ some k_ ≠ (.slice Ao51 t406.length co51 : Value).ownBlock ∧ some k_ ≠ (.slice Ao58 t411.length co58 : Value).ownBlock) (Kd.R_keptB (HO420.out) hkp (fun k_ hk_ hs_ => (hk_.1.2) hs_)) (fun k_ hk_ => ⟨hk_.1.1.1.1.2, hk_.1.1.1.2, hk_.1.1.2, hk_.1.2⟩)); have n9_ := Aside0.mk (hb); clear BK393; clear HO398; clear HO402; clear BK404; clear HO408; clear BK409; clear HO413; clear BK415; clear HO420; clear HB; have BK393 := n0_; have HO398 := n1_; have HO402 := n2_; have BK404 := n3_; have HO408 := n4_; have BK409 := n5_; have HO413 := n6_; have BK415 := n7_; have HO420 := n8_; have HB := n9_; clear n0_ n1_ n2_ n3_ n4_ n5_ n6_ n7_ n8_ n9_; (try clear hb); (try clear hkp); (try clear hy0); have hcz67_0 : w66.cell? ⟨gb415, 0, none⟩ = some (.int .i64 t410) := (blk_cell BK415.out 0).trans rfl; have hcz67_1 : w66.cell? ⟨gb415, 1, none⟩ = some (.slice Ao58 t411.length co58) := (blk_cell BK415.out 1).trans rfl; have hfz67_0 := blk_frozen BK415.out 0; have hfz67_1 := blk_frozen BK415.out 1; have hcz68_0 : w66.cell? ⟨gb404, 0, none⟩ = some (.int .i64 t399) := (blk_cell BK404.out 0).trans rfl; have hcz68_1 : w66.cell? ⟨gb404, 1, none⟩ = some (.slice Ao44 t400.length co44) := (blk_cell BK404.out 1).trans rfl; have hfz68_0 := blk_frozen BK404.out 0; have hfz68_1 := blk_frozen BK404.out 1) | (go_at_call 24; (with_reducible refine (laws_eqPuzzle.calls k t410 _ _ t411 t399 _ _ t400 true _ ?side1 ?side2 ?side3 ?side4 A20.out).mono ?_); (case side1 => repeat (first | exact (Kd.R_reads' HO413.out).2.2 | (with_reducible refine Kd.C_alloc ?_ _) | (with_reducible refine Kd.C_drewN ?_ _) | (with_reducible refine Kd.C_drew ?_))); (case side2 => exact (Kd.R_reads' HO413.out).2.1); (case side3 => repeat (first | exact (Kd.R_reads' HO402.out).2.2 | (with_reducible refine Kd.C_alloc ?_ _) | (with_reducible refine Kd.C_drewN ?_ _) | (with_reducible refine Kd.C_drew ?_))); (case side4 => exact (Kd.R_reads' HO402.out).2.1); rintro e w69 ⟨rfl, hb⟩; have n0_ := Aside0.mk (Kd.R_below (zr HO398.out) hb); have n1_ := Aside0.mk (Kd.R_below (zr HO402.out) hb); have n2_ := Aside0.mk (Kd.R_below (zr HO408.out) hb); have n3_ := Aside0.mk (Kd.R_below (zr HO413.out) hb); have n4_ := Aside0.mk (Kd.R_below (zr HO420.out) hb); have n5_ := Aside0.mk (blk_below (g := gb393) (o := .cells #[.int .i64 a0_0, .slice A0_1 l0_1.length c0_1] 40 (0, 0)) (zb BK393.out) hb); have n6_ := Aside0.mk (blk_below (g := gb404) (o := .cells #[.int .i64 t399, .slice Ao44 t400.length co44] 45 (0, 0)) (zb BK404.out) hb); have n7_ := Aside0.mk (blk_below (g := gb409) (o := .cells #[.int .i64 t405, .slice Ao51 t406.length co51] 45 (0, 0)) (zb BK409.out) hb); have n8_ := Aside0.mk (blk_below (g := gb415) (o := .cells #[.int .i64 t410, .slice Ao58 t411.length co58] 45 (0, 0)) (zb BK415.out) hb); have n9_ := Aside0.mk (below_step (zh HB.out) hb); clear HO398; clear HO402; clear HO408; clear HO413; clear HO420; clear BK393; clear BK404; clear BK409; clear BK415; clear HB; have HO398 := n0_; have HO402 := n1_; have HO408 := n2_; have HO413 := n3_; have HO420 := n4_; have BK393 := n5_; have BK404 := n6_; have BK409 := n7_; have BK415 := n8_; have HB := n9_; clear n0_ n1_ n2_ n3_ n4_ n5_ n6_ n7_ n8_ n9_; (try clear hb); (try clear hb2); (try clear hk); (try clear hi); have hcz70_0 : w69.cell? ⟨gb415, 0, none⟩ = some (.int .i64 t410) := (blk_cell BK415.out 0).trans rfl; have hcz70_1 : w69.cell? ⟨gb415, 1, none⟩ = some (.slice Ao58 t411.length co58) := (blk_cell BK415.out 1).trans rfl; have hfz70_0 := blk_frozen BK415.out 0; have hfz70_1 := blk_frozen BK415.out 1) | ((with_reducible refine gate_callee (f := 27) rfl ?_); refine goesL_ (some 68) rfl rfl Try.func27 (by kernel_rfl) rfl #[.agg #[.int .i64 t410, .slice Ao58 t411.length co58], .int .i64 1] rfl (by (try simp only [List.map_toArray, List.map_cons, List.map_nil]); first | done | rfl | (simp only [List.length_drop, List.length_take]; rfl)) ?_; (with_reducible refine (laws_markPuzzle.calls k t410 (fun k_ => some k_ = (.slice Ao58 t411.length co58 : Value).ownBlock) (.slice Ao58 t411.length co58) t411 1 t425 t426 w _ ?side1 ?side2 A22.out).mono ?_); (case side1 => repeat (first | (with_reducible first | exact HB.out | apply below_alloc | apply pw_below_drewN | apply below_drew1 | refine below_set ?_ GE393.out | refine below_set ?_ GE404.out | refine below_set ?_ GE409.out | refine below_set ?_ GE415.out) | exact HB.out)); (case side2 => exact Kd.R_tight rfl HO413.out); rintro e w71 ⟨rfl, hy0, hb, hkp⟩; refine ⟨_, rfl, ?_⟩; have n0_ := Aside0.mk (blk_kept (zb BK393.out) hkp (fun hs_ => (fun e_ => (Kd.R_ne HO413.out BK393.out (by decide)) e_) hs_)); have n1_ := Aside0.mk (Kd.R_mono (ok' := fun k_ => some k_ ≠ (.slice Ao44 t400.length co44 : Value).ownBlock ∧ some k_ ≠ (.slice Ao51 t406.length co51 : Value).ownBlock ∧ some k_ ≠ (.slice Ao58 t411.length co58 : Value).ownBlock ∧ some k_ ≠ (.slice Ao63 t418.length co63 : Value).ownBlock) (Kd.R_keptB (HO398.out) hkp (fun k_ hk_ hs_ => (hk_.2.2.1) hs_)) (fun k_ hk_ => ⟨hk_.1.1, hk_.1.2.1, hk_.1.2.2.1, hk_.1.2.2.2⟩)); have n2_ := Aside0.mk (Kd.R_mono (ok' := fun k_ => some k_ ≠ (.slice Ao39 t396.length co39 : Value).ownBlock ∧ some k_ ≠ (.slice Ao51 t406.length co51 : Value).ownBlock ∧ some k_ ≠ (.slice Ao58 t411.length co58 : Value).ownBlock ∧ some k_ ≠ (.slice Ao63 t418.length co63 : Value).ownBlock) (Kd.R_keptB (HO402.out) hkp (fun k_ hk_ hs_ => (hk_.2.2.1) hs_)) (fun k_ hk_ => ⟨hk_.1.1, hk_.1.2.1, hk_.1.2.2.1, hk_.1.2.2.2⟩)); have n3_ := Aside0.mk (blk_kept (zb BK404.out) hkp (fun hs_ => (fun e_ => (Kd.R_ne HO413.out BK404.out (by decide)) e_) hs_)); have n4_ := Aside0.mk (Kd.R_mono (ok' := fun k_ => some k_ ≠ (.slice Ao39 t396.length co39 : Value).ownBlock ∧ some k_ ≠ (.slice Ao44 t400.length co44 : Value).ownBlock ∧ some k_ ≠ (.slice Ao58 t411.length co58 : Value).ownBlock ∧ some k_ ≠ (.slice Ao63 t418.length co63 : Value).ownBlock) (Kd.R_keptB (HO408.out) hkp (fun k_ hk_ hs_ => (hk_.1.2) hs_)) (fun k_ hk_ => ⟨hk_.1.1.1.1.2, hk_.1.1.1.2, hk_.1.1.2, hk_.1.2⟩)); have n5_ := Aside0.mk (blk_kept (zb BK409.out) hkp (fun hs_ => (fun e_ => (Kd.R_ne HO413.out BK409.out (by decide)) e_) hs_)); have n6_ := Aside0.mk (Kd.R_reok rfl hy0 (fun k_ e_ => HO413.out.1 k_ e_)); have n7_ := Aside0.mk (blk_kept (zb BK415.out) hkp (fun hs_ => (fun e_ => (Kd.R_ne HO413.out BK415.out (by decide)) e_) hs_)); have n8_ := Aside0.mk (Kd.R_mono (ok' := fun k_ => some k_ ≠ (.slice Ao39 t396.length co39 : Value).ownBlock ∧ some k_ ≠ (.slice Ao44 t400.length co44 : Value).ownBlock ∧ some k_ ≠ (.slice Ao51 t406.length co51 : Value).ownBlock ∧ some k_ ≠ (.slice Ao58 t411.length co58 : Value).ownBlock) (Kd.R_keptB (HO420.out) hkp (fun k_ hk_ hs_ => (hk_.2.2.2) hs_)) (fun k_ hk_ => ⟨hk_.1.1, hk_.1.2.1, hk_.1.2.2.1, hk_.1.2.2.2⟩)); have n9_ := Aside0.mk (hb); clear BK393; clear HO398; clear HO402; clear BK404; clear HO408; clear BK409; clear HO413; clear BK415; clear HO420; clear HB; have BK393 := n0_; have HO398 := n1_; have HO402 := n2_; have BK404 := n3_; have HO408 := n4_; have BK409 := n5_; have HO413 := n6_; have BK415 := n7_; have HO420 := n8_; have HB := n9_; clear n0_ n1_ n2_ n3_ n4_ n5_ n6_ n7_ n8_ n9_; (try clear hb); (try clear hkp); (try clear hy0); have hcz72_0 : w71.cell? ⟨gb415, 0, none⟩ = some (.int .i64 t410) := (blk_cell BK415.out 0).trans rfl; have hcz72_1 : w71.cell? ⟨gb415, 1, none⟩ = some (.slice Ao58 t411.length co58) := (blk_cell BK415.out 1).trans rfl; have hfz72_0 := blk_frozen BK415.out 0; have hfz72_1 := blk_frozen BK415.out 1) | ((with_reducible refine gate_callee (f := 28) rfl ?_); refine goesL_ (some 71) rfl rfl Try.func28 (by kernel_rfl) rfl #[.agg #[.int .i64 t410, .slice Ao58 t426.length co58], .int .i64 1] rfl (by (try simp only [List.map_toArray, List.map_cons, List.map_nil]); first | done | (rw [show t426.length = t411.length from (Kd.R_reads' HO413.out).1.symm] <;> rfl) | rfl | (simp only [List.length_drop, List.length_take]; rfl)) ?_; (with_reducible refine (laws_heldPuzzle.calls k t410 _ _ t426 1 t427 _ ?side1 ?side2 A23.out).mono ?_); (case side1 => repeat (first | exact (Kd.R_reads' HO413.out).2.2 | (with_reducible refine Kd.C_alloc ?_ _) | (with_reducible refine Kd.C_drewN ?_ _) | (with_reducible refine Kd.C_drew ?_))); (case side2 => rw [show t426.length = t411.length from (Kd.R_reads' HO413.out).1.symm]; exact (Kd.R_reads' HO413.out).2.1); rintro e w73 ⟨rfl, hb⟩; refine ⟨_, rfl, ?_⟩; have n0_ := Aside0.mk (Kd.R_below (zr HO398.out) hb); have n1_ := Aside0.mk (Kd.R_below (zr HO402.out) hb); have n2_ := Aside0.mk (Kd.R_below (zr HO408.out) hb); have n3_ := Aside0.mk (Kd.R_below (zr HO413.out) hb); have n4_ := Aside0.mk (Kd.R_below (zr HO420.out) hb); have n5_ := Aside0.mk (blk_below (g := gb393) (o := .cells #[.int .i64 a0_0, .slice A0_1 l0_1.length c0_1] 40 (0, 0)) (zb BK393.out) hb); have n6_ := Aside0.mk (blk_below (g := gb404) (o := .cells #[.int .i64 t399, .slice Ao44 t400.length co44] 45 (0, 0)) (zb BK404.out) hb); have n7_ := Aside0.mk (blk_below (g := gb409) (o := .cells #[.int .i64 t405, .slice Ao51 t406.length co51] 45 (0, 0)) (zb BK409.out) hb); have n8_ := Aside0.mk (blk_below (g := gb415) (o := .cells #[.int .i64 t410, .slice Ao58 t411.length co58] 45 (0, 0)) (zb BK415.out) hb); have n9_ := Aside0.mk (below_step (zh HB.out) hb); clear HO398; clear HO402; clear HO408; clear HO413; clear HO420; clear BK393; clear BK404; clear BK409; clear BK415; clear HB; have HO398 := n0_; have HO402 := n1_; have HO408 := n2_; have HO413 := n3_; have HO420 := n4_; have BK393 := n5_; have BK404 := n6_; have BK409 := n7_; have BK415 := n8_; have HB := n9_; clear n0_ n1_ n2_ n3_ n4_ n5_ n6_ n7_ n8_ n9_; (try clear hb); (try clear hb2); (try clear hk); (try clear hi); have hcz74_0 : w73.cell? ⟨gb393, 0, none⟩ = some (.int .i64 a0_0) := (blk_cell BK393.out 0).trans rfl; have hcz74_1 : w73.cell? ⟨gb393, 1, none⟩ = some (.slice A0_1 l0_1.length c0_1) := (blk_cell BK393.out 1).trans rfl; have hfz74_0 := blk_frozen BK393.out 0; have hfz74_1 := blk_frozen BK393.out 1) | ((with_reducible refine gate_callee (f := 22) rfl ?_); refine goesL_ (some 79) rfl rfl Try.func22 (by kernel_rfl) rfl #[.agg #[.int .i64 a0_0, .slice A0_1 l0_1.length c0_1]] rfl (by (try simp only [List.map_toArray, List.map_cons, List.map_nil]); first | done | rfl | (simp only [List.length_drop, List.length_take]; rfl)) ?_; (with_reducible refine (laws_toPuzzle.calls k a0_0 _ _ l0_1 t428 t429 _ ?side1 ?side2 A26.out).mono ?_); (case side1 => repeat (first | exact (Kd.C_below HR0_1.out HB.out) | (with_reducible refine Kd.C_alloc ?_ _) | (with_reducible refine Kd.C_drewN ?_ _) | (with_reducible refine Kd.C_drew ?_))); (case side2 => exact HC0_1.out); rintro e w75 ⟨v430, rfl, ho0, hb⟩; refine ⟨_, rfl, ?_⟩; have n0_ := Aside0.mk (Kd.R_elder' (zr HO398.out) (Kd.R_base ho0) hb); have n1_ := Aside0.mk (Kd.R_elder' (zr HO402.out) (Kd.R_base ho0) hb); have n2_ := Aside0.mk (Kd.R_elder' (zr HO408.out) (Kd.R_base ho0) hb); have n3_ := Aside0.mk (Kd.R_elder' (zr HO413.out) (Kd.R_base ho0) hb); have n4_ := Aside0.mk (Kd.R_elder' (zr HO420.out) (Kd.R_base ho0) hb); have n5_ := Aside0.mk (Kd.R_lower (Kd.R_new' (Kd.R_new' (Kd.R_new' (Kd.R_new' (Kd.R_new' ho0 (Kd.R_lt (zr HO398.out))) (Kd.R_lt (zr HO402.out))) (Kd.R_lt (zr HO408.out))) (Kd.R_lt (zr HO413.out))) (Kd.R_lt (zr HO420.out))) (below_size (zh HB.out))); have n6_ := Aside0.mk (blk_below (g := gb393) (o := .cells #[.int .i64 a0_0, .slice A0_1 l0_1.length c0_1] 40 (0, 0)) (zb BK393.out) hb); have n7_ := Aside0.mk (blk_below (g := gb404) (o := .cells #[.int .i64 t399, .slice Ao44 t400.length co44] 45 (0, 0)) (zb BK404.out) hb); have n8_ := Aside0.mk (blk_below (g := gb409) (o := .cells #[.int .i64 t405, .slice Ao51 t406.length co51] 45 (0, 0)) (zb BK409.out) hb); have n9_ := Aside0.mk (blk_below (g := gb415) (o := .cells #[.int .i64 t410, .slice Ao58 t411.length co58] 45 (0, 0)) (zb BK415.out) hb); have n10_ := Aside0.mk (below_step (zh HB.out) hb); clear HO398; clear HO402; clear HO408; clear HO413; clear HO420; clear BK393; clear BK404; clear BK409; clear BK415; clear HB; have HO398 := n0_; have HO402 := n1_; have HO408 := n2_; have HO413 := n3_; have HO420 := n4_; have HO431 := n5_; have BK393 := n6_; have BK404 := n7_; have BK409 := n8_; have BK415 := n9_; have HB := n10_; clear n0_ n1_ n2_ n3_ n4_ n5_ n6_ n7_ n8_ n9_ n10_; (try clear hb); (try clear hb2); (try clear hk); (try clear hi); (try clear ho0); obtain ⟨Ao76, co76, eo76⟩ := Kd.R_slice HO431.out; subst eo76) | ((with_reducible refine gate_callee (f := 30) rfl ?_); refine goesL_ (some 81) rfl rfl Try.func30 (by kernel_rfl) rfl #[.agg #[.int .i64 t428, .slice Ao76 t429.length co76], .int .i64 a1] rfl (by (try simp only [List.map_toArray, List.map_cons, List.map_nil]); first | done | rfl | (simp only [List.length_drop, List.length_take]; rfl)) ?_; (with_reducible refine (impl_DropClue.calls t428 _ _ t429 a1 t432 t433 t436 _ ?side1 ?side2 A27.out).mono ?_); (case side1 => repeat (first | exact (Kd.R_reads' HO431.out).2.2 | (with_reducible refine Kd.C_alloc ?_ _) | (with_reducible refine Kd.C_drewN ?_ _) | (with_reducible refine Kd.C_drew ?_))); (case side2 => exact (Kd.R_reads' HO431.out).2.1); rintro e w77 ⟨v434, rfl, ho0, hb⟩; refine ⟨_, rfl, ?_⟩; have n0_ := Aside0.mk (Kd.R_elder' (zr HO398.out) (Kd.R_base ho0) hb); have n1_ := Aside0.mk (Kd.R_elder' (zr HO402.out) (Kd.R_base ho0) hb); have n2_ := Aside0.mk (Kd.R_elder' (zr HO408.out) (Kd.R_base ho0) hb); have n3_ := Aside0.mk (Kd.R_elder' (zr HO413.out) (Kd.R_base ho0) hb); have n4_ := Aside0.mk (Kd.R_elder' (zr HO420.out) (Kd.R_base ho0) hb); have n5_ := Aside0.mk (Kd.R_elder' (zr HO431.out) (Kd.R_base ho0) hb); have n6_ := Aside0.mk (Kd.R_lower (Kd.R_new' (Kd.R_new' (Kd.R_new' (Kd.R_new' (Kd.R_new' (Kd.R_new' ho0 (Kd.R_lt (zr HO398.out))) (Kd.R_lt (zr HO402.out))) (Kd.R_lt (zr HO408.out))) (Kd.R_lt (zr HO413.out))) (Kd.R_lt (zr HO420.out))) (Kd.R_lt (zr HO431.out))) (below_size (zh HB.out))); have n7_ := Aside0.mk (blk_below (g := gb393) (o := .cells #[.int .i64 a0_0, .slice A0_1 l0_1.length c0_1] 40 (0, 0)) (zb BK393.out) hb); have n8_ := Aside0.mk (blk_below (g := gb404) (o := .cells #[.int .i64 t399, .slice Ao44 t400.length co44] 45 (0, 0)) (zb BK404.out) hb); have n9_ := Aside0.mk (blk_below (g := gb409) (o := .cells #[.int .i64 t405, .slice Ao51 t406.length co51] 45 (0, 0)) (zb BK409.out) hb); have n10_ := Aside0.mk (blk_below (g := gb415) (o := .cells #[.int .i64 t410, .slice Ao58 t411.length co58] 45 (0, 0)) (zb BK415.out) hb); have n11_ := Aside0.mk (below_step (zh HB.out) hb); clear HO398; clear HO402; clear HO408; clear HO413; clear HO420; clear HO431; clear BK393; clear BK404; clear BK409; clear BK415; clear HB; have HO398 := n0_; have HO402 := n1_; have HO408 := n2_; have HO413 := n3_; have HO420 := n4_; have HO431 := n5_; have HO435 := n6_; have BK393 := n7_; have BK404 := n8_; have BK409 := n9_; have BK415 := n10_; have HB := n11_; clear n0_ n1_ n2_ n3_ n4_ n5_ n6_ n7_ n8_ n9_ n10_ n11_; (try clear hb); (try clear hb2); (try clear hk); (try clear hi); (try clear ho0)) | ((with_reducible refine gate_dst (N := 14) rfl ?_); refine box_event ?hg (N := 14) ?hd (cs := #[.int .i64 0, .slice none 0 0]) (t := 45) ?hr ?_; (case hd => rfl); (case hg => rfl); (case hr => first | (go_simp; done) | (go_simp; rfl)); intro gb437 hg w78 hbox hb; have n0_ := Aside0.mk (Kd.R_below (zr HO398.out) hb); have n1_ := Aside0.mk (Kd.R_below (zr HO402.out) hb); have n2_ := Aside0.mk (Kd.R_below (zr HO408.out) hb); have n3_ := Aside0.mk (Kd.R_below (zr HO413.out) hb); have n4_ := Aside0.mk (Kd.R_below (zr HO420.out) hb); have n5_ := Aside0.mk (Kd.R_below (zr HO431.out) hb); have n6_ := Aside0.mk (Kd.R_below (zr HO435.out) hb); have n7_ := Aside0.mk (blk_below (g := gb393) (o := .cells #[.int .i64 a0_0, .slice A0_1 l0_1.length c0_1] 40 (0, 0)) (zb BK393.out) hb); have n8_ := Aside0.mk (blk_below (g := gb404) (o := .cells #[.int .i64 t399, .slice Ao44 t400.length co44] 45 (0, 0)) (zb BK404.out) hb); have n9_ := Aside0.mk (blk_below (g := gb409) (o := .cells #[.int .i64 t405, .slice Ao51 t406.length co51] 45 (0, 0)) (zb BK409.out) hb); have n10_ := Aside0.mk (blk_below (g := gb415) (o := .cells #[.int .i64 t410, .slice Ao58 t411.length co58] 45 (0, 0)) (zb BK415.out) hb); have n11_ := Aside0.mk (below_step (zh HB.out) hb); have n12_ := Aside0.mk (hbox); have n13_ := Aside0.mk ((by rw [hg]; exact (below_size (zh HB.out)) : w.heap.size ≤ gb437)); have n14_ := Aside0.mk ((by rw [hg]; exact (below_size (zh HB.out)) : w.heap.size ≤ gb437)); have n15_ := Aside0.mk ((by rw [hg]; exact Nat.ne_of_lt (blk_lt (g := gb393) (o := .cells #[.int .i64 a0_0, .slice A0_1 l0_1.length c0_1] 40 (0, 0)) (zb BK393.out)) : gb393 ≠ gb437)); have n16_ := Aside0.mk ((by rw [hg]; exact Nat.ne_of_gt (blk_lt (g := gb393) (o := .cells #[.int .i64 a0_0, .slice A0_1 l0_1.length c0_1] 40 (0, 0)) (zb BK393.out)) : gb437 ≠ gb393)); have n17_ := Aside0.mk ((by rw [hg]; exact Nat.ne_of_lt (blk_lt (g := gb404) (o := .cells #[.int .i64 t399, .slice Ao44 t400.length co44] 45 (0, 0)) (zb BK404.out)) : gb404 ≠ gb437)); have n18_ := Aside0.mk ((by rw [hg]; exact Nat.ne_of_gt (blk_lt (g := gb404) (o := .cells #[.int .i64 t399, .slice Ao44 t400.length co44] 45 (0, 0)) (zb BK404.out)) : gb437 ≠ gb404)); have n19_ := Aside0.mk ((by rw [hg]; exact Nat.ne_of_lt (blk_lt (g := gb409) (o := .cells #[.int .i64 t405, .slice Ao51 t406.length co51] 45 (0, 0)) (zb BK409.out)) : gb409 ≠ gb437)); have n20_ := Aside0.mk ((by rw [hg]; exact Nat.ne_of_gt (blk_lt (g := gb409) (o := .cells #[.int .i64 t405, .slice Ao51 t406.length co51] 45 (0, 0)) (zb BK409.out)) : gb437 ≠ gb409)); have n21_ := Aside0.mk ((by rw [hg]; exact Nat.ne_of_lt (blk_lt (g := gb415) (o := .cells #[.int .i64 t410, .slice Ao58 t411.length co58] 45 (0, 0)) (zb BK415.out)) : gb415 ≠ gb437)); have n22_ := Aside0.mk ((by rw [hg]; exact Nat.ne_of_gt (blk_lt (g := gb415) (o := .cells #[.int .i64 t410, .slice Ao58 t411.length co58] 45 (0, 0)) (zb BK415.out)) : gb437 ≠ gb415)); clear HO398; clear HO402; clear HO408; clear HO413; clear HO420; clear HO431; clear HO435; clear BK393; clear BK404; clear BK409; clear BK415; clear HB; have HO398 := n0_; have HO402 := n1_; have HO408 := n2_; have HO413 := n3_; have HO420 := n4_; have HO431 := n5_; have HO435 := n6_; have BK393 := n7_; have BK404 := n8_; have BK409 := n9_; have BK415 := n10_; have HB := n11_; have BK437 := n12_; have GW437 := n13_; have GE437 := n14_; have NB393_437 := n15_; have NB437_393 := n16_; have NB404_437 := n17_; have NB437_404 := n18_; have NB409_437 := n19_; have NB437_409 := n20_; have NB415_437 := n21_; have NB437_415 := n22_; clear n0_ n1_ n2_ n3_ n4_ n5_ n6_ n7_ n8_ n9_ n10_ n11_ n12_ n13_ n14_ n15_ n16_ n17_ n18_ n19_ n20_ n21_ n22_; clear hb hbox hg; have hnb79 := NB437_393.out; have hnc79 := NB393_437.out; have hnb80 := NB437_404.out; have hnc80 := NB404_437.out; have hnb81 := NB437_409.out; have hnc81 := NB409_437.out; have hnb82 := NB437_415.out; have hnc82 := NB415_437.out; have hcz83_0 : w78.cell? ⟨gb437, 0, none⟩ = some (.int .i64 0) := (blk_cell BK437.out 0).trans rfl; have hcz83_1 : w78.cell? ⟨gb437, 1, none⟩ = some (.slice none 0 0) := (blk_cell BK437.out 1).trans rfl; have hfz83_0 := blk_frozen BK437.out 0; have hfz83_1 := blk_frozen BK437.out 1; obtain ⟨Ao84, co84, eo84⟩ := Kd.R_slice HO435.out; subst eo84; have hcz85_0 : w78.cell? ⟨gb404, 0, none⟩ = some (.int .i64 t399) := (blk_cell BK404.out 0).trans rfl; have hcz85_1 : w78.cell? ⟨gb404, 1, none⟩ = some (.slice Ao44 t400.length co44) := (blk_cell BK404.out 1).trans rfl; have hfz85_0 := blk_frozen BK404.out 0; have hfz85_1 := blk_frozen BK404.out 1) | ((with_reducible refine gate_callee (f := 24) rfl ?_); refine goesL_ (some 86) rfl rfl Try.func24 (by kernel_rfl) rfl #[.agg #[.int .i64 t432, .slice Ao84 t433.length co84], .agg #[.int .i64 t399, .slice Ao44 t400.length co44]] rfl (by (try simp only [List.map_toArray, List.map_cons, List.map_nil]); first | done | rfl | (simp only [List.length_drop, List.length_take]; rfl)) ?_; (with_reducible refine (laws_eqPuzzle.calls k t432 _ _ t433 t399 _ _ t400 true _ ?side1 ?side2 ?side3 ?side4 A28.out).mono ?_); (case side1 => refine (Kd.R_reads' (e := 25) (base := w.heap.size) (ok := fun k_ => ((((((True ∧ some k_ ≠ (.slice Ao39 t396.length co39 : Value).ownBlock) ∧ some k_ ≠ (.slice Ao44 t400.length co44 : Value).ownBlock) ∧ some k_ ≠ (.slice Ao51 t406.length co51 : Value).ownBlock) ∧ some k_ ≠ (.slice Ao58 t411.length co58 : Value).ownBlock) ∧ some k_ ≠ (.slice Ao63 t418.length co63 : Value).ownBlock) ∧ some k_ ≠ (.slice Ao76 t429.length co76 : Value).ownBlock)) (n := t433.length) (c := co84) ?_).2.2; exact (by (with_reducible repeat (first | apply Kd.R_alloc | apply Kd.R_drewN | apply Kd.R_drew)); exact (Kd.R_mono (Kd.R_far (p := ⟨gb437, 1, none⟩) (Kd.R_far (p := ⟨gb437, 0, none⟩) (Kd.R_types HO435.out BK437.out (by decide)) (fun _ hk => hk.2) (.int .i64 t432)) (fun _ hk => hk.2) (.slice Ao84 t433.length co84)) (fun _ h_ => h_.1)))); (case side2 => exact (Kd.R_reads' HO435.out).2.1); (case side3 => refine (Kd.R_reads' (e := 25) (base := w.heap.size) (ok := fun k_ => (((some k_ ≠ (.slice Ao39 t396.length co39 : Value).ownBlock ∧ (some k_ ≠ (.slice Ao51 t406.length co51 : Value).ownBlock ∧ (some k_ ≠ (.slice Ao58 t411.length co58 : Value).ownBlock ∧ some k_ ≠ (.slice Ao63 t418.length co63 : Value).ownBlock))) ∧ some k_ ≠ (.slice Ao76 t429.length co76 : Value).ownBlock) ∧ some k_ ≠ (.slice Ao84 t433.length co84 : Value).ownBlock)) (n := t400.length) (c := co44) ?_).2.2; exact (by (with_reducible repeat (first | apply Kd.R_alloc | apply Kd.R_drewN | apply Kd.R_drew)); exact (Kd.R_mono (Kd.R_far (p := ⟨gb437, 1, none⟩) (Kd.R_far (p := ⟨gb437, 0, none⟩) (Kd.R_types HO402.out BK437.out (by decide)) (fun _ hk => hk.2) (.int .i64 t432)) (fun _ hk => hk.2) (.slice Ao84 t433.length co84)) (fun _ h_ => h_.1)))); (case side4 => exact (Kd.R_reads' HO402.out).2.1); rintro e w86 ⟨rfl, hb⟩; refine ⟨_, rfl, ?_⟩; have n0_ := Aside0.mk (Kd.R_below (by (with_reducible repeat (first | apply Kd.R_alloc | apply Kd.R_drewN | apply Kd.R_drew)); exact (Kd.R_mono (Kd.R_far (p := ⟨gb437, 1, none⟩) (Kd.R_far (p := ⟨gb437, 0, none⟩) (Kd.R_types HO398.out BK437.out (by decide)) (fun _ hk => hk.2) (.int .i64 t432)) (fun _ hk => hk.2) (.slice Ao84 t433.length co84)) (fun _ h_ => h_.1))) hb); have n1_ := Aside0.mk (Kd.R_below (by (with_reducible repeat (first | apply Kd.R_alloc | apply Kd.R_drewN | apply Kd.R_drew)); exact (Kd.R_mono (Kd.R_far (p := ⟨gb437, 1, none⟩) (Kd.R_far (p := ⟨gb437, 0, none⟩) (Kd.R_types HO402.out BK437.out (by decide)) (fun _ hk => hk.2) (.int .i64 t432)) (fun _ hk => hk.2) (.slice Ao84 t433.length co84)) (fun _ h_ => h_.1))) hb); have n2_ := Aside0.mk (Kd.R_below (by (with_reducible repeat (first | apply Kd.R_alloc | apply Kd.R_drewN | apply Kd.R_drew)); exact (Kd.R_mono (Kd.R_far (p := ⟨gb437, 1, none⟩) (Kd.R_far (p := ⟨gb437, 0, none⟩) (Kd.R_types HO408.out BK437.out (by decide)) (fun _ hk => hk.2) (.int .i64 t432)) (fun _ hk => hk.2) (.slice Ao84 t433.length co84)) (fun _ h_ => h_.1))) hb); have n3_ := Aside0.mk (Kd.R_below (by (with_reducible repeat (first | apply Kd.R_alloc | apply Kd.R_drewN | apply Kd.R_drew)); exact (Kd.R_mono (Kd.R_far (p := ⟨gb437, 1, none⟩) (Kd.R_far (p := ⟨gb437, 0, none⟩) (Kd.R_types HO413.out BK437.out (by decide)) (fun _ hk => hk.2) (.int .i64 t432)) (fun _ hk => hk.2) (.slice Ao84 t433.length co84)) (fun _ h_ => h_.1))) hb); have n4_ := Aside0.mk (Kd.R_below (by (with_reducible repeat (first | apply Kd.R_alloc | apply Kd.R_drewN | apply Kd.R_drew)); exact (Kd.R_mono (Kd.R_far (p := ⟨gb437, 1, none⟩) (Kd.R_far (p := ⟨gb437, 0, none⟩) (Kd.R_types HO420.out BK437.out (by decide)) (fun _ hk => hk.2) (.int .i64 t432)) (fun _ hk => hk.2) (.slice Ao84 t433.length co84)) (fun _ h_ => h_.1))) hb); have n5_ := Aside0.mk (Kd.R_below (by (with_reducible repeat (first | apply Kd.R_alloc | apply Kd.R_drewN | apply Kd.R_drew)); exact (Kd.R_mono (Kd.R_far (p := ⟨gb437, 1, none⟩) (Kd.R_far (p := ⟨gb437, 0, none⟩) (Kd.R_types HO431.out BK437.out (by decide)) (fun _ hk => hk.2) (.int .i64 t432)) (fun _ hk => hk.2) (.slice Ao84 t433.length co84)) (fun _ h_ => h_.1))) hb); have n6_ := Aside0.mk (Kd.R_below (by (with_reducible repeat (first | apply Kd.R_alloc | apply Kd.R_drewN | apply Kd.R_drew)); exact (Kd.R_mono (Kd.R_far (p := ⟨gb437, 1, none⟩) (Kd.R_far (p := ⟨gb437, 0, none⟩) (Kd.R_types HO435.out BK437.out (by decide)) (fun _ hk => hk.2) (.int .i64 t432)) (fun _ hk => hk.2) (.slice Ao84 t433.length co84)) (fun _ h_ => h_.1))) hb); have n7_ := Aside0.mk (blk_below (g := gb393) (o := .cells #[.int .i64 a0_0, .slice A0_1 l0_1.length c0_1] 40 (0, 0)) (by (with_reducible repeat (first | refine blk_drewN ?_ _ | refine blk_drew ?_ | refine blk_alloc ?_ _)); refine blk_far ?_ NB393_437.out _; (with_reducible repeat (first | refine blk_drewN ?_ _ | refine blk_drew ?_ | refine blk_alloc ?_ _)); refine blk_far ?_ NB393_437.out _; (with_reducible repeat (first | refine blk_drewN ?_ _ | refine blk_drew ?_ | refine blk_alloc ?_ _)); exact BK393.out) hb); have n8_ := Aside0.mk (blk_below (g := gb404) (o := .cells #[.int .i64 t399, .slice Ao44 t400.length co44] 45 (0, 0)) (by (with_reducible repeat (first | refine blk_drewN ?_ _ | refine blk_drew ?_ | refine blk_alloc ?_ _)); refine blk_far ?_ NB404_437.out _; (with_reducible repeat (first | refine blk_drewN ?_ _ | refine blk_drew ?_ | refine blk_alloc ?_ _)); refine blk_far ?_ NB404_437.out _; (with_reducible repeat (first | refine blk_drewN ?_ _ | refine blk_drew ?_ | refine blk_alloc ?_ _)); exact BK404.out) hb); have n9_ := Aside0.mk (blk_below (g := gb409) (o := .cells #[.int .i64 t405, .slice Ao51 t406.length co51] 45 (0, 0)) (by (with_reducible repeat (first | refine blk_drewN ?_ _ | refine blk_drew ?_ | refine blk_alloc ?_ _)); refine blk_far ?_ NB409_437.out _; (with_reducible repeat (first | refine blk_drewN ?_ _ | refine blk_drew ?_ | refine blk_alloc ?_ _)); refine blk_far ?_ NB409_437.out _; (with_reducible repeat (first | refine blk_drewN ?_ _ | refine blk_drew ?_ | refine blk_alloc ?_ _)); exact BK409.out) hb); have n10_ := Aside0.mk (blk_below (g := gb415) (o := .cells #[.int .i64 t410, .slice Ao58 t411.length co58] 45 (0, 0)) (by (with_reducible repeat (first | refine blk_drewN ?_ _ | refine blk_drew ?_ | refine blk_alloc ?_ _)); refine blk_far ?_ NB415_437.out _; (with_reducible repeat (first | refine blk_drewN ?_ _ | refine blk_drew ?_ | refine blk_alloc ?_ _)); refine blk_far ?_ NB415_437.out _; (with_reducible repeat (first | refine blk_drewN ?_ _ | refine blk_drew ?_ | refine blk_alloc ?_ _)); exact BK415.out) hb); have n11_ := Aside0.mk (blk_below (g := gb437) (o := .cells #[.int .i64 t432, .slice Ao84 t433.length co84] 45 (0, 0)) (by (with_reducible repeat (first | refine blk_drewN ?_ _ | refine blk_drew ?_ | refine blk_alloc ?_ _)); refine blk_put (cs := #[.int .i64 t432, .slice none 0 0]) ?_ 1 _ rfl; (with_reducible repeat (first | refine blk_drewN ?_ _ | refine blk_drew ?_ | refine blk_alloc ?_ _)); refine blk_put (cs := #[.int .i64 0, .slice none 0 0]) ?_ 0 _ rfl; (with_reducible repeat (first | refine blk_drewN ?_ _ | refine blk_drew ?_ | refine blk_alloc ?_ _)); exact BK437.out) hb); have n12_ := Aside0.mk (below_step (zh HB.out) hb); clear HO398; clear HO402; clear HO408; clear HO413; clear HO420; clear HO431; clear HO435; clear BK393; clear BK404; clear BK409; clear BK415; clear BK437; clear HB; have HO398 := n0_; have HO402 := n1_; have HO408 := n2_; have HO413 := n3_; have HO420 := n4_; have HO431 := n5_; have HO435 := n6_; have BK393 := n7_; have BK404 := n8_; have BK409 := n9_; have BK415 := n10_; have BK437 := n11_; have HB := n12_; clear n0_ n1_ n2_ n3_ n4_ n5_ n6_ n7_ n8_ n9_ n10_ n11_ n12_; (try clear hb); (try clear hb2); (try clear hk); (try clear hi); have hcz87_0 : w86.cell? ⟨gb415, 0, none⟩ = some (.int .i64 t410) := (blk_cell BK415.out 0).trans rfl; have hcz87_1 : w86.cell? ⟨gb415, 1, none⟩ = some (.slice Ao58 t411.length co58) := (blk_cell BK415.out 1).trans rfl; have hfz87_0 := blk_frozen BK415.out 0; have hfz87_1 := blk_frozen BK415.out 1) | ((with_reducible refine gate_callee (f := 28) rfl ?_); refine goesL_ (some 95) rfl rfl Try.func28 (by kernel_rfl) rfl #[.agg #[.int .i64 t410, .slice Ao58 t426.length co58], .int .i64 1] rfl (by (try simp only [List.map_toArray, List.map_cons, List.map_nil]); first | done | (rw [show t426.length = t411.length from (Kd.R_reads' HO413.out).1.symm] <;> rfl) | rfl | (simp only [List.length_drop, List.length_take]; rfl)) ?_; (with_reducible refine (laws_heldPuzzle.calls k t410 _ _ t426 1 t439 _ ?side1 ?side2 A31.out).mono ?_); (case side1 => repeat (first | exact (Kd.R_reads' HO413.out).2.2 | (with_reducible refine Kd.C_alloc ?_ _) | (with_reducible refine Kd.C_drewN ?_ _) | (with_reducible refine Kd.C_drew ?_))); (case side2 => rw [show t426.length = t411.length from (Kd.R_reads' HO413.out).1.symm]; exact (Kd.R_reads' HO413.out).2.1); rintro e w88 ⟨rfl, hb⟩; refine ⟨_, rfl, ?_⟩; have n0_ := Aside0.mk (Kd.R_below (zr HO398.out) hb); have n1_ := Aside0.mk (Kd.R_below (zr HO402.out) hb); have n2_ := Aside0.mk (Kd.R_below (zr HO408.out) hb); have n3_ := Aside0.mk (Kd.R_below (zr HO413.out) hb); have n4_ := Aside0.mk (Kd.R_below (zr HO420.out) hb); have n5_ := Aside0.mk (Kd.R_below (zr HO431.out) hb); have n6_ := Aside0.mk (Kd.R_below (zr HO435.out) hb); have n7_ := Aside0.mk (blk_below (g := gb393) (o := .cells #[.int .i64 a0_0, .slice A0_1 l0_1.length c0_1] 40 (0, 0)) (zb BK393.out) hb); have n8_ := Aside0.mk (blk_below (g := gb404) (o := .cells #[.int .i64 t399, .slice Ao44 t400.length co44] 45 (0, 0)) (zb BK404.out) hb); have n9_ := Aside0.mk (blk_below (g := gb409) (o := .cells #[.int .i64 t405, .slice Ao51 t406.length co51] 45 (0, 0)) (zb BK409.out) hb); have n10_ := Aside0.mk (blk_below (g := gb415) (o := .cells #[.int .i64 t410, .slice Ao58 t411.length co58] 45 (0, 0)) (zb BK415.out) hb); have n11_ := Aside0.mk (blk_below (g := gb437) (o := .cells #[.int .i64 t432, .slice Ao84 t433.length co84] 45 (0, 0)) (zb BK437.out) hb); have n12_ := Aside0.mk (below_step (zh HB.out) hb); clear HO398; clear HO402; clear HO408; clear HO413; clear HO420; clear HO431; clear HO435; clear BK393; clear BK404; clear BK409; clear BK415; clear BK437; clear HB; have HO398 := n0_; have HO402 := n1_; have HO408 := n2_; have HO413 := n3_; have HO420 := n4_; have HO431 := n5_; have HO435 := n6_; have BK393 := n7_; have BK404 := n8_; have BK409 := n9_; have BK415 := n10_; have BK437 := n11_; have HB := n12_; clear n0_ n1_ n2_ n3_ n4_ n5_ n6_ n7_ n8_ n9_ n10_ n11_ n12_; (try clear hb); (try clear hb2); (try clear hk); (try clear hi)))
 go_ret
 exact ⟨by first | rfl | (simp [errW_none, errW_some] <;> rfl) | (simp [*, errW_none, errW_some] <;> rfl), by repeat (first | (with_reducible first | exact HB.out | apply below_alloc | apply pw_below_drewN | apply below_drew1 | refine below_set ?_ GE393.out | refine below_set ?_ GE404.out | refine below_set ?_ GE409.out | refine below_set ?_ GE415.out | refine below_set ?_ GE437.out) | exact HB.out)⟩
end Go.Proofs.Ytgbdliccdbccbaa.Q
end
section
namespace Go.Proofs.Ytgbdliccdbccbaa.Q
open Go.RowKit Go.Proofs.YtgbdliccdbccbaaW.PrintWords Go.Proofs.YtgbdliccdbccbaaW.PrintLast Go.Proofs.YtgbdliccdbccbaaW.PrintMore
set_option linter.unusedVariables false
set_option linter.unusedSimpArgs false
open Go.ChangeShapes Go.WideShapes Go.ChangeAt Go.Deep
section
variable {H : Type} {enc : TypeId × Value → H} {P : Program} {W : World} {α β γ : Type}
def Opens (enc : TypeId × Value → H) (P : Program) (W : World) (t : TypeId) (d : Kd α) (G : α → Prop) : Prop :=
  ∀ (fuel : Nat) (cs : List Value) (y : DataW H × List MemPlace), DataW.trod enc P W 0 (fun _ => true) true fuel t cs = some y → ∃ x, d.K W x cs ∧ G x
def I64 (x : Int) : Prop := -9223372036854775808 ≤ x ∧ x ≤ 9223372036854775807
theorem opens_int {t : TypeId} (ht : P.underlying t = some (.int .i64)) : Opens enc P W t (Kd.int .i64) I64 := by
  intro fuel cs y h
  obtain ⟨n, rfl, _, hw⟩ := DataW.trod_int ht h
  exact ⟨n, rfl, Go.bounds_i64 hw⟩
theorem opens_slice [Inhabited α] {t e : TypeId} {d : Kd α} {G : α → Prop} (ht : P.underlying t = some (.slice e)) (he : P.cellsOf e = d.sz) (h : Opens enc P W e d G) :
    Opens enc P W t (Kd.slice e d) (fun xs => ∀ x ∈ xs, G x) := by
  intro fuel cs y hr
  rcases Deep.open_slice ht hr with ⟨rfl, _⟩ | ⟨a, len, cap, m, n, D, Pl, rfl, _, hlc, hcm, hm, _, hel⟩
  · exact ⟨[], ⟨none, 0, rfl, Nat.le_refl _, rfl, by simp, fun hp => absurd hp (by simp)⟩, fun x hx => by cases hx⟩
  · have hm' : len ≤ m := by rw [hm]; simp; omega
    have key : ∀ i, i < len → ∃ x, (∃ cs', d.K W x cs' ∧ ∀ j u, cs'[j]? = some u → W.cell? (a.add (i * d.sz + j)) = some u) ∧ G x := by
      intro i hi
      obtain ⟨cs', h1, h2⟩ := hel i (by omega)
      obtain ⟨x, hx, hG⟩ := h _ _ _ h2
      obtain ⟨_, hl, hc⟩ := World.cells?_some h1
      refine ⟨x, ⟨cs', hx, fun j u hu => ?_⟩, hG⟩
      have hj : j < P.cellsOf e := by rw [← hl]; exact (List.getElem?_eq_some_iff.1 hu).1
      have h3 := hc j hj
      rw [Deep.add_add, he] at h3
      rw [h3, hu]
    obtain ⟨f, hf⟩ := Deep.choose_lt key
    have hlen : ((List.range len).map f).length = len := by simp
    refine ⟨(List.range len).map f, ⟨some a, cap, by rw [hlen], by rw [hlen]; exact hlc, rfl, ?_, fun _ => ⟨a, rfl, fun j p hj => ?_⟩⟩, fun x hx => ?_⟩
    · rw [hlen]; unfold maxLen at hcm; omega
    · obtain ⟨hj1, hj2⟩ := List.getElem?_eq_some_iff.1 hj
      have hjl : j < len := by rw [hlen] at hj1; exact hj1
      have : p = f j := by rw [← hj2]; simp
      subst this
      obtain ⟨⟨cs', hK, hc⟩, _⟩ := hf j hjl
      exact ⟨cs', d.K_len hK, hK, hc⟩
    · obtain ⟨i, hi, rfl⟩ := List.mem_map.1 hx
      exact (hf i (List.mem_range.1 hi)).2
theorem opens_pair {t : TypeId} {f0 f1 : Field} {d0 : Kd α} {d1 : Kd β} {G0 : α → Prop} {G1 : β → Prop} (ht : P.underlying t = some (.struct #[f0, f1])) (hC : P.cellsOf t = d0.sz + d1.sz)
    (o0 : f0.offset = 0) (o1 : f1.offset = d0.sz) (c0 : P.cellsOf f0.type = d0.sz) (c1 : P.cellsOf f1.type = d1.sz) (h0 : Opens enc P W f0.type d0 G0) (h1 : Opens enc P W f1.type d1 G1) :
    Opens enc P W t (Kd.pair d0 d1) (fun x => G0 x.1 ∧ G1 x.2) := by
  intro fuel cs y hr
  obtain ⟨y0, y1, n, _, hl, r0, r1⟩ := trod_struct2 ht hr
  rw [o0, c0] at r0
  rw [o1, c1] at r1
  obtain ⟨x0, k0, g0⟩ := h0 _ _ _ r0
  obtain ⟨x1, k1, g1⟩ := h1 _ _ _ r1
  refine ⟨(x0, x1), ⟨_, _, ?_, k0, k1⟩, g0, g1⟩
  rw [List.drop_zero, List.take_of_length_le (l := cs.drop d0.sz) (by rw [List.length_drop, hl, hC]; omega), List.take_append_drop]
theorem opens_triple {t : TypeId} {f0 f1 f2 : Field} {d0 : Kd α} {d1 : Kd β} {d2 : Kd γ} {G0 : α → Prop} {G1 : β → Prop} {G2 : γ → Prop} (ht : P.underlying t = some (.struct #[f0, f1, f2])) (hC : P.cellsOf t = d0.sz + (d1.sz + d2.sz))
    (o0 : f0.offset = 0) (o1 : f1.offset = d0.sz) (o2 : f2.offset = d0.sz + d1.sz) (c0 : P.cellsOf f0.type = d0.sz) (c1 : P.cellsOf f1.type = d1.sz) (c2 : P.cellsOf f2.type = d2.sz)
    (h0 : Opens enc P W f0.type d0 G0) (h1 : Opens enc P W f1.type d1 G1) (h2 : Opens enc P W f2.type d2 G2) :
    Opens enc P W t (Kd.pair d0 (Kd.pair d1 d2)) (fun x => G0 x.1 ∧ G1 x.2.1 ∧ G2 x.2.2) := by
  intro fuel cs y hr
  obtain ⟨y0, y1, y2, n, _, hl, r0, r1, r2⟩ := trod_struct3 ht hr
  rw [o0, c0] at r0
  rw [o1, c1] at r1
  rw [o2, c2] at r2
  obtain ⟨x0, k0, g0⟩ := h0 _ _ _ r0
  obtain ⟨x1, k1, g1⟩ := h1 _ _ _ r1
  obtain ⟨x2, k2, g2⟩ := h2 _ _ _ r2
  refine ⟨(x0, x1, x2), ⟨_, _, ?_, k0, _, _, rfl, k1, k2⟩, g0, g1, g2⟩
  rw [List.drop_zero, List.take_of_length_le (l := cs.drop (d0.sz + d1.sz)) (by rw [List.length_drop, hl, hC]; omega), ← List.drop_drop, List.take_append_drop, List.take_append_drop]
theorem opens_iso {t : TypeId} {d : Kd α} {G : α → Prop} (f : β → α) (g : α → β) (hfg : ∀ x, f (g x) = x) (h : Opens enc P W t d G) : Opens enc P W t (Kd.iso d f) (fun y => G (f y)) := by
  intro fuel cs y hr
  obtain ⟨x, k, gx⟩ := h _ _ _ hr
  exact ⟨g x, by show d.K W (f (g x)) cs; rw [hfg]; exact k, by show G (f (g x)); rw [hfg]; exact gx⟩
theorem open_struct {r : Reach} {b0 : Nat} {t : TypeId} {fs : Array Field} {d : Kd α} {G : α → Prop} {v : Value} {y : DataW H} {p : List MemPlace} (ht : P.underlying t = some (.struct fs)) (hv : Value.okWide P W r b0 t v)
    (hr : DataW.Trod enc P W 0 (fun _ => true) true t v y p) (h : Opens enc P W t d G) : ∃ x cs, v = .agg cs ∧ d.K W x cs.toList ∧ G x := by
  obtain ⟨cs, rfl, _⟩ := okWide_struct ht hv
  obtain ⟨fuel, hf⟩ := hr
  obtain ⟨x, k, g⟩ := h _ _ _ hf
  exact ⟨x, cs, rfl, k, g⟩
end
end Go.Proofs.Ytgbdliccdbccbaa.Q
end
section
namespace Go.Proofs.Ytgbdliccdbccbaa.Q
open Go.RowKit Go.Proofs.YtgbdliccdbccbaaW.PrintWords Go.Proofs.YtgbdliccdbccbaaW.PrintLast Go.Proofs.YtgbdliccdbccbaaW.PrintMore
set_option linter.unusedVariables false
set_option linter.unusedSimpArgs false
def inB (n lo hi : Int) : Bool := decide (lo ≤ n) && decide (n ≤ hi)
theorem bind_ite_false {b : Bool} {x : Option Bool} {y : Bool} (h : b = true → x = some y) : (if b = true then x else some false) = some (b && y) := by
  cases b
  · rfl
  · simpa using h rfl
theorem shl_one (n : Int) (h : 0 ≤ n ∧ n ≤ 16) : shl .i64 1 n = 2 ^ n.toNat := by
  obtain ⟨m, rfl⟩ := Int.eq_ofNat_of_zero_le h.1
  have hm : m ≤ 16 := by omega
  have : ∀ m : Nat, m ≤ 16 → shl .i64 1 (m : Int) = 2 ^ (m : Int).toNat := by decide
  exact this m hm
theorem pow_le16 (n : Int) (h : 0 ≤ n ∧ n ≤ 16) : 1 ≤ (2 : Int) ^ n.toNat ∧ (2 : Int) ^ n.toNat ≤ 65536 := by
  obtain ⟨m, rfl⟩ := Int.eq_ofNat_of_zero_le h.1
  have hm : m ≤ 16 := by omega
  have : ∀ m : Nat, m ≤ 16 → 1 ≤ (2 : Int) ^ (m : Int).toNat ∧ (2 : Int) ^ (m : Int).toNat ≤ 65536 := by decide
  exact this m hm
theorem wrap64_id {x : Int} (h : -9223372036854775808 ≤ x ∧ x ≤ 9223372036854775807) : wrap64 x = x := by unfold wrap64; omega
theorem all_bits (n : Int) (h : 0 ≤ n ∧ n ≤ 16) : wrap64 (shl .i64 1 n - 1) = 2 ^ n.toNat - 1 := by
  rw [shl_one n h]
  have := pow_le16 n h
  exact wrap64_id (by omega)
theorem within_eq (n lo hi : Int) : impl_within.f n lo hi = some (inB n lo hi) := by
  unfold impl_within.f inB
  split <;> simp_all <;> omega
theorem l1In_eq (n lo hi : Int) : spec_l1In.f n lo hi = some (inB n lo hi) := by
  unfold spec_l1In.f inB
  split <;> simp_all <;> omega
theorem voAll_eq (n : Int) (h : 0 ≤ n ∧ n ≤ 16) : spec_voAll.f n = some (2 ^ n.toNat - 1) := by
  unfold spec_voAll.f
  rw [if_pos h.1, all_bits n h]
theorem isHidden_eq (n : Int) : impl_isHidden.f n = some (inB n 1 4) := by unfold impl_isHidden.f; rw [within_eq]; rfl
theorem pzMembers_eq (n : Int) : spec_pzMembers.f n = some (inB n 1 4) := by unfold spec_pzMembers.f; rw [l1In_eq]; rfl
theorem inB_iff {n lo hi : Int} : inB n lo hi = true ↔ lo ≤ n ∧ n ≤ hi := by unfold inB; simp
def clueOk (n k a b : Int) : Bool :=
  if k = 0 then inB a 0 (2 ^ n.toNat - 1) && inB b 0 1 else if k = 1 then inB a 1 15 && (b == 0) else if k = 2 then inB a 0 (n - 1) && inB b 0 1
  else if k = 3 then inB a 0 (n - 1) && inB b 0 8 else if k = 4 then inB a 0 1 && (b == 0) else if k = 5 then inB a 0 1 && (b == 0) else false
theorem pzClue_eq (n k a b : Int) (h : 1 ≤ n ∧ n ≤ 4) : spec_pzClue.f n k a b = some (clueOk n k a b) := by
  unfold spec_pzClue.f clueOk
  simp only [l1In_eq, voAll_eq n (by omega), Option.bind_some, wrap64_id (show -9223372036854775808 ≤ n - 1 ∧ n - 1 ≤ 9223372036854775807 by omega)]
  repeat' split
  all_goals simp_all
theorem IsClue_eq (n k a b : Int) : impl_IsClue.f n k a b = some (inB n 1 4 && clueOk n k a b) := by
  unfold impl_IsClue.f
  rw [isHidden_eq, Option.bind_some]
  refine bind_ite_false fun h => ?_
  have hn := inB_iff.1 h
  unfold clueOk
  simp only [within_eq, if_pos (show 0 ≤ n by omega), Option.bind_some, all_bits n (by omega), wrap64_id (show -9223372036854775808 ≤ n - 1 ∧ n - 1 ≤ 9223372036854775807 by omega)]
  repeat' split
  all_goals simp_all
end Go.Proofs.Ytgbdliccdbccbaa.Q
end
section
namespace Go.Proofs.Ytgbdliccdbccbaa.Q
open Go.RowKit Go.Proofs.YtgbdliccdbccbaaW.PrintWords Go.Proofs.YtgbdliccdbccbaaW.PrintLast Go.Proofs.YtgbdliccdbccbaaW.PrintMore
set_option linter.unusedVariables false
set_option linter.unusedSimpArgs false
theorem ev_pos {α : Type} {c : Prop} [Decidable c] {f g : Nat → Option α} {r : α} (h : c) (k : Ev f r) : Ev (fun n => if c then f n else g n) r := by
  simp only [if_pos h]; exact k
theorem ev_neg {α : Type} {c : Prop} [Decidable c] {f g : Nat → Option α} {r : α} (h : ¬ c) (k : Ev g r) : Ev (fun n => if c then f n else g n) r := by
  simp only [if_neg h]; exact k
theorem ev_bindS {α β : Type} {x : Option α} {f : Nat → α → Option β} {a : α} {r : β} (h : x = some a) (k : Ev (fun n => f n a) r) : Ev (fun n => x.bind (f n)) r := by
  subst h; exact k
theorem ev_succ {α : Type} {g : Nat → Option α} {r : α} (k : Ev (fun n => g (n + 1)) r) : Ev g r := Ev.step (fun _ => rfl) k
theorem ev_eqv {α : Type} {f : Nat → Option α} {r q : α} (h : Ev f r) (e : r = q) : Ev f q := e ▸ h
theorem ev_bool {α : Type} {c : Bool} {f g : Nat → Option α} {r : α} (h1 : c = true → Ev f r) (h2 : c = false → Ev g r) : Ev (fun n => if c = true then f n else g n) r := by
  cases c
  · simpa using h2 rfl
  · simpa using h1 rfl
theorem wrap_succ {i : Nat} {n : Nat} (h : i < n) (hn : n ≤ 1152921504606846976) : wrap64 ((i : Int) + 1) = ((i + 1 : Nat) : Int) := by
  unfold wrap64; omega
end Go.Proofs.Ytgbdliccdbccbaa.Q
end
section
namespace Go.Proofs.Ytgbdliccdbccbaa.Q
open Go.RowKit Go.Proofs.YtgbdliccdbccbaaW.PrintWords Go.Proofs.YtgbdliccdbccbaaW.PrintLast Go.Proofs.YtgbdliccdbccbaaW.PrintMore
set_option linter.unusedVariables false
set_option linter.unusedSimpArgs false
theorem ev_range {R : Type} (n : Nat) (L : Nat → Nat → Option R) (v : Nat → R) (hend : Ev (fun k => L k n) (v n)) (hstep : ∀ i, i < n → Ev (fun k => L k (i + 1)) (v (i + 1)) → Ev (fun k => L k i) (v i)) :
    ∀ i, i ≤ n → Ev (fun k => L k i) (v i) := by
  have key : ∀ d i, i + d = n → Ev (fun k => L k i) (v i) := by
    intro d
    induction d with
    | zero => intro i hi; rw [show i = n by omega]; exact hend
    | succ d ih => intro i hi; exact hstep i (by omega) (ih (i + 1) (by omega))
  exact fun i hi => key (n - i) i (by omega)
theorem set_copy {α β : Type} (g : α → β) (z : β) (l : List α) (i : Nat) (h : i < l.length) :
    ((l.take i).map g ++ List.replicate (l.length - i) z).set i (g l[i]) = (l.take (i + 1)).map g ++ List.replicate (l.length - (i + 1)) z := by
  rw [List.set_append_right _ _ (by rw [List.length_map, List.length_take]; omega), List.length_map, List.length_take, Nat.min_eq_left (by omega), Nat.sub_self, show l.length - i = (l.length - (i + 1)) + 1 by omega, List.replicate_succ, List.set_cons_zero, List.take_succ_eq_append_getElem h, List.map_append, List.append_assoc]
  rfl
theorem copy_len {α β : Type} (g : α → β) (z : β) (l : List α) (i : Nat) (h : i ≤ l.length) : ((l.take i).map g ++ List.replicate (l.length - i) z).length = l.length := by
  rw [List.length_append, List.length_map, List.length_take, List.length_replicate]; omega
theorem getD_get {α : Type} {xs : List α} {z : α} {i : Nat} (h : i < xs.length) : xs.getD i z = xs[i] := by
  simp [List.getD_eq_getElem?_getD, List.getElem?_eq_getElem h]
theorem all_drop {α : Type} (p : α → Bool) (l : List α) (i : Nat) (h : i < l.length) : (l.drop i).all p = (p l[i] && (l.drop (i + 1)).all p) := by
  rw [List.drop_eq_getElem_cons h, List.all_cons]
theorem drop_end {α : Type} (l : List α) : l.drop l.length = [] := by simp
theorem eq_drop {α : Type} [DecidableEq α] (a b : List α) (i : Nat) (h1 : i < a.length) (h2 : i < b.length) : decide (a.drop i = b.drop i) = (decide (a[i] = b[i]) && decide (a.drop (i + 1) = b.drop (i + 1))) := by
  rw [List.drop_eq_getElem_cons h1, List.drop_eq_getElem_cons h2]
  by_cases e : a[i] = b[i]
  · by_cases e2 : a.drop (i + 1) = b.drop (i + 1)
    · rw [decide_eq_true e, decide_eq_true e2, decide_eq_true (by rw [e, e2])]; rfl
    · rw [decide_eq_false e2, decide_eq_false (fun h => e2 (List.cons.inj h).2)]; simp
  · rw [decide_eq_false e, decide_eq_false (fun h => e (List.cons.inj h).1)]; rfl
end Go.Proofs.Ytgbdliccdbccbaa.Q
end
section
namespace Go.Proofs.Ytgbdliccdbccbaa.Q
open Go.RowKit Go.Proofs.YtgbdliccdbccbaaW.PrintWords Go.Proofs.YtgbdliccdbccbaaW.PrintLast Go.Proofs.YtgbdliccdbccbaaW.PrintMore
set_option linter.unusedVariables false
set_option linter.unusedSimpArgs false
theorem any_not_all {α : Type} (l : List α) (p : α → Bool) : (!l.any fun x => !p x) = l.all p := by
  induction l with
  | nil => rfl
  | cons x l ih => rw [List.any_cons, List.all_cons, ← ih]; cases p x <;> simp
end Go.Proofs.Ytgbdliccdbccbaa.Q
end
section
namespace Go.Proofs.Ytgbdliccdbccbaa.Q
open Go.RowKit Go.Proofs.YtgbdliccdbccbaaW.PrintWords Go.Proofs.YtgbdliccdbccbaaW.PrintLast Go.Proofs.YtgbdliccdbccbaaW.PrintMore
set_option linter.unusedVariables false
set_option linter.unusedSimpArgs false
deriving instance DecidableEq for S25
def clueI (x : S23) : S25 := ⟨x.f0, x.f1, x.f2⟩
theorem rdI_get {xs : List S25} {i : Nat} (h : i < xs.length) : rd_T25 xs (i : Int) = xs[i] := by unfold rd_T25; rw [Int.toNat_natCast]; exact getD_get h
theorem rdL_get {xs : List S23} {i : Nat} (h : i < xs.length) : rd_T23 xs (i : Int) = xs[i] := by unfold rd_T23; rw [Int.toNat_natCast]; exact getD_get h
theorem toClueS_ev (l : List S23) (hl : l.length ≤ 1152921504606) : Ev (fun k => laws_toClueS.f k l) (l.map clueI) := by
  unfold laws_toClueS.f
  refine ev_pos (by omega) (ev_pos (by omega) ?_)
  rw [Int.toNat_natCast]
  refine ev_range l.length (fun k i => laws_toClueS.l0 k l ((l.take i).map clueI ++ List.replicate (l.length - i) z25) (i : Int)) (fun _ => l.map clueI) ?_ ?_ 0 (Nat.zero_le _)
  · refine ev_succ ?_
    simp only [laws_toClueS.l0]
    exact ev_neg (by omega) (ev_eqv (Ev.now _) (by simp))
  · intro i hi ih
    refine ev_succ ?_
    simp only [laws_toClueS.l0, laws_toClue.f, Option.bind_some]
    refine ev_pos (by omega) (ev_pos (by omega) (ev_pos (by rw [copy_len _ _ _ _ (by omega)]; omega) ?_))
    rw [wrap_succ hi (by omega), Int.toNat_natCast, rdL_get hi, show (⟨l[i].f0, l[i].f1, l[i].f2⟩ : S25) = clueI l[i] from rfl, set_copy clueI _ l i hi]
    exact ih
theorem toPuzzle_ev (m : Int) (l : List S23) (hl : l.length ≤ 1152921504606) : Ev (fun k => laws_toPuzzle.f k m l) (m, l.map clueI) := by
  unfold laws_toPuzzle.f
  exact Ev.bind (toClueS_ev l hl) (Ev.now _)
theorem eqClue_eq (x y : S25) : laws_eqClue.f x.f0 x.f1 x.f2 y.f0 y.f1 y.f2 = some (decide (x = y)) := by
  unfold laws_eqClue.f
  obtain ⟨a, b, c⟩ := x
  obtain ⟨d, e, f⟩ := y
  simp only [S25.mk.injEq]
  repeat' split
  all_goals simp_all
theorem eqClueS_ev (a b : List S25) (ha : a.length ≤ 1152921504606) : Ev (fun k => laws_eqClueS.f k a b) (decide (a = b)) := by
  unfold laws_eqClueS.f
  by_cases hl : a.length = b.length
  · refine ev_pos (by omega) ?_
    refine ev_range a.length (fun k i => laws_eqClueS.l0 k a b (i : Int)) (fun i => decide (a.drop i = b.drop i)) ?_ ?_ 0 (Nat.zero_le _)
    · refine ev_succ ?_
      simp only [laws_eqClueS.l0]
      refine ev_neg (by omega) (ev_eqv (Ev.now _) ?_)
      rw [List.drop_of_length_le (by omega), List.drop_of_length_le (by omega)]; simp
    · intro i hi ih
      have h2 : i < b.length := by omega
      refine ev_succ ?_
      simp only [laws_eqClueS.l0]
      refine ev_pos (by omega) (ev_pos (by omega) (ev_pos (by omega) ?_))
      rw [rdI_get hi, rdI_get h2, eqClue_eq, wrap_succ hi (by omega), eq_drop a b i hi h2]
      refine ev_bool (fun h => ?_) (fun h => ?_)
      · rw [h]; exact ih
      · rw [h]; exact Ev.now _
  · refine ev_neg (by omega) (ev_eqv (Ev.now false) ?_)
    exact (decide_eq_false fun e => hl (by rw [e])).symm
theorem eqPuzzle_ev (m n : Int) (a b : List S25) (ha : a.length ≤ 1152921504606) : Ev (fun k => laws_eqPuzzle.f k m a n b) (decide (m = n ∧ a = b)) := by
  unfold laws_eqPuzzle.f
  by_cases hm : m = n
  · refine ev_pos hm (Ev.bind (eqClueS_ev a b ha) (ev_bool (fun h => ev_eqv (Ev.now _) ?_) (fun h => ev_eqv (Ev.now _) ?_)))
    · exact (decide_eq_true ⟨hm, of_decide_eq_true h⟩).symm
    · exact (decide_eq_false fun e => of_decide_eq_false h e.2).symm
  · exact ev_neg hm (ev_eqv (Ev.now _) (decide_eq_false fun e => hm e.1).symm)
theorem szPuzzle_eq (m : Int) (l : List S23) (n : Nat) (hn : n ≤ 1048576) (hl : l.length ≤ 9223372036854775807) : ∃ q, laws_szPuzzle.f m l (n : Int) = some q ∧ (¬ q < 0 → l.length ≤ n) := by
  unfold laws_szPuzzle.f laws_szClueS.f
  rw [wrap64_id (by omega)]
  by_cases h : (n : Int) - (l.length : Int) < 0
  · exact ⟨-1, by rw [if_pos h]; rfl, fun h => absurd (by decide) h⟩
  · exact ⟨_, by rw [if_neg h, Option.bind_some, if_neg h], fun _ => by omega⟩
def puzzleOk (m : Int) (l : List S25) : Bool := inB m 1 4 && (decide (l.length ≤ 8) && l.all fun x => clueOk m x.f0 x.f1 x.f2)
theorem pzGood_ev (m : Int) (l : List S25) : Ev (fun k => spec_pzGood.f k m l) (puzzleOk m l) := by
  unfold spec_pzGood.f puzzleOk
  simp only [pzMembers_eq, Option.bind_some]
  refine ev_bool (fun hb => ?_) (fun hb => ?_)
  · rw [hb]
    refine ev_succ ?_
    simp only [spec_pzGood.j0]
    by_cases hl : l.length ≤ 8
    · rw [decide_eq_true hl, decide_eq_false (show ¬ (l.length : Int) > 8 by omega)]
      refine ev_neg (by simp) ?_
      refine ev_range l.length (fun k i => spec_pzGood.l0 k l (l.length : Int) (i : Int) m l) (fun i => (l.drop i).all fun x => clueOk m x.f0 x.f1 x.f2) ?_ ?_ 0 (Nat.zero_le _)
      · refine ev_succ ?_
        simp only [spec_pzGood.l0]
        exact ev_neg (by omega) (ev_eqv (Ev.now _) (by rw [drop_end]; rfl))
      · intro i hi ih
        refine ev_succ ?_
        simp only [spec_pzGood.l0]
        refine ev_pos (by omega) (ev_pos (by omega) (ev_pos (by omega) ?_))
        rw [rdI_get hi, wrap_succ hi (by omega), pzClue_eq _ _ _ _ (inB_iff.1 hb), all_drop _ _ _ hi]
        exact ev_bool (fun h => by rw [h]; exact ih) (fun h => by rw [h]; exact Ev.now _)
    · rw [decide_eq_false hl, decide_eq_true (show (l.length : Int) > 8 by omega)]
      exact ev_pos (by simp) (Ev.now _)
  · rw [hb]
    refine ev_succ ?_
    simp only [spec_pzGood.j0]
    exact ev_pos (by simp) (Ev.now _)
theorem IsPuzzle_eq (m : Int) (l : List S25) : impl_IsPuzzle.f m l = some (puzzleOk m l) := by
  unfold impl_IsPuzzle.f puzzleOk
  rw [isHidden_eq, Option.bind_some]
  refine bind_ite_false fun hb => ?_
  by_cases hl : l.length ≤ 8
  · rw [if_pos (by omega), decide_eq_true hl]
    rw [anyO_some (q := fun x => !clueOk m x.f0 x.f1 x.f2) (fun x _ => by unfold impl_IsPuzzle_1.f; rw [IsClue_eq, hb]; rfl)]
    rw [Option.bind_some, any_not_all]; rfl
  · rw [if_neg (by omega), decide_eq_false hl]; rfl
end Go.Proofs.Ytgbdliccdbccbaa.Q
end
section
namespace Go.Proofs.Ytgbdliccdbccbaa.Q
open Go.RowKit Go.Proofs.YtgbdliccdbccbaaW.PrintWords Go.Proofs.YtgbdliccdbccbaaW.PrintLast Go.Proofs.YtgbdliccdbccbaaW.PrintMore
set_option linter.unusedVariables false
set_option linter.unusedSimpArgs false
def tab {α : Type} (g : Nat → α) (n : Nat) : List α := (List.range n).map g
theorem tab_len {α : Type} (g : Nat → α) (n : Nat) : (tab g n).length = n := by simp [tab]
theorem tab_get {α : Type} (g : Nat → α) (n i : Nat) (h : i < (tab g n).length) : (tab g n)[i] = g i := by simp [tab]
theorem tab_succ {α : Type} (g : Nat → α) (n : Nat) : tab g (n + 1) = tab g n ++ [g n] := by simp [tab, List.range_succ]
theorem set_tab {α : Type} (g : Nat → α) (l : List α) (i : Nat) (h : i < l.length) : (tab g i ++ l.drop i).set i (g i) = tab g (i + 1) ++ l.drop (i + 1) := by
  rw [List.set_append_right _ _ (by rw [tab_len]; omega), tab_len, Nat.sub_self, List.drop_eq_getElem_cons h, List.set_cons_zero, tab_succ, List.append_assoc]; rfl
theorem tab_drop_len {α : Type} (g : Nat → α) (l : List α) (i : Nat) (h : i ≤ l.length) : (tab g i ++ l.drop i).length = l.length := by
  rw [List.length_append, tab_len, List.length_drop]; omega
theorem rdI_set {xs : List S25} {i : Nat} {v : S25} (h : i < xs.length) : rd_T25 (xs.set i v) (i : Int) = v := by
  rw [rdI_get (by rw [List.length_set]; exact h), List.getElem_set_self]
def mkC (m : Int) (i : Nat) : S25 := ⟨m + 3 * i, m + 3 * i + 1, m + 3 * i + 2⟩
theorem wrap_add1 {x : Int} (h : 0 ≤ x ∧ x ≤ 9223372036854775806) : wrap64 (x + 1) = x + 1 := wrap64_id (by omega)
theorem markClueS_ev (l : List S25) (m : Int) (hl : l.length ≤ 1152921504606) (hm : 0 ≤ m ∧ m ≤ 1152921504606846976) : Ev (fun k => laws_markClueS.f k l m) (m + 3 * l.length, tab (mkC m) l.length) := by
  unfold laws_markClueS.f
  have := ev_range l.length (fun k i => laws_markClueS.l0 k (tab (mkC m) i ++ l.drop i) (m + 3 * i) (i : Int)) (fun _ => (m + 3 * l.length, tab (mkC m) l.length)) ?_ ?_ 0 (Nat.zero_le _)
  · simpa [tab] using this
  · refine ev_succ ?_
    simp only [laws_markClueS.l0]
    refine ev_neg (by rw [tab_drop_len _ _ _ (Nat.le_refl _)]; omega) (ev_eqv (Ev.now _) ?_)
    rw [drop_end, List.append_nil]
  · intro i hi ih
    have hx := tab_drop_len (mkC m) l i (by omega)
    refine ev_succ ?_
    simp only [laws_markClueS.l0]
    refine ev_pos (by omega) (ev_pos (by omega) ?_)
    simp only [Option.bind_some, Int.toNat_natCast]
    rw [wrap_add1 (x := m + 3 * i) (by omega), wrap_add1 (x := m + 3 * i + 1) (by omega), wrap_add1 (x := m + 3 * i + 1 + 1) (by omega)]
    rw [rdI_set (by rw [hx]; exact hi), rdI_set (by rw [List.length_set, hx]; exact hi), List.set_set, List.set_set]
    rw [show (⟨m + 3 * i, m + 3 * i + 1, m + 3 * i + 1 + 1⟩ : S25) = mkC m i by unfold mkC; congr 1; omega, set_tab _ _ _ hi, wrap_succ hi (by omega), show m + 3 * (i : Int) + 1 + 1 + 1 = m + 3 * ((i + 1 : Nat) : Int) by omega]
    exact ih
theorem heldClueS_ev (m : Int) (n : Nat) (hl : n ≤ 1152921504606) (hm : 0 ≤ m ∧ m ≤ 1152921504606846976) : Ev (fun k => laws_heldClueS.f k (tab (mkC m) n) m) (m + 3 * n) := by
  unfold laws_heldClueS.f
  have := ev_range n (fun k i => laws_heldClueS.l0 k (tab (mkC m) n) (m + 3 * i) (i : Int)) (fun _ => m + 3 * n) ?_ ?_ 0 (Nat.zero_le _)
  · simpa using this
  · refine ev_succ ?_
    simp only [laws_heldClueS.l0]
    exact ev_neg (by rw [tab_len]; omega) (Ev.now _)
  · intro i hi ih
    refine ev_succ ?_
    simp only [laws_heldClueS.l0]
    rw [rdI_get (by rw [tab_len]; exact hi), tab_get]
    refine ev_pos (by rw [tab_len]; omega) (ev_pos (by omega) (ev_pos rfl ?_))
    rw [wrap_add1 (x := m + 3 * i) (by omega), wrap_add1 (x := m + 3 * i + 1) (by omega), wrap_add1 (x := m + 3 * i + 1 + 1) (by omega)]
    refine ev_pos rfl (ev_pos (by unfold mkC; simp only []; omega) ?_)
    rw [wrap_succ hi (by omega), show m + 3 * (i : Int) + 1 + 1 + 1 = m + 3 * ((i + 1 : Nat) : Int) by omega]
    exact ih
theorem markPuzzle_ev (n : Int) (l : List S25) (hl : l.length ≤ 1152921504606) : Ev (fun k => laws_markPuzzle.f k n l 1) (1 + 3 * (l.length : Int), tab (mkC 1) l.length) := by
  unfold laws_markPuzzle.f
  exact Ev.bind (markClueS_ev l 1 hl (by omega)) (Ev.now _)
theorem heldPuzzle_ev (a : Int) (n : Nat) (hl : n ≤ 1152921504606) : Ev (fun k => laws_heldPuzzle.f k a (tab (mkC 1) n) 1) (1 + 3 * (n : Int)) := by
  unfold laws_heldPuzzle.f
  exact Ev.bind (heldClueS_ev 1 n hl (by omega)) (ev_neg (by omega) (Ev.now _))
end Go.Proofs.Ytgbdliccdbccbaa.Q
end
section
namespace Go.Proofs.Ytgbdliccdbccbaa.Q
open Go.RowKit Go.Proofs.YtgbdliccdbccbaaW.PrintWords Go.Proofs.YtgbdliccdbccbaaW.PrintLast Go.Proofs.YtgbdliccdbccbaaW.PrintMore
set_option linter.unusedVariables false
set_option linter.unusedSimpArgs false
theorem puzzleOk_len8 {m : Int} {l : List S25} (h : puzzleOk m l = true) : l.length ≤ 8 := by
  unfold puzzleOk at h
  rw [Bool.and_eq_true, Bool.and_eq_true] at h
  exact of_decide_eq_true h.2.1
def dropClue (m : Int) (l : List S25) (k : Int) : Int × List S25 × Bool :=
  if puzzleOk m l = true ∧ 0 ≤ k ∧ k < (l.length : Int) then (m, l.eraseIdx k.toNat, true) else (0, [], false)
theorem inB_last {l : List S25} (k : Int) (hl : l.length ≤ 8) : inB k 0 (wrap64 ((l.length : Int) - 1)) = decide (0 ≤ k ∧ k < (l.length : Int)) := by
  rw [wrap64_id (by omega)]
  unfold inB
  rw [← Bool.decide_and]
  exact decide_eq_decide.2 (by omega)
theorem pzWithout_eq (l : List S25) (k : Int) (h : 0 ≤ k ∧ k < (l.length : Int)) (hl : l.length ≤ 8) : spec_pzWithout.f l k = some (l.eraseIdx k.toNat) := by
  obtain ⟨i, rfl⟩ := Int.eq_ofNat_of_zero_le h.1
  unfold spec_pzWithout.f
  have hw : wrap64 ((i : Int) + 1) = ((i + 1 : Nat) : Int) := by unfold wrap64; omega
  simp only [Option.bind_some, hw, Int.toNat_natCast, List.nil_append, List.length_nil, List.length_take, List.length_drop]
  rw [if_pos (by omega), if_pos (by omega), if_pos (by omega), if_pos (by omega), if_pos (by omega), if_pos (by omega), List.eraseIdx_eq_take_drop_succ]
theorem sDropClue_ev (m : Int) (l : List S25) (c : Int) : Ev (fun k => spec_DropClue.f k m l c) (dropClue m l c) := by
  unfold spec_DropClue.f
  refine Ev.bind (pzGood_ev m l) (ev_bool (fun h => ?_) (fun h => ?_))
  · have hl := puzzleOk_len8 h
    rw [l1In_eq, Option.bind_some, inB_last _ hl]
    refine ev_bool (fun hc => ?_) (fun hc => ?_)
    · have hc := of_decide_eq_true hc
      rw [pzWithout_eq _ _ hc hl]
      exact ev_eqv (Ev.now _) (by unfold dropClue; rw [if_pos ⟨h, hc⟩])
    · have hc := of_decide_eq_false hc
      exact ev_eqv (Ev.now _) (by unfold dropClue; rw [if_neg (fun e => hc e.2)])
  · exact ev_eqv (Ev.now _) (by unfold dropClue; rw [if_neg (by simp [h])])
theorem DropClue_eq (m : Int) (l : List S25) (c : Int) : impl_DropClue.f m l c = some (dropClue m l c) := by
  unfold impl_DropClue.f
  rw [IsPuzzle_eq, Option.bind_some]
  unfold dropClue
  by_cases h : puzzleOk m l = true
  · have hl := puzzleOk_len8 h
    rw [if_pos h, within_eq, Option.bind_some, inB_last _ hl]
    by_cases hc : 0 ≤ c ∧ c < (l.length : Int)
    · rw [decide_eq_true hc, if_pos rfl, if_pos ⟨h, hc⟩]
      unfold impl_without.f
      rw [if_pos ⟨hc.1, hc.2, by omega⟩]; rfl
    · rw [decide_eq_false hc, if_neg (by simp), if_neg (fun e => hc e.2)]
  · rw [if_neg h, if_neg (fun e => h e.1)]
theorem dropClue_len (m : Int) (l : List S25) (c : Int) (hl : l.length ≤ 1048576) : (dropClue m l c).2.1.length ≤ 1048576 := by
  unfold dropClue
  split
  · exact Nat.le_trans (List.length_eraseIdx_le _ _) hl
  · simp
theorem FnExactDropClue_pure (a0_0 : Int) (l0_1 : List S23) (a1 : Int) (g0 : I64 a0_0 ∧ ∀ y ∈ l0_1, I64 y.f0 ∧ I64 y.f1 ∧ I64 y.f2) (_ : I64 a1) (hl : l0_1.length ≤ 9223372036854775807) : ∃ k, laws_FnExactDropClue.f k a0_0 l0_1 a1 = some true := by
  refine Ev.rounds ?_
  unfold laws_FnExactDropClue.f
  obtain ⟨q, hq, hq2⟩ := szPuzzle_eq a0_0 l0_1 1048576 (by decide) hl
  refine ev_bindS hq ?_
  by_cases h : q < 0
  · exact ev_pos h (Ev.now _)
  have hn := hq2 h
  refine ev_neg h ?_
  have ht := toPuzzle_ev a0_0 l0_1 (by omega)
  have hm : (l0_1.map clueI).length ≤ 1048576 := by rw [List.length_map]; omega
  have hg := dropClue_len a0_0 (l0_1.map clueI) a1 hm
  refine Ev.bind ht (Ev.bind (sDropClue_ev _ _ _) (Ev.bind ht ?_))
  simp only [DropClue_eq, Option.bind_some]
  refine Ev.bind (eqPuzzle_ev _ _ _ _ (by omega)) (ev_pos (by simp) (ev_neg (by simp) (Ev.bind ht (Ev.bind (eqPuzzle_ev _ _ _ _ (by omega)) (ev_pos (by simp) ?_)))))
  refine Ev.bind (markPuzzle_ev _ _ (by omega)) (ev_neg (by simp only []; omega) (Ev.bind (eqPuzzle_ev _ _ _ _ (by omega)) (ev_pos (by simp) ?_)))
  refine Ev.bind (markPuzzle_ev _ _ (by omega)) (Ev.bind (heldPuzzle_ev _ _ (by omega)) (ev_neg (by omega) (ev_pos rfl ?_)))
  refine Ev.bind ht ?_
  simp only [DropClue_eq, Option.bind_some]
  refine Ev.bind (eqPuzzle_ev _ _ _ _ (by omega)) (ev_pos (by simp) (ev_neg (by simp) (Ev.bind (heldPuzzle_ev _ _ (by omega)) (ev_neg (by omega) (ev_pos rfl (Ev.now _))))))
end Go.Proofs.Ytgbdliccdbccbaa.Q
end
section
namespace Go.Proofs.Ytgbdliccdbccbaa.Q
open Go.RowKit Go.Proofs.YtgbdliccdbccbaaW.PrintWords Go.Proofs.YtgbdliccdbccbaaW.PrintLast Go.Proofs.YtgbdliccdbccbaaW.PrintMore
set_option linter.unusedVariables false
set_option linter.unusedSimpArgs false
section
variable {H : Type} {enc : TypeId × Value → H} {W : World}
instance : Inhabited S23 := ⟨z23⟩
theorem opens_Clue : Opens enc Try.prog W 23 k23 (fun x => I64 x.f0 ∧ I64 x.f1 ∧ I64 x.f2) :=
  opens_iso _ (fun x => ⟨x.1, x.2.1, x.2.2⟩) (fun _ => rfl) (opens_triple Try.underlying23 (by kernel_rfl) rfl rfl rfl (by kernel_rfl) (by kernel_rfl) (by kernel_rfl) (opens_int Try.underlying3) (opens_int Try.underlying3) (opens_int Try.underlying3))
theorem opens_Puzzle : Opens enc Try.prog W 40 (Kd.pair (Kd.int .i64) (Kd.slice 23 k23)) (fun x => I64 x.1 ∧ ∀ y ∈ x.2, I64 y.f0 ∧ I64 y.f1 ∧ I64 y.f2) :=
  opens_pair Try.underlying40 (by kernel_rfl) rfl rfl (by kernel_rfl) (by kernel_rfl) (opens_int Try.underlying3) (opens_slice Try.underlying38 (by kernel_rfl) opens_Clue)
end
open Go.ChangeShapes Go.WideShapes Go.ChangeAt Go.Deep
section
variable {H : Type} {enc : TypeId × Value → H} {W : World} {r : Reach} {b0 : Nat} {v : Value} {y : DataW H} {p : List MemPlace}
theorem arg_Puzzle (hv : Value.okWide Try.prog W r b0 40 v) (hr : DataW.Trod enc Try.prog W 0 (fun _ => true) true 40 v y p) :
    ∃ a A c l, v = .agg #[.int .i64 a, .slice A (l : List S23).length c] ∧ l.length ≤ c ∧ Kd.C k23 W A l.length l ∧ I64 a ∧ ∀ y ∈ l, I64 y.f0 ∧ I64 y.f1 ∧ I64 y.f2 := by
  obtain ⟨x, ⟨l⟩, rfl, k, g⟩ := open_struct Try.underlying40 hv hr opens_Puzzle
  obtain ⟨_, _, rfl, rfl, ⟨A, c, rfl, hl, hC⟩⟩ := k
  exact ⟨_, A, c, _, rfl, hl, hC, g⟩
end
end Go.Proofs.Ytgbdliccdbccbaa.Q
end
section
namespace Go.Proofs.Ytgbdliccdbccbaa.fnExactDropClue
open Go.ChangeShapes Go.WideShapes Go.ChangeAt Go.RowKit Go.Proofs.Ytgbdliccdbccbaa.Q
open Go.ChangeMaps (open_string shut_string)
set_option linter.unusedVariables false
theorem own : ownKnob Try.prog.godebug = none := by kernel_rfl
theorem laidOut : laidOutB Try.prog = true := by kernel_rfl
set_option maxRecDepth 100000 in
theorem lifted (os : Os) (started : os.Started) (H : Type) (enc : TypeId × Value → H) :
    ReturnsInHanded {} Try.checked os 8 .any (Rows.fnExactDropClueSpec.pre6 enc Try.prog Try.f8 Rows.fnExactDropClueRow.domain false) (Rows.fnExactDropClueSpec.post enc Try.prog Try.f8 false true false false) := by
  refine returnsInHanded_of_change_sized (C := Try.checked) own started (by kernel_rfl) Try.func8
    (ChangeSpec.witness6 (enc := enc) (C := Try.checked) false ⟨#[], #[.agg #[.int .i64 0, .slice none 0 0], .int .i64 0], []⟩ 8 (by kernel_rfl) (by kernel_rfl) (by kernel_rfl) (by kernel_rfl)) ?_
  intro W base args ds gs before hval0 hW hcnd hsz0 _
  have hsz : (DataW.weightsEach Try.prog (Try.f8.params.toList ++ Rows.fnExactDropClueSpec.plain.varTypes Try.prog) (ds ++ gs)).all (· ≤ reachBytes) = true := hsz0
  have hval : ∀ (j : Nat) t v, Try.f8.params[j]? = some t → args[j]? = some v → Value.okWide Try.prog W .any base t v := hval0
  have hW' := hW
  obtain ⟨p, q, hA0, hV, rfl, hfz, hnd⟩ := hW
  have hA : DataW.TrodAll enc Try.prog W 0 (fun _ => true) true Try.f8.params.toList args.toList ds p := hA0
  rw [Try.params8] at hA hval hsz
  obtain ⟨v0, vs0, d0, ds0, p0, q0, hargs, rfl, rfl, h0, r0⟩ := trodAll_cons hA
  obtain ⟨v1, vs1, d1, ds1, p1, q1, rfl, rfl, rfl, h1, r1⟩ := trodAll_cons r0
  obtain ⟨rfl, rfl, rfl⟩ := trodAll_nil r1
  obtain rfl : args = #[v0, v1] := by cases args; simp_all
  obtain ⟨rfl, rfl⟩ := trodVars_none hV
  have k0 := h0
  have lt0 : ∀ x ∈ p0, x.block < W.heap.size := by obtain ⟨m, hm⟩ := k0; exact DataW.trod_lt m _ _ _ hm
  obtain ⟨a0_0, A0_1, c0_1, l0_1, rfl, hc0_1, hr0_1, g0⟩ := arg_Puzzle (hval 0 40 v0 rfl rfl) h0
  obtain ⟨a1, rfl, rfl, rfl, w1⟩ := open_int Try.underlying3 (hval 1 3 v1 rfl rfl) h1
  clear hA0 hval0 hsz0 hsz
  obtain ⟨k, hk⟩ := FnExactDropClue_pure a0_0 l0_1 a1 g0 (bounds_i64 w1) hr0_1.2.1
  refine (laws_FnExactDropClue.calls k a0_0 A0_1 c0_1 l0_1 a1 true W hr0_1 hc0_1 hk).mono fun e W' ⟨he, bel⟩ => ?_
  subst he
  exact ⟨_, rfl, _, _, _, [], _, [], hW', trodAll_mk1 (shut_bool Try.underlying4 _), (trodAll_cons_mk (Below.trod laidOut (by kernel_rfl) (of_decide_eq_true (by kernel_rfl)) k0 bel lt0) (trodAll_cons_mk (shut_int Try.underlying3 w1) trodAll_mk0)), rfl, bel.frame _, fun h => by cases h⟩
theorem over : Rows.fnExactDropClueRow.holds Try.pinned (OpenSpec.ofChange Rows.fnExactDropClueSpec) :=
  OpenClaim.holds_of_wide 8 Try.f8 rfl rfl rfl rfl rfl rfl rfl ⟨rfl, rfl, rfl, rfl, rfl⟩ rfl rfl rfl rfl rfl (by kernel_rfl) Try.func8 (by kernel_rfl)
    (of_decide_eq_true (by kernel_rfl)) (by unfold Func.isWrapper; first | (rw [if_pos (by decide +kernel)]; kernel_rfl) | (rw [if_neg (by decide +kernel)]; exact ⟨rfl, rfl⟩))
    (fun os started H enc _ => lifted os started H enc)
theorem proved : Rows.FnExactDropClueSaid := over
end Go.Proofs.Ytgbdliccdbccbaa.fnExactDropClue
namespace Go.Proofs.Ytgbdliccdbccbaa
theorem fnExactDropClue_holds : Rows.FnExactDropClueSaid := fnExactDropClue.proved
end Go.Proofs.Ytgbdliccdbccbaa
end
#print axioms Go.Proofs.Ytgbdliccdbccbaa.fnExactDropClue_holds

/- Part 5 of the proof of FnExactAddClue: what it leans on (no condition). -/
import Derived.Test.YtgbdliccdbccbaaKFnExactAddClue4
import Derived.ProofKit
import Derived.OpenShut
import Derived.ShutString
import Derived.ChangeOld
import Derived.SizedLaws
import Derived.Deep.Slices
import Derived.Deep.Strs
section
namespace Go.Proofs.Ytgbdliccdbccbaa.Q
open Go.RowKit Go.Proofs.YtgbdliccdbccbaaW.PrintWords Go.Proofs.YtgbdliccdbccbaaW.PrintLast Go.Proofs.YtgbdliccdbccbaaW.PrintMore
attribute [local go_sem] max2_int min2_int max_two min_two max_three min_three max_four min_four
set_option linter.unusedVariables false
set_option linter.unusedSimpArgs false
def laws_FnExactAddClue.f (k : Nat) (a0_0 : Int) (l0_1 : List (S23)) (a1_0 : Int) (a1_1 : Int) (a1_2 : Int) : Option (Bool) := (laws_szPuzzle.f a0_0 l0_1 1048576).bind fun t307 => (if t307 < 0 then (some true) else ((laws_toPuzzle.f k a0_0 l0_1).bind fun bt308 => ((laws_toClue.f a1_0 a1_1 a1_2).bind fun bt312 => ((spec_AddClue.f k bt308.1 bt308.2 bt312.1 bt312.2.1 bt312.2.2).bind fun bt315 => ((laws_toPuzzle.f k a0_0 l0_1).bind fun bt321 => ((laws_toClue.f a1_0 a1_1 a1_2).bind fun bt326 => ((impl_AddClue.f bt321.1 bt321.2 bt326.1 bt326.2.1 bt326.2.2).bind fun bt329 => ((laws_eqPuzzle.f k bt329.1 bt329.2.1 bt315.1 bt315.2.1).bind fun t335 => (if t335 = true then (if (bt329.2.2 != bt315.2.2) = true then (none) else ((laws_toPuzzle.f k a0_0 l0_1).bind fun bt336 => ((laws_eqPuzzle.f k bt321.1 bt321.2 bt336.1 bt336.2).bind fun t340 => (if t340 = true then ((laws_markPuzzle.f k bt321.1 bt321.2 1).bind fun bt341 => (if bt341.1 < 0 then (none) else ((laws_eqPuzzle.f k bt329.1 bt329.2.1 bt315.1 bt315.2.1).bind fun t343 => (if t343 = true then ((laws_markPuzzle.f k bt329.1 bt329.2.1 1).bind fun bt344 => ((laws_heldPuzzle.f k bt329.1 bt344.2 1).bind fun t346 => (if t346 < 0 then (none) else (if t346 = bt344.1 then ((laws_toPuzzle.f k a0_0 l0_1).bind fun bt347 => ((laws_toClue.f a1_0 a1_1 a1_2).bind fun bt351 => ((impl_AddClue.f bt347.1 bt347.2 bt351.1 bt351.2.1 bt351.2.2).bind fun bt354 => ((laws_eqPuzzle.f k bt354.1 bt354.2.1 bt315.1 bt315.2.1).bind fun t360 => (if t360 = true then (if (bt354.2.2 != bt315.2.2) = true then (none) else ((laws_heldPuzzle.f k bt329.1 bt344.2 1).bind fun t361 => (if t361 < 0 then (none) else (if t361 = bt344.1 then (some true) else (none))))) else (none)))))) else (none))))) else (none))))) else (none))))) else (none))))))))))
def laws_FnExactAddClue.T5 : Bool × List (List Nat × List Nat) := (true, [([], []), ([0], [0]), ([], []), ([2, 1], [2]), ([1, 3, 3], [1, 3]), ([4], [4]), ([5], [5]), ([5], [5]), ([], []), ([8, 6, 4, 0, 1, 2, 3, 4, 5, 6, 8], [6, 8]), ([7, 9, 0, 1, 2, 3, 4, 5, 6, 7, 8, 9], [7])])
def laws_FnExactAddClue.B5 : List Nat := [0, 1, 0, 7, 15, 31, 63, 63, 0, 383, 1023]
theorem laws_FnExactAddClue.tab5 : rtab .any (opsOf Try.f7 5) = laws_FnExactAddClue.T5 := by kernel_rfl
theorem laws_FnExactAddClue.bits5 : waitsOk laws_FnExactAddClue.T5.2 laws_FnExactAddClue.B5 = true := by kernel_rfl
def laws_FnExactAddClue.T7 : Bool × List (List Nat × List Nat) := (true, [([], []), ([], []), ([1], [1]), ([0, 2, 2], [0, 2]), ([3], [3]), ([4], [4]), ([4], [4]), ([], []), ([7, 5, 3, 0, 1, 2, 3, 4, 5, 7], [5, 7]), ([6, 8, 0, 1, 2, 3, 4, 5, 6, 7, 8], [6])])
def laws_FnExactAddClue.B7 : List Nat := [0, 0, 2, 7, 15, 31, 31, 0, 191, 511]
theorem laws_FnExactAddClue.tab7 : rtab .any (opsOf Try.f7 7) = laws_FnExactAddClue.T7 := by kernel_rfl
theorem laws_FnExactAddClue.bits7 : waitsOk laws_FnExactAddClue.T7.2 laws_FnExactAddClue.B7 = true := by kernel_rfl
def laws_FnExactAddClue.T24 : Bool × List (List Nat × List Nat) := (true, [([], []), ([0], [0]), ([], []), ([2, 1], [2]), ([1, 3, 3], [1, 3]), ([4], [4]), ([5], [5]), ([5], [5]), ([], []), ([8, 6, 4, 0, 1, 2, 3, 4, 5, 6, 8], [6, 8]), ([7, 9, 0, 1, 2, 3, 4, 5, 6, 7, 8, 9], [7])])
def laws_FnExactAddClue.B24 : List Nat := [0, 1, 0, 7, 15, 31, 63, 63, 0, 383, 1023]
theorem laws_FnExactAddClue.tab24 : rtab .any (opsOf Try.f7 24) = laws_FnExactAddClue.T24 := by kernel_rfl
theorem laws_FnExactAddClue.bits24 : waitsOk laws_FnExactAddClue.T24.2 laws_FnExactAddClue.B24 = true := by kernel_rfl
set_option maxHeartbeats 8000000 in
set_option maxRecDepth 100000 in
theorem laws_FnExactAddClue.calls (k : Nat) (a0_0 : Int) (A0_1 : Option Addr) (c0_1 : Nat) (l0_1 : List (S23)) (a1_0 : Int) (a1_1 : Int) (a1_2 : Int) (r : Bool) (w : World) (hr0_1 : Kd.C k23 w A0_1 l0_1.length l0_1) (hc0_1 : l0_1.length ≤ c0_1) (h : laws_FnExactAddClue.f k a0_0 l0_1 a1_0 a1_1 a1_2 = some r) :
  Calls Try.prog 7 #[.agg #[.int .i64 a0_0, .slice A0_1 l0_1.length c0_1], .agg #[.int .i64 a1_0, .int .i64 a1_1, .int .i64 a1_2]] w fun e w' => e = .returned (.bool r) ∧ Below w.heap.size w w' := by
 have hu40 := Try.underlying40
 have hu23 := Try.underlying23
 have hu45 := Try.underlying45
 have HR0_1 := Aside0.mk hr0_1
 have HC0_1 := Aside0.mk hc0_1
 clear hr0_1 hc0_1
 have HB := Aside0.mk (Below.refl w.heap.size w)
 have H : ((laws_szPuzzle.f a0_0 l0_1 1048576).bind fun t307 => (if t307 < 0 then (some true) else ((laws_toPuzzle.f k a0_0 l0_1).bind fun bt308 => ((laws_toClue.f a1_0 a1_1 a1_2).bind fun bt312 => ((spec_AddClue.f k bt308.1 bt308.2 bt312.1 bt312.2.1 bt312.2.2).bind fun bt315 => ((laws_toPuzzle.f k a0_0 l0_1).bind fun bt321 => ((laws_toClue.f a1_0 a1_1 a1_2).bind fun bt326 => ((impl_AddClue.f bt321.1 bt321.2 bt326.1 bt326.2.1 bt326.2.2).bind fun bt329 => ((laws_eqPuzzle.f k bt329.1 bt329.2.1 bt315.1 bt315.2.1).bind fun t335 => (if t335 = true then (if (bt329.2.2 != bt315.2.2) = true then (none) else ((laws_toPuzzle.f k a0_0 l0_1).bind fun bt336 => ((laws_eqPuzzle.f k bt321.1 bt321.2 bt336.1 bt336.2).bind fun t340 => (if t340 = true then ((laws_markPuzzle.f k bt321.1 bt321.2 1).bind fun bt341 => (if bt341.1 < 0 then (none) else ((laws_eqPuzzle.f k bt329.1 bt329.2.1 bt315.1 bt315.2.1).bind fun t343 => (if t343 = true then ((laws_markPuzzle.f k bt329.1 bt329.2.1 1).bind fun bt344 => ((laws_heldPuzzle.f k bt329.1 bt344.2 1).bind fun t346 => (if t346 < 0 then (none) else (if t346 = bt344.1 then ((laws_toPuzzle.f k a0_0 l0_1).bind fun bt347 => ((laws_toClue.f a1_0 a1_1 a1_2).bind fun bt351 => ((impl_AddClue.f bt347.1 bt347.2 bt351.1 bt351.2.1 bt351.2.2).bind fun bt354 => ((laws_eqPuzzle.f k bt354.1 bt354.2.1 bt315.1 bt315.2.1).bind fun t360 => (if t360 = true then (if (bt354.2.2 != bt315.2.2) = true then (none) else ((laws_heldPuzzle.f k bt329.1 bt344.2 1).bind fun t361 => (if t361 < 0 then (none) else (if t361 = bt344.1 then (some true) else (none))))) else (none)))))) else (none))))) else (none))))) else (none))))) else (none))))))))))) = some r := h
 clear h
 replace H := Option.bind_eq_some_iff.mp H
 obtain ⟨t307, A30, H⟩ := H
 replace H : (if t307 < 0 then (some true) else ((laws_toPuzzle.f k a0_0 l0_1).bind fun bt308 => ((laws_toClue.f a1_0 a1_1 a1_2).bind fun bt312 => ((spec_AddClue.f k bt308.1 bt308.2 bt312.1 bt312.2.1 bt312.2.2).bind fun bt315 => ((laws_toPuzzle.f k a0_0 l0_1).bind fun bt321 => ((laws_toClue.f a1_0 a1_1 a1_2).bind fun bt326 => ((impl_AddClue.f bt321.1 bt321.2 bt326.1 bt326.2.1 bt326.2.2).bind fun bt329 => ((laws_eqPuzzle.f k bt329.1 bt329.2.1 bt315.1 bt315.2.1).bind fun t335 => (if t335 = true then (if (bt329.2.2 != bt315.2.2) = true then (none) else ((laws_toPuzzle.f k a0_0 l0_1).bind fun bt336 => ((laws_eqPuzzle.f k bt321.1 bt321.2 bt336.1 bt336.2).bind fun t340 => (if t340 = true then ((laws_markPuzzle.f k bt321.1 bt321.2 1).bind fun bt341 => (if bt341.1 < 0 then (none) else ((laws_eqPuzzle.f k bt329.1 bt329.2.1 bt315.1 bt315.2.1).bind fun t343 => (if t343 = true then ((laws_markPuzzle.f k bt329.1 bt329.2.1 1).bind fun bt344 => ((laws_heldPuzzle.f k bt329.1 bt344.2 1).bind fun t346 => (if t346 < 0 then (none) else (if t346 = bt344.1 then ((laws_toPuzzle.f k a0_0 l0_1).bind fun bt347 => ((laws_toClue.f a1_0 a1_1 a1_2).bind fun bt351 => ((impl_AddClue.f bt347.1 bt347.2 bt351.1 bt351.2.1 bt351.2.2).bind fun bt354 => ((laws_eqPuzzle.f k bt354.1 bt354.2.1 bt315.1 bt315.2.1).bind fun t360 => (if t360 = true then (if (bt354.2.2 != bt315.2.2) = true then (none) else ((laws_heldPuzzle.f k bt329.1 bt344.2 1).bind fun t361 => (if t361 < 0 then (none) else (if t361 = bt344.1 then (some true) else (none))))) else (none)))))) else (none))))) else (none))))) else (none))))) else (none)))))))))) = some r := H
 have A3 := Aside0.mk A30
 clear A30
 by_cases c4 : t307 < 0
 ·rw [if_pos c4] at H
  have c4b0 : decide (t307 < 0) = true := decide_eq_true c4
  clear c4
  obtain rfl := Option.some.inj H
  go_enter Try.func7, Try.ntmps7
  go_wp2_with (first | ((with_reducible refine gate_dst (N := 2) rfl ?_); refine box_event ?hg (N := 2) ?hd (cs := #[.int .i64 a0_0, .slice A0_1 l0_1.length c0_1]) (t := 40) ?hr ?_; (case hd => rfl); (case hg => rfl); (case hr => first | (go_simp; done) | (go_simp; rfl)); intro gb305 hg w5 hbox hb; have n0_ := Aside0.mk (below_step (zh HB.out) hb); have n1_ := Aside0.mk (hbox); have n2_ := Aside0.mk ((by rw [hg]; exact (below_size (zh HB.out)) : w.heap.size ≤ gb305)); have n3_ := Aside0.mk ((by rw [hg]; exact (below_size (zh HB.out)) : w.heap.size ≤ gb305)); clear HB; have HB := n0_; have BK305 := n1_; have GW305 := n2_; have GE305 := n3_; clear n0_ n1_ n2_ n3_; clear hb hbox hg) | ((with_reducible refine gate_dst (N := 3) rfl ?_); refine box_event ?hg (N := 3) ?hd (cs := #[.int .i64 a1_0, .int .i64 a1_1, .int .i64 a1_2]) (t := 23) ?hr ?_; (case hd => rfl); (case hg => rfl); (case hr => first | (go_simp; done) | (go_simp; rfl)); intro gb306 hg w6 hbox hb; have n0_ := Aside0.mk (blk_below (g := gb305) (o := .cells #[.int .i64 a0_0, .slice A0_1 l0_1.length c0_1] 40 (0, 0)) (zb BK305.out) hb); have n1_ := Aside0.mk (below_step (zh HB.out) hb); have n2_ := Aside0.mk (hbox); have n3_ := Aside0.mk ((by rw [hg]; exact (below_size (zh HB.out)) : w.heap.size ≤ gb306)); have n4_ := Aside0.mk ((by rw [hg]; exact (below_size (zh HB.out)) : w.heap.size ≤ gb306)); have n5_ := Aside0.mk ((by rw [hg]; exact Nat.ne_of_lt (blk_lt (g := gb305) (o := .cells #[.int .i64 a0_0, .slice A0_1 l0_1.length c0_1] 40 (0, 0)) (zb BK305.out)) : gb305 ≠ gb306)); have n6_ := Aside0.mk ((by rw [hg]; exact Nat.ne_of_gt (blk_lt (g := gb305) (o := .cells #[.int .i64 a0_0, .slice A0_1 l0_1.length c0_1] 40 (0, 0)) (zb BK305.out)) : gb306 ≠ gb305)); clear BK305; clear HB; have BK305 := n0_; have HB := n1_; have BK306 := n2_; have GW306 := n3_; have GE306 := n4_; have NB305_306 := n5_; have NB306_305 := n6_; clear n0_ n1_ n2_ n3_ n4_ n5_ n6_; clear hb hbox hg; have hnb7 := NB305_306.out; have hnc7 := NB306_305.out; have hcz8_0 : w6.cell? ⟨gb305, 0, none⟩ = some (.int .i64 a0_0) := (blk_cell BK305.out 0).trans rfl; have hcz8_1 : w6.cell? ⟨gb305, 1, none⟩ = some (.slice A0_1 l0_1.length c0_1) := (blk_cell BK305.out 1).trans rfl; have hfz8_0 := blk_frozen BK305.out 0; have hfz8_1 := blk_frozen BK305.out 1) | ((with_reducible refine gate_callee (f := 20) rfl ?_); refine goesL_ (some 18) rfl rfl Try.func20 (by kernel_rfl) rfl #[.agg #[.int .i64 a0_0, .slice A0_1 l0_1.length c0_1], .int .i64 1048576] rfl (by (try simp only [List.map_toArray, List.map_cons, List.map_nil]); first | done | rfl | (simp only [List.length_drop, List.length_take]; rfl)) ?_; (with_reducible refine (laws_szPuzzle.calls a0_0 _ _ l0_1 1048576 t307 _ ?side1 ?side2 A3.out).mono ?_); (case side1 => repeat (first | exact (Kd.C_below HR0_1.out HB.out) | (with_reducible refine Kd.C_alloc ?_ _) | (with_reducible refine Kd.C_drewN ?_ _) | (with_reducible refine Kd.C_drew ?_))); (case side2 => exact HC0_1.out); rintro e w9 ⟨rfl, hb⟩; refine ⟨_, rfl, ?_⟩; have n0_ := Aside0.mk (blk_below (g := gb305) (o := .cells #[.int .i64 a0_0, .slice A0_1 l0_1.length c0_1] 40 (0, 0)) (zb BK305.out) hb); have n1_ := Aside0.mk (blk_below (g := gb306) (o := .cells #[.int .i64 a1_0, .int .i64 a1_1, .int .i64 a1_2] 23 (0, 0)) (zb BK306.out) hb); have n2_ := Aside0.mk (below_step (zh HB.out) hb); clear BK305; clear BK306; clear HB; have BK305 := n0_; have BK306 := n1_; have HB := n2_; clear n0_ n1_ n2_; (try clear hb); (try clear hb2); (try clear hk); (try clear hi)))
  go_ret
  exact ⟨by first | rfl | (simp [errW_none, errW_some] <;> rfl) | (simp [*, errW_none, errW_some] <;> rfl), by repeat (first | (with_reducible first | exact HB.out | apply below_alloc | apply pw_below_drewN | apply below_drew1 | refine below_set ?_ GE305.out | refine below_set ?_ GE306.out) | exact HB.out)⟩
 rw [if_neg c4] at H
 have c4b0 : decide (t307 < 0) = false := decide_eq_false c4
 clear c4
 replace H := Option.bind_eq_some_iff.mp H
 obtain ⟨⟨t308, t309⟩, A100, H⟩ := H
 replace H : ((laws_toClue.f a1_0 a1_1 a1_2).bind fun bt312 => ((spec_AddClue.f k t308 t309 bt312.1 bt312.2.1 bt312.2.2).bind fun bt315 => ((laws_toPuzzle.f k a0_0 l0_1).bind fun bt321 => ((laws_toClue.f a1_0 a1_1 a1_2).bind fun bt326 => ((impl_AddClue.f bt321.1 bt321.2 bt326.1 bt326.2.1 bt326.2.2).bind fun bt329 => ((laws_eqPuzzle.f k bt329.1 bt329.2.1 bt315.1 bt315.2.1).bind fun t335 => (if t335 = true then (if (bt329.2.2 != bt315.2.2) = true then (none) else ((laws_toPuzzle.f k a0_0 l0_1).bind fun bt336 => ((laws_eqPuzzle.f k bt321.1 bt321.2 bt336.1 bt336.2).bind fun t340 => (if t340 = true then ((laws_markPuzzle.f k bt321.1 bt321.2 1).bind fun bt341 => (if bt341.1 < 0 then (none) else ((laws_eqPuzzle.f k bt329.1 bt329.2.1 bt315.1 bt315.2.1).bind fun t343 => (if t343 = true then ((laws_markPuzzle.f k bt329.1 bt329.2.1 1).bind fun bt344 => ((laws_heldPuzzle.f k bt329.1 bt344.2 1).bind fun t346 => (if t346 < 0 then (none) else (if t346 = bt344.1 then ((laws_toPuzzle.f k a0_0 l0_1).bind fun bt347 => ((laws_toClue.f a1_0 a1_1 a1_2).bind fun bt351 => ((impl_AddClue.f bt347.1 bt347.2 bt351.1 bt351.2.1 bt351.2.2).bind fun bt354 => ((laws_eqPuzzle.f k bt354.1 bt354.2.1 bt315.1 bt315.2.1).bind fun t360 => (if t360 = true then (if (bt354.2.2 != bt315.2.2) = true then (none) else ((laws_heldPuzzle.f k bt329.1 bt344.2 1).bind fun t361 => (if t361 < 0 then (none) else (if t361 = bt344.1 then (some true) else (none))))) else (none)))))) else (none))))) else (none))))) else (none))))) else (none)))))))) = some r := H
 have A10 := Aside0.mk A100
 clear A100
 replace H := Option.bind_eq_some_iff.mp H
 obtain ⟨⟨t312, t313, t314⟩, A110, H⟩ := H
 replace H : ((spec_AddClue.f k t308 t309 t312 t313 t314).bind fun bt315 => ((laws_toPuzzle.f k a0_0 l0_1).bind fun bt321 => ((laws_toClue.f a1_0 a1_1 a1_2).bind fun bt326 => ((impl_AddClue.f bt321.1 bt321.2 bt326.1 bt326.2.1 bt326.2.2).bind fun bt329 => ((laws_eqPuzzle.f k bt329.1 bt329.2.1 bt315.1 bt315.2.1).bind fun t335 => (if t335 = true then (if (bt329.2.2 != bt315.2.2) = true then (none) else ((laws_toPuzzle.f k a0_0 l0_1).bind fun bt336 => ((laws_eqPuzzle.f k bt321.1 bt321.2 bt336.1 bt336.2).bind fun t340 => (if t340 = true then ((laws_markPuzzle.f k bt321.1 bt321.2 1).bind fun bt341 => (if bt341.1 < 0 then (none) else ((laws_eqPuzzle.f k bt329.1 bt329.2.1 bt315.1 bt315.2.1).bind fun t343 => (if t343 = true then ((laws_markPuzzle.f k bt329.1 bt329.2.1 1).bind fun bt344 => ((laws_heldPuzzle.f k bt329.1 bt344.2 1).bind fun t346 => (if t346 < 0 then (none) else (if t346 = bt344.1 then ((laws_toPuzzle.f k a0_0 l0_1).bind fun bt347 => ((laws_toClue.f a1_0 a1_1 a1_2).bind fun bt351 => ((impl_AddClue.f bt347.1 bt347.2 bt351.1 bt351.2.1 bt351.2.2).bind fun bt354 => ((laws_eqPuzzle.f k bt354.1 bt354.2.1 bt315.1 bt315.2.1).bind fun t360 => (if t360 = true then (if (bt354.2.2 != bt315.2.2) = true then (none) else ((laws_heldPuzzle.f k bt329.1 bt344.2 1).bind fun t361 => (if t361 < 0 then (none) else (if t361 = bt344.1 then (some true) else (none))))) else (none)))))) else (none))))) else (none))))) else (none))))) else (none))))))) = some r := H
 have A11 := Aside0.mk A110
 clear A110
 replace H := Option.bind_eq_some_iff.mp H
 obtain ⟨⟨t315, t316, t319⟩, A120, H⟩ := H
 replace H : ((laws_toPuzzle.f k a0_0 l0_1).bind fun bt321 => ((laws_toClue.f a1_0 a1_1 a1_2).bind fun bt326 => ((impl_AddClue.f bt321.1 bt321.2 bt326.1 bt326.2.1 bt326.2.2).bind fun bt329 => ((laws_eqPuzzle.f k bt329.1 bt329.2.1 t315 t316).bind fun t335 => (if t335 = true then (if (bt329.2.2 != t319) = true then (none) else ((laws_toPuzzle.f k a0_0 l0_1).bind fun bt336 => ((laws_eqPuzzle.f k bt321.1 bt321.2 bt336.1 bt336.2).bind fun t340 => (if t340 = true then ((laws_markPuzzle.f k bt321.1 bt321.2 1).bind fun bt341 => (if bt341.1 < 0 then (none) else ((laws_eqPuzzle.f k bt329.1 bt329.2.1 t315 t316).bind fun t343 => (if t343 = true then ((laws_markPuzzle.f k bt329.1 bt329.2.1 1).bind fun bt344 => ((laws_heldPuzzle.f k bt329.1 bt344.2 1).bind fun t346 => (if t346 < 0 then (none) else (if t346 = bt344.1 then ((laws_toPuzzle.f k a0_0 l0_1).bind fun bt347 => ((laws_toClue.f a1_0 a1_1 a1_2).bind fun bt351 => ((impl_AddClue.f bt347.1 bt347.2 bt351.1 bt351.2.1 bt351.2.2).bind fun bt354 => ((laws_eqPuzzle.f k bt354.1 bt354.2.1 t315 t316).bind fun t360 => (if t360 = true then (if (bt354.2.2 != t319) = true then (none) else ((laws_heldPuzzle.f k bt329.1 bt344.2 1).bind fun t361 => (if t361 < 0 then (none) else (if t361 = bt344.1 then (some true) else (none))))) else (none)))))) else (none))))) else (none))))) else (none))))) else (none)))))) = some r := H
 have A12 := Aside0.mk A120
 clear A120
 replace H := Option.bind_eq_some_iff.mp H
 obtain ⟨⟨t321, t322⟩, A130, H⟩ := H
 replace H : ((laws_toClue.f a1_0 a1_1 a1_2).bind fun bt326 => ((impl_AddClue.f t321 t322 bt326.1 bt326.2.1 bt326.2.2).bind fun bt329 => ((laws_eqPuzzle.f k bt329.1 bt329.2.1 t315 t316).bind fun t335 => (if t335 = true then (if (bt329.2.2 != t319) = true then (none) else ((laws_toPuzzle.f k a0_0 l0_1).bind fun bt336 => ((laws_eqPuzzle.f k t321 t322 bt336.1 bt336.2).bind fun t340 => (if t340 = true then ((laws_markPuzzle.f k t321 t322 1).bind fun bt341 => (if bt341.1 < 0 then (none) else ((laws_eqPuzzle.f k bt329.1 bt329.2.1 t315 t316).bind fun t343 => (if t343 = true then ((laws_markPuzzle.f k bt329.1 bt329.2.1 1).bind fun bt344 => ((laws_heldPuzzle.f k bt329.1 bt344.2 1).bind fun t346 => (if t346 < 0 then (none) else (if t346 = bt344.1 then ((laws_toPuzzle.f k a0_0 l0_1).bind fun bt347 => ((laws_toClue.f a1_0 a1_1 a1_2).bind fun bt351 => ((impl_AddClue.f bt347.1 bt347.2 bt351.1 bt351.2.1 bt351.2.2).bind fun bt354 => ((laws_eqPuzzle.f k bt354.1 bt354.2.1 t315 t316).bind fun t360 => (if t360 = true then (if (bt354.2.2 != t319) = true then (none) else ((laws_heldPuzzle.f k bt329.1 bt344.2 1).bind fun t361 => (if t361 < 0 then (none) else (if t361 = bt344.1 then (some true) else (none))))) else (none)))))) else (none))))) else (none))))) else (none))))) else (none))))) = some r := H
 have A13 := Aside0.mk A130
 clear A130
 replace H := Option.bind_eq_some_iff.mp H
 obtain ⟨⟨t326, t327, t328⟩, A140, H⟩ := H
 replace H : ((impl_AddClue.f t321 t322 t326 t327 t328).bind fun bt329 => ((laws_eqPuzzle.f k bt329.1 bt329.2.1 t315 t316).bind fun t335 => (if t335 = true then (if (bt329.2.2 != t319) = true then (none) else ((laws_toPuzzle.f k a0_0 l0_1).bind fun bt336 => ((laws_eqPuzzle.f k t321 t322 bt336.1 bt336.2).bind fun t340 => (if t340 = true then ((laws_markPuzzle.f k t321 t322 1).bind fun bt341 => (if bt341.1 < 0 then (none) else ((laws_eqPuzzle.f k bt329.1 bt329.2.1 t315 t316).bind fun t343 => (if t343 = true then ((laws_markPuzzle.f k bt329.1 bt329.2.1 1).bind fun bt344 => ((laws_heldPuzzle.f k bt329.1 bt344.2 1).bind fun t346 => (if t346 < 0 then (none) else (if t346 = bt344.1 then ((laws_toPuzzle.f k a0_0 l0_1).bind fun bt347 => ((laws_toClue.f a1_0 a1_1 a1_2).bind fun bt351 => ((impl_AddClue.f bt347.1 bt347.2 bt351.1 bt351.2.1 bt351.2.2).bind fun bt354 => ((laws_eqPuzzle.f k bt354.1 bt354.2.1 t315 t316).bind fun t360 => (if t360 = true then (if (bt354.2.2 != t319) = true then (none) else ((laws_heldPuzzle.f k bt329.1 bt344.2 1).bind fun t361 => (if t361 < 0 then (none) else (if t361 = bt344.1 then (some true) else (none))))) else (none)))))) else (none))))) else (none))))) else (none))))) else (none)))) = some r := H
 have A14 := Aside0.mk A140
 clear A140
 replace H := Option.bind_eq_some_iff.mp H
 obtain ⟨⟨t329, t330, t333⟩, A150, H⟩ := H
 replace H : ((laws_eqPuzzle.f k t329 t330 t315 t316).bind fun t335 => (if t335 = true then (if (t333 != t319) = true then (none) else ((laws_toPuzzle.f k a0_0 l0_1).bind fun bt336 => ((laws_eqPuzzle.f k t321 t322 bt336.1 bt336.2).bind fun t340 => (if t340 = true then ((laws_markPuzzle.f k t321 t322 1).bind fun bt341 => (if bt341.1 < 0 then (none) else ((laws_eqPuzzle.f k t329 t330 t315 t316).bind fun t343 => (if t343 = true then ((laws_markPuzzle.f k t329 t330 1).bind fun bt344 => ((laws_heldPuzzle.f k t329 bt344.2 1).bind fun t346 => (if t346 < 0 then (none) else (if t346 = bt344.1 then ((laws_toPuzzle.f k a0_0 l0_1).bind fun bt347 => ((laws_toClue.f a1_0 a1_1 a1_2).bind fun bt351 => ((impl_AddClue.f bt347.1 bt347.2 bt351.1 bt351.2.1 bt351.2.2).bind fun bt354 => ((laws_eqPuzzle.f k bt354.1 bt354.2.1 t315 t316).bind fun t360 => (if t360 = true then (if (bt354.2.2 != t319) = true then (none) else ((laws_heldPuzzle.f k t329 bt344.2 1).bind fun t361 => (if t361 < 0 then (none) else (if t361 = bt344.1 then (some true) else (none))))) else (none)))))) else (none))))) else (none))))) else (none))))) else (none))) = some r := H
 have A15 := Aside0.mk A150
 clear A150
 replace H := Option.bind_eq_some_iff.mp H
 obtain ⟨t335, A160, H⟩ := H
 replace H : (if t335 = true then (if (t333 != t319) = true then (none) else ((laws_toPuzzle.f k a0_0 l0_1).bind fun bt336 => ((laws_eqPuzzle.f k t321 t322 bt336.1 bt336.2).bind fun t340 => (if t340 = true then ((laws_markPuzzle.f k t321 t322 1).bind fun bt341 => (if bt341.1 < 0 then (none) else ((laws_eqPuzzle.f k t329 t330 t315 t316).bind fun t343 => (if t343 = true then ((laws_markPuzzle.f k t329 t330 1).bind fun bt344 => ((laws_heldPuzzle.f k t329 bt344.2 1).bind fun t346 => (if t346 < 0 then (none) else (if t346 = bt344.1 then ((laws_toPuzzle.f k a0_0 l0_1).bind fun bt347 => ((laws_toClue.f a1_0 a1_1 a1_2).bind fun bt351 => ((impl_AddClue.f bt347.1 bt347.2 bt351.1 bt351.2.1 bt351.2.2).bind fun bt354 => ((laws_eqPuzzle.f k bt354.1 bt354.2.1 t315 t316).bind fun t360 => (if t360 = true then (if (bt354.2.2 != t319) = true then (none) else ((laws_heldPuzzle.f k t329 bt344.2 1).bind fun t361 => (if t361 < 0 then (none) else (if t361 = bt344.1 then (some true) else (none))))) else (none)))))) else (none))))) else (none))))) else (none))))) else (none)) = some r := H
 have A16 := Aside0.mk A160
 clear A160
 by_cases c17 : t335 = true
 rotate_left
 ·replace c17 := Bool.eq_false_iff.mpr c17
  subst c17
  have H1 : (none) = some r := by rw [if_neg (show ¬ (false = true) by decide)] at H; exact H
  clear H
  have H := H1
  clear H1
  exact absurd H (by simp)
 subst c17
 have H1 : (if (t333 != t319) = true then (none) else ((laws_toPuzzle.f k a0_0 l0_1).bind fun bt336 => ((laws_eqPuzzle.f k t321 t322 bt336.1 bt336.2).bind fun t340 => (if t340 = true then ((laws_markPuzzle.f k t321 t322 1).bind fun bt341 => (if bt341.1 < 0 then (none) else ((laws_eqPuzzle.f k t329 t330 t315 t316).bind fun t343 => (if t343 = true then ((laws_markPuzzle.f k t329 t330 1).bind fun bt344 => ((laws_heldPuzzle.f k t329 bt344.2 1).bind fun t346 => (if t346 < 0 then (none) else (if t346 = bt344.1 then ((laws_toPuzzle.f k a0_0 l0_1).bind fun bt347 => ((laws_toClue.f a1_0 a1_1 a1_2).bind fun bt351 => ((impl_AddClue.f bt347.1 bt347.2 bt351.1 bt351.2.1 bt351.2.2).bind fun bt354 => ((laws_eqPuzzle.f k bt354.1 bt354.2.1 t315 t316).bind fun t360 => (if t360 = true then (if (bt354.2.2 != t319) = true then (none) else ((laws_heldPuzzle.f k t329 bt344.2 1).bind fun t361 => (if t361 < 0 then (none) else (if t361 = bt344.1 then (some true) else (none))))) else (none)))))) else (none))))) else (none))))) else (none))))) = some r := by rw [if_pos rfl] at H; exact H
 clear H
 have H := H1
 clear H1
 by_cases c18 : (t333 != t319) = true
 ·rw [if_pos c18] at H
  exact absurd H (by simp)
 rw [if_neg c18] at H
 have c18b0 : (t333 != t319) = false := by simpa using c18
 (try (have c18b1 : decide (t333 = t319) = true := by simpa using c18))
 (try (have c18b2 : (t333 == t319) = true := by simpa using c18))
 clear c18
 replace H := Option.bind_eq_some_iff.mp H
 obtain ⟨⟨t336, t337⟩, A190, H⟩ := H
 replace H : ((laws_eqPuzzle.f k t321 t322 t336 t337).bind fun t340 => (if t340 = true then ((laws_markPuzzle.f k t321 t322 1).bind fun bt341 => (if bt341.1 < 0 then (none) else ((laws_eqPuzzle.f k t329 t330 t315 t316).bind fun t343 => (if t343 = true then ((laws_markPuzzle.f k t329 t330 1).bind fun bt344 => ((laws_heldPuzzle.f k t329 bt344.2 1).bind fun t346 => (if t346 < 0 then (none) else (if t346 = bt344.1 then ((laws_toPuzzle.f k a0_0 l0_1).bind fun bt347 => ((laws_toClue.f a1_0 a1_1 a1_2).bind fun bt351 => ((impl_AddClue.f bt347.1 bt347.2 bt351.1 bt351.2.1 bt351.2.2).bind fun bt354 => ((laws_eqPuzzle.f k bt354.1 bt354.2.1 t315 t316).bind fun t360 => (if t360 = true then (if (bt354.2.2 != t319) = true then (none) else ((laws_heldPuzzle.f k t329 bt344.2 1).bind fun t361 => (if t361 < 0 then (none) else (if t361 = bt344.1 then (some true) else (none))))) else (none)))))) else (none))))) else (none))))) else (none))) = some r := H
 have A19 := Aside0.mk A190
 clear A190
 replace H := Option.bind_eq_some_iff.mp H
 obtain ⟨t340, A200, H⟩ := H
 replace H : (if t340 = true then ((laws_markPuzzle.f k t321 t322 1).bind fun bt341 => (if bt341.1 < 0 then (none) else ((laws_eqPuzzle.f k t329 t330 t315 t316).bind fun t343 => (if t343 = true then ((laws_markPuzzle.f k t329 t330 1).bind fun bt344 => ((laws_heldPuzzle.f k t329 bt344.2 1).bind fun t346 => (if t346 < 0 then (none) else (if t346 = bt344.1 then ((laws_toPuzzle.f k a0_0 l0_1).bind fun bt347 => ((laws_toClue.f a1_0 a1_1 a1_2).bind fun bt351 => ((impl_AddClue.f bt347.1 bt347.2 bt351.1 bt351.2.1 bt351.2.2).bind fun bt354 => ((laws_eqPuzzle.f k bt354.1 bt354.2.1 t315 t316).bind fun t360 => (if t360 = true then (if (bt354.2.2 != t319) = true then (none) else ((laws_heldPuzzle.f k t329 bt344.2 1).bind fun t361 => (if t361 < 0 then (none) else (if t361 = bt344.1 then (some true) else (none))))) else (none)))))) else (none))))) else (none))))) else (none)) = some r := H
 have A20 := Aside0.mk A200
 clear A200
 by_cases c21 : t340 = true
 rotate_left
 ·replace c21 := Bool.eq_false_iff.mpr c21
  subst c21
  have H1 : (none) = some r := by rw [if_neg (show ¬ (false = true) by decide)] at H; exact H
  clear H
  have H := H1
  clear H1
  exact absurd H (by simp)
 subst c21
 have H1 : ((laws_markPuzzle.f k t321 t322 1).bind fun bt341 => (if bt341.1 < 0 then (none) else ((laws_eqPuzzle.f k t329 t330 t315 t316).bind fun t343 => (if t343 = true then ((laws_markPuzzle.f k t329 t330 1).bind fun bt344 => ((laws_heldPuzzle.f k t329 bt344.2 1).bind fun t346 => (if t346 < 0 then (none) else (if t346 = bt344.1 then ((laws_toPuzzle.f k a0_0 l0_1).bind fun bt347 => ((laws_toClue.f a1_0 a1_1 a1_2).bind fun bt351 => ((impl_AddClue.f bt347.1 bt347.2 bt351.1 bt351.2.1 bt351.2.2).bind fun bt354 => ((laws_eqPuzzle.f k bt354.1 bt354.2.1 t315 t316).bind fun t360 => (if t360 = true then (if (bt354.2.2 != t319) = true then (none) else ((laws_heldPuzzle.f k t329 bt344.2 1).bind fun t361 => (if t361 < 0 then (none) else (if t361 = bt344.1 then (some true) else (none))))) else (none)))))) else (none))))) else (none))))) = some r := by rw [if_pos rfl] at H; exact H
 clear H
 have H := H1
 clear H1
 replace H := Option.bind_eq_some_iff.mp H
 obtain ⟨⟨t341, t342⟩, A220, H⟩ := H
 replace H : (if t341 < 0 then (none) else ((laws_eqPuzzle.f k t329 t330 t315 t316).bind fun t343 => (if t343 = true then ((laws_markPuzzle.f k t329 t330 1).bind fun bt344 => ((laws_heldPuzzle.f k t329 bt344.2 1).bind fun t346 => (if t346 < 0 then (none) else (if t346 = bt344.1 then ((laws_toPuzzle.f k a0_0 l0_1).bind fun bt347 => ((laws_toClue.f a1_0 a1_1 a1_2).bind fun bt351 => ((impl_AddClue.f bt347.1 bt347.2 bt351.1 bt351.2.1 bt351.2.2).bind fun bt354 => ((laws_eqPuzzle.f k bt354.1 bt354.2.1 t315 t316).bind fun t360 => (if t360 = true then (if (bt354.2.2 != t319) = true then (none) else ((laws_heldPuzzle.f k t329 bt344.2 1).bind fun t361 => (if t361 < 0 then (none) else (if t361 = bt344.1 then (some true) else (none))))) else (none)))))) else (none))))) else (none)))) = some r := H
 have A22 := Aside0.mk A220
 clear A220
 by_cases c23 : t341 < 0
 ·rw [if_pos c23] at H
  exact absurd H (by simp)
 rw [if_neg c23] at H
 have c23b0 : decide (t341 < 0) = false := decide_eq_false c23
 clear c23
 replace H := Option.bind_eq_some_iff.mp H
 obtain ⟨t343, A240, H⟩ := H
 replace H : (if t343 = true then ((laws_markPuzzle.f k t329 t330 1).bind fun bt344 => ((laws_heldPuzzle.f k t329 bt344.2 1).bind fun t346 => (if t346 < 0 then (none) else (if t346 = bt344.1 then ((laws_toPuzzle.f k a0_0 l0_1).bind fun bt347 => ((laws_toClue.f a1_0 a1_1 a1_2).bind fun bt351 => ((impl_AddClue.f bt347.1 bt347.2 bt351.1 bt351.2.1 bt351.2.2).bind fun bt354 => ((laws_eqPuzzle.f k bt354.1 bt354.2.1 t315 t316).bind fun t360 => (if t360 = true then (if (bt354.2.2 != t319) = true then (none) else ((laws_heldPuzzle.f k t329 bt344.2 1).bind fun t361 => (if t361 < 0 then (none) else (if t361 = bt344.1 then (some true) else (none))))) else (none)))))) else (none))))) else (none)) = some r := H
 have A24 := Aside0.mk A240
 clear A240
 by_cases c25 : t343 = true
 rotate_left
 ·replace c25 := Bool.eq_false_iff.mpr c25
  subst c25
  have H1 : (none) = some r := by rw [if_neg (show ¬ (false = true) by decide)] at H; exact H
  clear H
  have H := H1
  clear H1
  exact absurd H (by simp)
 subst c25
 have H1 : ((laws_markPuzzle.f k t329 t330 1).bind fun bt344 => ((laws_heldPuzzle.f k t329 bt344.2 1).bind fun t346 => (if t346 < 0 then (none) else (if t346 = bt344.1 then ((laws_toPuzzle.f k a0_0 l0_1).bind fun bt347 => ((laws_toClue.f a1_0 a1_1 a1_2).bind fun bt351 => ((impl_AddClue.f bt347.1 bt347.2 bt351.1 bt351.2.1 bt351.2.2).bind fun bt354 => ((laws_eqPuzzle.f k bt354.1 bt354.2.1 t315 t316).bind fun t360 => (if t360 = true then (if (bt354.2.2 != t319) = true then (none) else ((laws_heldPuzzle.f k t329 bt344.2 1).bind fun t361 => (if t361 < 0 then (none) else (if t361 = bt344.1 then (some true) else (none))))) else (none)))))) else (none))))) = some r := by rw [if_pos rfl] at H; exact H
 clear H
 have H := H1
 clear H1
 replace H := Option.bind_eq_some_iff.mp H
 obtain ⟨⟨t344, t345⟩, A260, H⟩ := H
 replace H : ((laws_heldPuzzle.f k t329 t345 1).bind fun t346 => (if t346 < 0 then (none) else (if t346 = t344 then ((laws_toPuzzle.f k a0_0 l0_1).bind fun bt347 => ((laws_toClue.f a1_0 a1_1 a1_2).bind fun bt351 => ((impl_AddClue.f bt347.1 bt347.2 bt351.1 bt351.2.1 bt351.2.2).bind fun bt354 => ((laws_eqPuzzle.f k bt354.1 bt354.2.1 t315 t316).bind fun t360 => (if t360 = true then (if (bt354.2.2 != t319) = true then (none) else ((laws_heldPuzzle.f k t329 t345 1).bind fun t361 => (if t361 < 0 then (none) else (if t361 = t344 then (some true) else (none))))) else (none)))))) else (none)))) = some r := H
 have A26 := Aside0.mk A260
 clear A260
 replace H := Option.bind_eq_some_iff.mp H
 obtain ⟨t346, A270, H⟩ := H
 replace H : (if t346 < 0 then (none) else (if t346 = t344 then ((laws_toPuzzle.f k a0_0 l0_1).bind fun bt347 => ((laws_toClue.f a1_0 a1_1 a1_2).bind fun bt351 => ((impl_AddClue.f bt347.1 bt347.2 bt351.1 bt351.2.1 bt351.2.2).bind fun bt354 => ((laws_eqPuzzle.f k bt354.1 bt354.2.1 t315 t316).bind fun t360 => (if t360 = true then (if (bt354.2.2 != t319) = true then (none) else ((laws_heldPuzzle.f k t329 t345 1).bind fun t361 => (if t361 < 0 then (none) else (if t361 = t344 then (some true) else (none))))) else (none)))))) else (none))) = some r := H
 have A27 := Aside0.mk A270
 clear A270
 by_cases c28 : t346 < 0
 ·rw [if_pos c28] at H
  exact absurd H (by simp)
 rw [if_neg c28] at H
 have c28b0 : decide (t346 < 0) = false := decide_eq_false c28
 clear c28
 by_cases c29 : t346 = t344
 rotate_left
 ·rw [if_neg c29] at H
  exact absurd H (by simp)
 rw [if_pos c29] at H
 have c29b0 : (t346 == t344) = true := beq_iff_eq.mpr c29
 have c29b1 : (t346 != t344) = false := bne_eq_false_iff_eq.mpr c29
 clear c29
 replace H := Option.bind_eq_some_iff.mp H
 obtain ⟨⟨t347, t348⟩, A300, H⟩ := H
 replace H : ((laws_toClue.f a1_0 a1_1 a1_2).bind fun bt351 => ((impl_AddClue.f t347 t348 bt351.1 bt351.2.1 bt351.2.2).bind fun bt354 => ((laws_eqPuzzle.f k bt354.1 bt354.2.1 t315 t316).bind fun t360 => (if t360 = true then (if (bt354.2.2 != t319) = true then (none) else ((laws_heldPuzzle.f k t329 t345 1).bind fun t361 => (if t361 < 0 then (none) else (if t361 = t344 then (some true) else (none))))) else (none))))) = some r := H
 have A30 := Aside0.mk A300
 clear A300
 replace H := Option.bind_eq_some_iff.mp H
 obtain ⟨⟨t351, t352, t353⟩, A310, H⟩ := H
 replace H : ((impl_AddClue.f t347 t348 t351 t352 t353).bind fun bt354 => ((laws_eqPuzzle.f k bt354.1 bt354.2.1 t315 t316).bind fun t360 => (if t360 = true then (if (bt354.2.2 != t319) = true then (none) else ((laws_heldPuzzle.f k t329 t345 1).bind fun t361 => (if t361 < 0 then (none) else (if t361 = t344 then (some true) else (none))))) else (none)))) = some r := H
 have A31 := Aside0.mk A310
 clear A310
 replace H := Option.bind_eq_some_iff.mp H
 obtain ⟨⟨t354, t355, t358⟩, A320, H⟩ := H
 replace H : ((laws_eqPuzzle.f k t354 t355 t315 t316).bind fun t360 => (if t360 = true then (if (t358 != t319) = true then (none) else ((laws_heldPuzzle.f k t329 t345 1).bind fun t361 => (if t361 < 0 then (none) else (if t361 = t344 then (some true) else (none))))) else (none))) = some r := H
 have A32 := Aside0.mk A320
 clear A320
 replace H := Option.bind_eq_some_iff.mp H
 obtain ⟨t360, A330, H⟩ := H
 replace H : (if t360 = true then (if (t358 != t319) = true then (none) else ((laws_heldPuzzle.f k t329 t345 1).bind fun t361 => (if t361 < 0 then (none) else (if t361 = t344 then (some true) else (none))))) else (none)) = some r := H
 have A33 := Aside0.mk A330
 clear A330
 by_cases c34 : t360 = true
 rotate_left
 ·replace c34 := Bool.eq_false_iff.mpr c34
  subst c34
  have H1 : (none) = some r := by rw [if_neg (show ¬ (false = true) by decide)] at H; exact H
  clear H
  have H := H1
  clear H1
  exact absurd H (by simp)
 subst c34
 have H1 : (if (t358 != t319) = true then (none) else ((laws_heldPuzzle.f k t329 t345 1).bind fun t361 => (if t361 < 0 then (none) else (if t361 = t344 then (some true) else (none))))) = some r := by rw [if_pos rfl] at H; exact H
 clear H
 have H := H1
 clear H1
 by_cases c35 : (t358 != t319) = true
 ·rw [if_pos c35] at H
  exact absurd H (by simp)
 rw [if_neg c35] at H
 have c35b0 : (t358 != t319) = false := by simpa using c35
 (try (have c35b1 : decide (t358 = t319) = true := by simpa using c35))
 (try (have c35b2 : (t358 == t319) = true := by simpa using c35))
 clear c35
 replace H := Option.bind_eq_some_iff.mp H
 obtain ⟨t361, A360, H⟩ := H
 replace H : (if t361 < 0 then (none) else (if t361 = t344 then (some true) else (none))) = some r := H
 have A36 := Aside0.mk A360
 clear A360
 by_cases c37 : t361 < 0
 ·rw [if_pos c37] at H
  exact absurd H (by simp)
 rw [if_neg c37] at H
 have c37b0 : decide (t361 < 0) = false := decide_eq_false c37
 clear c37
 by_cases c38 : t361 = t344
 rotate_left
 ·rw [if_neg c38] at H
  exact absurd H (by simp)
 rw [if_pos c38] at H
 have c38b0 : (t361 == t344) = true := beq_iff_eq.mpr c38
 have c38b1 : (t361 != t344) = false := bne_eq_false_iff_eq.mpr c38
 clear c38
 obtain rfl := Option.some.inj H
 go_enter Try.func7, Try.ntmps7
 try go_wp2_with (first | ((with_reducible refine gate_dst (N := 2) rfl ?_); refine box_event ?hg (N := 2) ?hd (cs := #[.int .i64 a0_0, .slice A0_1 l0_1.length c0_1]) (t := 40) ?hr ?_; (case hd => rfl); (case hg => rfl); (case hr => first | (go_simp; done) | (go_simp; rfl)); intro gb305 hg w39 hbox hb; have n0_ := Aside0.mk (below_step (zh HB.out) hb); have n1_ := Aside0.mk (hbox); have n2_ := Aside0.mk ((by rw [hg]; exact (below_size (zh HB.out)) : w.heap.size ≤ gb305)); have n3_ := Aside0.mk ((by rw [hg]; exact (below_size (zh HB.out)) : w.heap.size ≤ gb305)); clear HB; have HB := n0_; have BK305 := n1_; have GW305 := n2_; have GE305 := n3_; clear n0_ n1_ n2_ n3_; clear hb hbox hg) | ((with_reducible refine gate_dst (N := 3) rfl ?_); refine box_event ?hg (N := 3) ?hd (cs := #[.int .i64 a1_0, .int .i64 a1_1, .int .i64 a1_2]) (t := 23) ?hr ?_; (case hd => rfl); (case hg => rfl); (case hr => first | (go_simp; done) | (go_simp; rfl)); intro gb306 hg w40 hbox hb; have n0_ := Aside0.mk (blk_below (g := gb305) (o := .cells #[.int .i64 a0_0, .slice A0_1 l0_1.length c0_1] 40 (0, 0)) (zb BK305.out) hb); have n1_ := Aside0.mk (below_step (zh HB.out) hb); have n2_ := Aside0.mk (hbox); have n3_ := Aside0.mk ((by rw [hg]; exact (below_size (zh HB.out)) : w.heap.size ≤ gb306)); have n4_ := Aside0.mk ((by rw [hg]; exact (below_size (zh HB.out)) : w.heap.size ≤ gb306)); have n5_ := Aside0.mk ((by rw [hg]; exact Nat.ne_of_lt (blk_lt (g := gb305) (o := .cells #[.int .i64 a0_0, .slice A0_1 l0_1.length c0_1] 40 (0, 0)) (zb BK305.out)) : gb305 ≠ gb306)); have n6_ := Aside0.mk ((by rw [hg]; exact Nat.ne_of_gt (blk_lt (g := gb305) (o := .cells #[.int .i64 a0_0, .slice A0_1 l0_1.length c0_1] 40 (0, 0)) (zb BK305.out)) : gb306 ≠ gb305)); clear BK305; clear HB; have BK305 := n0_; have HB := n1_; have BK306 := n2_; have GW306 := n3_; have GE306 := n4_; have NB305_306 := n5_; have NB306_305 := n6_; clear n0_ n1_ n2_ n3_ n4_ n5_ n6_; clear hb hbox hg; have hnb41 := NB305_306.out; have hnc41 := NB306_305.out; have hcz42_0 : w40.cell? ⟨gb305, 0, none⟩ = some (.int .i64 a0_0) := (blk_cell BK305.out 0).trans rfl; have hcz42_1 : w40.cell? ⟨gb305, 1, none⟩ = some (.slice A0_1 l0_1.length c0_1) := (blk_cell BK305.out 1).trans rfl; have hfz42_0 := blk_frozen BK305.out 0; have hfz42_1 := blk_frozen BK305.out 1) | ((with_reducible refine gate_callee (f := 20) rfl ?_); refine goesL_ (some 18) rfl rfl Try.func20 (by kernel_rfl) rfl #[.agg #[.int .i64 a0_0, .slice A0_1 l0_1.length c0_1], .int .i64 1048576] rfl (by (try simp only [List.map_toArray, List.map_cons, List.map_nil]); first | done | rfl | (simp only [List.length_drop, List.length_take]; rfl)) ?_; (with_reducible refine (laws_szPuzzle.calls a0_0 _ _ l0_1 1048576 t307 _ ?side1 ?side2 A3.out).mono ?_); (case side1 => repeat (first | exact (Kd.C_below HR0_1.out HB.out) | (with_reducible refine Kd.C_alloc ?_ _) | (with_reducible refine Kd.C_drewN ?_ _) | (with_reducible refine Kd.C_drew ?_))); (case side2 => exact HC0_1.out); rintro e w43 ⟨rfl, hb⟩; refine ⟨_, rfl, ?_⟩; have n0_ := Aside0.mk (blk_below (g := gb305) (o := .cells #[.int .i64 a0_0, .slice A0_1 l0_1.length c0_1] 40 (0, 0)) (zb BK305.out) hb); have n1_ := Aside0.mk (blk_below (g := gb306) (o := .cells #[.int .i64 a1_0, .int .i64 a1_1, .int .i64 a1_2] 23 (0, 0)) (zb BK306.out) hb); have n2_ := Aside0.mk (below_step (zh HB.out) hb); clear BK305; clear BK306; clear HB; have BK305 := n0_; have BK306 := n1_; have HB := n2_; clear n0_ n1_ n2_; (try clear hb); (try clear hb2); (try clear hk); (try clear hi)))
 have n0_ := Aside0.mk (blk_drew BK305.out)
 have n1_ := Aside0.mk (blk_drew BK306.out)
 have n2_ := Aside0.mk (below_drew1 HB.out)
 clear BK305
 clear BK306
 clear HB
 have BK305 := n0_
 have BK306 := n1_
 have HB := n2_
 clear n0_ n1_ n2_
 refine start_ (n := 11) (S := fun w' => w'.cell? ⟨gb305, 0, none⟩ = some (.int .i64 a0_0) ∧ w'.cell? ⟨gb305, 1, none⟩ = some (.slice A0_1 l0_1.length c0_1) ∧ w'.cell? ⟨gb306, 0, none⟩ = some (.int .i64 a1_0) ∧ w'.cell? ⟨gb306, 1, none⟩ = some (.int .i64 a1_1) ∧ w'.cell? ⟨gb306, 2, none⟩ = some (.int .i64 a1_2)) (ds := []) #[false, false, false, false, false, false, false, false, false, false, false] (by kernel_rfl) rfl rfl ⟨(blk_cell BK305.out 0).trans rfl, (blk_cell BK305.out 1).trans rfl, (blk_cell BK306.out 0).trans rfl, (blk_cell BK306.out 1).trans rfl, (blk_cell BK306.out 2).trans rfl⟩ (fun hHeld => ?_); refine with_tabW laws_FnExactAddClue.tab5 laws_FnExactAddClue.bits5 (fun HT_ HW_ => ?_)
 generalize w43.drew = w44 at BK305 BK306 HB hHeld ⊢
 refine take_ (i := 0) (N := some 22) (v := ?_) (a' := ?_) #[true, false, false, false, false, false, false, false, false, false, false] rfl rfl (take_ofW HT_.out HW_.out (by kernel_rfl)) (fun _ _ _ h => h) (Or.inl ⟨by rfl, ?_⟩) hHeld ?_ ?_
 rotate_left
 ·rintro w' ⟨s0, s1, s2, s3, s4⟩
  go_simp
  with_reducible rfl
 rotate_left
 ·simp only [Act.put, List.setIfInBounds_toArray, List.set_cons_zero, List.set_cons_succ, i64_w, i32_w]
  rfl
 refine take_ (i := 2) (N := some 24) (v := ?_) (a' := ?_) #[true, false, true, false, false, false, false, false, false, false, false] rfl rfl (take_ofW HT_.out HW_.out (by kernel_rfl)) (fun _ _ _ h => h) (Or.inl ⟨by rfl, ?_⟩) hHeld ?_ ?_
 rotate_left
 ·rintro w' ⟨s0, s1, s2, s3, s4⟩
  go_simp
  with_reducible rfl
 rotate_left
 ·simp only [Act.put, List.setIfInBounds_toArray, List.set_cons_zero, List.set_cons_succ, i64_w, i32_w]
  rfl
 refine join_ (σ := Value × Value × Nat) 2 #[true, true, true, true, true, true, true, true, true, false, false] (fun s_ => [(23, .agg #[.int .i64 t308, s_.1]), (25, .agg #[.int .i64 t312, .int .i64 t313, .int .i64 t314]), (26, .tuple #[.agg #[.int .i64 t315, s_.2.1], .bool t319]), (6, .pointer (some ⟨s_.2.2, 0, none⟩)), (21, .tuple #[.agg #[.int .i64 t315, s_.2.1], .bool t319]), (27, .agg #[.int .i64 t315, s_.2.1]), (28, .bool t319)]) (fun s_ w' => (w'.cell? ⟨gb305, 0, none⟩ = some (.int .i64 a0_0) ∧ w'.cell? ⟨gb305, 1, none⟩ = some (.slice A0_1 l0_1.length c0_1) ∧ w'.cell? ⟨gb306, 0, none⟩ = some (.int .i64 a1_0) ∧ w'.cell? ⟨gb306, 1, none⟩ = some (.int .i64 a1_1) ∧ w'.cell? ⟨gb306, 2, none⟩ = some (.int .i64 a1_2)) ∧ (Kd.R k25 25 w' w.heap.size (fun k_ => some k_ ≠ (s_.2.1 : Value).ownBlock) s_.1 t309) ∧ (Kd.R k25 25 w' w.heap.size (fun k_ => some k_ ≠ (s_.1 : Value).ownBlock) s_.2.1 t316) ∧ (w'.heap[gb305]? = some (.cells #[.int .i64 a0_0, .slice A0_1 l0_1.length c0_1] 40 (0, 0))) ∧ (w'.heap[gb306]? = some (.cells #[.int .i64 a1_0, .int .i64 a1_1, .int .i64 a1_2] 23 (0, 0))) ∧ (w'.heap[s_.2.2]? = some (.cells #[.int .i64 0, .slice none 0 0] 45 (0, 0))) ∧ (w.heap.size ≤ s_.2.2) ∧ (w.heap.size ≤ s_.2.2) ∧ (gb305 ≠ s_.2.2) ∧ (s_.2.2 ≠ gb305) ∧ (gb306 ≠ s_.2.2) ∧ (s_.2.2 ≠ gb306) ∧ (Below w.heap.size w w')) ?_ ?_
 rotate_left
 ·intro hCont
  refine two_ (i := 1) (j := 8) (Ni := some 23) (Nj := some 6) #[true, true, true, false, false, false, false, false, false, false, false] #[true, false, true, false, false, false, false, false, true, false, false] rfl rfl rfl rfl (two_of HT_.out (by kernel_rfl)) (by decide) (by decide) (fun K hK => ?_) (fun K hK => ?_)
  ·skip
   refine goes_ Try.func22 (by kernel_rfl) rfl #[.agg #[.int .i64 a0_0, .slice A0_1 l0_1.length c0_1]] (by rfl) rfl rfl (by (try simp only [List.map_toArray, List.map_cons, List.map_nil]); first | done | rfl | (simp only [List.length_drop, List.length_take]; rfl)) ?_
   with_reducible refine (laws_toPuzzle.calls k a0_0 _ _ l0_1 t308 t309 _ ?side1 ?side2 A10.out).mono ?_
   (case side1 => repeat (first | exact (Kd.C_below HR0_1.out HB.out) | (with_reducible refine Kd.C_alloc ?_ _) | (with_reducible refine Kd.C_drewN ?_ _) | (with_reducible refine Kd.C_drew ?_)))
   (case side2 => exact HC0_1.out)
   rintro e w45 ⟨v310, rfl, ho0, hb⟩
   refine ⟨_, rfl, ?_⟩
   have n0_ := Aside0.mk (Kd.R_lower ho0 (below_size (zh HB.out)))
   have n1_ := Aside0.mk (blk_below (g := gb305) (o := .cells #[.int .i64 a0_0, .slice A0_1 l0_1.length c0_1] 40 (0, 0)) (zb BK305.out) hb)
   have n2_ := Aside0.mk (blk_below (g := gb306) (o := .cells #[.int .i64 a1_0, .int .i64 a1_1, .int .i64 a1_2] 23 (0, 0)) (zb BK306.out) hb)
   have n3_ := Aside0.mk (below_step (zh HB.out) hb)
   clear BK305
   clear BK306
   clear HB
   have HO311 := n0_
   have BK305 := n1_
   have BK306 := n2_
   have HB := n3_
   clear n0_ n1_ n2_ n3_
   (try clear hb)
   (try clear hb2)
   (try clear hk)
   (try clear hi)
   (try clear ho0)
   refine hK.out _ _ ⟨(blk_cell BK305.out 0).trans rfl, (blk_cell BK305.out 1).trans rfl, (blk_cell BK306.out 0).trans rfl, (blk_cell BK306.out 1).trans rfl, (blk_cell BK306.out 2).trans rfl⟩ (fun hHeld => ?_)
   clear hK K
   refine norm_ (a' := ?_) ?_ ?_
   rotate_left
   ·show Act.put _ (some 23) _ = _
    simp only [Act.put, List.setIfInBounds_toArray, List.set_cons_zero, List.set_cons_succ, i64_w, i32_w]
    rfl
   refine two_ (i := 3) (j := 8) (Ni := some 25) (Nj := some 6) #[true, true, true, true, false, false, false, false, false, false, false] #[true, true, true, false, false, false, false, false, true, false, false] rfl rfl rfl rfl (two_of HT_.out (by kernel_rfl)) (by decide) (by decide) (fun K hK => ?_) (fun K hK => ?_)
   ·skip
    refine goes_ Try.func10 (by kernel_rfl) rfl #[.agg #[.int .i64 a1_0, .int .i64 a1_1, .int .i64 a1_2]] (by rfl) rfl rfl (by (try simp only [List.map_toArray, List.map_cons, List.map_nil]); first | done | rfl | (simp only [List.length_drop, List.length_take]; rfl)) ?_
    with_reducible refine (laws_toClue.calls a1_0 a1_1 a1_2 t312 t313 t314 _ A11.out).mono ?_
    rintro e w46 ⟨rfl, hb⟩
    refine ⟨_, rfl, ?_⟩
    have n0_ := Aside0.mk (Kd.R_below (zr HO311.out) hb)
    have n1_ := Aside0.mk (blk_below (g := gb305) (o := .cells #[.int .i64 a0_0, .slice A0_1 l0_1.length c0_1] 40 (0, 0)) (zb BK305.out) hb)
    have n2_ := Aside0.mk (blk_below (g := gb306) (o := .cells #[.int .i64 a1_0, .int .i64 a1_1, .int .i64 a1_2] 23 (0, 0)) (zb BK306.out) hb)
    have n3_ := Aside0.mk (below_step (zh HB.out) hb)
    clear HO311
    clear BK305
    clear BK306
    clear HB
    have HO311 := n0_
    have BK305 := n1_
    have BK306 := n2_
    have HB := n3_
    clear n0_ n1_ n2_ n3_
    (try clear hb)
    (try clear hb2)
    (try clear hk)
    (try clear hi)
    obtain ⟨Ao47, co47, eo47⟩ := Kd.R_slice HO311.out
    (first | subst eo47 | (injection eo47 with f1_ f2_ f3_; have f4_ := f1_.symm; have f5_ := f3_.symm; clear f1_ f2_ f3_; subst f4_; subst f5_))
    refine hK.out _ _ ⟨(blk_cell BK305.out 0).trans rfl, (blk_cell BK305.out 1).trans rfl, (blk_cell BK306.out 0).trans rfl, (blk_cell BK306.out 1).trans rfl, (blk_cell BK306.out 2).trans rfl⟩ (fun hHeld => ?_)
    clear hK K
    refine norm_ (a' := ?_) ?_ ?_
    rotate_left
    ·show Act.put _ (some 25) _ = _
     simp only [Act.put, List.setIfInBounds_toArray, List.set_cons_zero, List.set_cons_succ, i64_w, i32_w]
     rfl
    refine two_ (i := 4) (j := 8) (Ni := some 26) (Nj := some 6) #[true, true, true, true, true, false, false, false, false, false, false] #[true, true, true, true, false, false, false, false, true, false, false] rfl rfl rfl rfl (two_of HT_.out (by kernel_rfl)) (by decide) (by decide) (fun K hK => ?_) (fun K hK => ?_)
    ·skip
     refine goes_ Try.func25 (by kernel_rfl) rfl #[.agg #[.int .i64 t308, .slice Ao47 t309.length co47], .agg #[.int .i64 t312, .int .i64 t313, .int .i64 t314]] (by rfl) rfl rfl (by (try simp only [List.map_toArray, List.map_cons, List.map_nil]); first | done | rfl | (simp only [List.length_drop, List.length_take]; rfl)) ?_
     with_reducible refine (spec_AddClue.calls k t308 _ _ t309 t312 t313 t314 t315 t316 t319 _ ?side1 ?side2 A12.out).mono ?_
     (case side1 => repeat (first | exact (Kd.R_reads' HO311.out).2.2 | (with_reducible refine Kd.C_alloc ?_ _) | (with_reducible refine Kd.C_drewN ?_ _) | (with_reducible refine Kd.C_drew ?_)))
     (case side2 => exact (Kd.R_reads' HO311.out).2.1)
     rintro e w48 ⟨v317, rfl, ho0, hb⟩
     refine ⟨_, rfl, ?_⟩
     have n0_ := Aside0.mk (Kd.R_elder' (zr HO311.out) (Kd.R_base ho0) hb)
     have n1_ := Aside0.mk (Kd.R_lower (Kd.R_new' ho0 (Kd.R_lt (zr HO311.out))) (below_size (zh HB.out)))
     have n2_ := Aside0.mk (blk_below (g := gb305) (o := .cells #[.int .i64 a0_0, .slice A0_1 l0_1.length c0_1] 40 (0, 0)) (zb BK305.out) hb)
     have n3_ := Aside0.mk (blk_below (g := gb306) (o := .cells #[.int .i64 a1_0, .int .i64 a1_1, .int .i64 a1_2] 23 (0, 0)) (zb BK306.out) hb)
     have n4_ := Aside0.mk (below_step (zh HB.out) hb)
     clear HO311
     clear BK305
     clear BK306
     clear HB
     have HO311 := n0_
     have HO318 := n1_
     have BK305 := n2_
     have BK306 := n3_
     have HB := n4_
     clear n0_ n1_ n2_ n3_ n4_
     (try clear hb)
     (try clear hb2)
     (try clear hk)
     (try clear hi)
     (try clear ho0)
     refine hK.out _ _ ⟨(blk_cell BK305.out 0).trans rfl, (blk_cell BK305.out 1).trans rfl, (blk_cell BK306.out 0).trans rfl, (blk_cell BK306.out 1).trans rfl, (blk_cell BK306.out 2).trans rfl⟩ (fun hHeld => ?_)
     clear hK K
     refine norm_ (a' := ?_) ?_ ?_
     rotate_left
     ·show Act.put _ (some 26) _ = _
      simp only [Act.put, List.setIfInBounds_toArray, List.set_cons_zero, List.set_cons_succ, i64_w, i32_w]
      rfl
     refine pure_ (i := 5) (N := some 21) (v := ?_) (a' := ?_) #[true, true, true, true, true, true, false, false, false, false, false] rfl rfl (any_of HT_.out (by kernel_rfl)) (fun _ _ _ h => h) (Or.inl ⟨by rfl, ?_⟩) ?_ ?_
     rotate_left
     ·intro w'
      go_simp
      with_reducible rfl
     rotate_left
     ·simp only [Act.put, List.setIfInBounds_toArray, List.set_cons_zero, List.set_cons_succ, i64_w, i32_w]
      rfl
     refine pure_ (i := 6) (N := some 27) (v := ?_) (a' := ?_) #[true, true, true, true, true, true, true, false, false, false, false] rfl rfl (any_of HT_.out (by kernel_rfl)) (fun _ _ _ h => h) (Or.inl ⟨by rfl, ?_⟩) ?_ ?_
     rotate_left
     ·intro w'
      go_simp
      with_reducible rfl
     rotate_left
     ·simp only [Act.put, List.setIfInBounds_toArray, List.set_cons_zero, List.set_cons_succ, i64_w, i32_w]
      rfl
     refine pure_ (i := 7) (N := some 28) (v := ?_) (a' := ?_) #[true, true, true, true, true, true, true, true, false, false, false] rfl rfl (any_of HT_.out (by kernel_rfl)) (fun _ _ _ h => h) (Or.inl ⟨by rfl, ?_⟩) ?_ ?_
     rotate_left
     ·intro w'
      go_simp
      with_reducible rfl
     rotate_left
     ·simp only [Act.put, List.setIfInBounds_toArray, List.set_cons_zero, List.set_cons_succ, i64_w, i32_w]
      rfl
     refine one_ (i := 8) (N := some 6) #[true, true, true, true, true, true, true, true, true, false, false] rfl rfl (one_of HT_.out (by kernel_rfl)) (by decide) (fun K hK => ?_)
     refine box_step ?hg (N := 6) ?hd (cs := #[.int .i64 0, .slice none 0 0]) (t := 45) ?hr ?_; (case hd => rfl); (case hg => rfl); (case hr => first | (go_simp; done) | (go_simp; rfl))
     intro gb320 hg w49 hbox hb
     have n0_ := Aside0.mk (Kd.R_below (zr HO311.out) hb)
     have n1_ := Aside0.mk (Kd.R_below (zr HO318.out) hb)
     have n2_ := Aside0.mk (blk_below (g := gb305) (o := .cells #[.int .i64 a0_0, .slice A0_1 l0_1.length c0_1] 40 (0, 0)) (zb BK305.out) hb)
     have n3_ := Aside0.mk (blk_below (g := gb306) (o := .cells #[.int .i64 a1_0, .int .i64 a1_1, .int .i64 a1_2] 23 (0, 0)) (zb BK306.out) hb)
     have n4_ := Aside0.mk (below_step (zh HB.out) hb)
     have n5_ := Aside0.mk (hbox)
     have n6_ := Aside0.mk ((by rw [hg]; exact (below_size (zh HB.out)) : w.heap.size ≤ gb320))
     have n7_ := Aside0.mk ((by rw [hg]; exact (below_size (zh HB.out)) : w.heap.size ≤ gb320))
     have n8_ := Aside0.mk ((by rw [hg]; exact Nat.ne_of_lt (blk_lt (g := gb305) (o := .cells #[.int .i64 a0_0, .slice A0_1 l0_1.length c0_1] 40 (0, 0)) (zb BK305.out)) : gb305 ≠ gb320))
     have n9_ := Aside0.mk ((by rw [hg]; exact Nat.ne_of_gt (blk_lt (g := gb305) (o := .cells #[.int .i64 a0_0, .slice A0_1 l0_1.length c0_1] 40 (0, 0)) (zb BK305.out)) : gb320 ≠ gb305))
     have n10_ := Aside0.mk ((by rw [hg]; exact Nat.ne_of_lt (blk_lt (g := gb306) (o := .cells #[.int .i64 a1_0, .int .i64 a1_1, .int .i64 a1_2] 23 (0, 0)) (zb BK306.out)) : gb306 ≠ gb320))
     have n11_ := Aside0.mk ((by rw [hg]; exact Nat.ne_of_gt (blk_lt (g := gb306) (o := .cells #[.int .i64 a1_0, .int .i64 a1_1, .int .i64 a1_2] 23 (0, 0)) (zb BK306.out)) : gb320 ≠ gb306))
     clear HO311
     clear HO318
     clear BK305
     clear BK306
     clear HB
     have HO311 := n0_
     have HO318 := n1_
     have BK305 := n2_
     have BK306 := n3_
     have HB := n4_
     have BK320 := n5_
     have GW320 := n6_
     have GE320 := n7_
     have NB305_320 := n8_
     have NB320_305 := n9_
     have NB306_320 := n10_
     have NB320_306 := n11_
     clear n0_ n1_ n2_ n3_ n4_ n5_ n6_ n7_ n8_ n9_ n10_ n11_
     clear hb hbox hg
     refine hK.out _ _ ⟨(blk_cell BK305.out 0).trans rfl, (blk_cell BK305.out 1).trans rfl, (blk_cell BK306.out 0).trans rfl, (blk_cell BK306.out 1).trans rfl, (blk_cell BK306.out 2).trans rfl⟩ (fun hHeld => ?_)
     clear hK K
     refine norm_ (a' := ?_) ?_ ?_
     rotate_left
     ·show Act.put _ (some 6) _ = _
      simp only [Act.put, List.setIfInBounds_toArray, List.set_cons_zero, List.set_cons_succ, i64_w, i32_w]
      rfl
     exact norm_ (by simp only [putAll, Act.put, List.setIfInBounds_toArray, List.set_cons_zero, List.set_cons_succ]) (hCont (.slice Ao47 t309.length co47, v317, gb320) _ ⟨hHeld, (zr (Kd.R_mono HO311.out (fun _ hk => hk.2))), (zr (Kd.R_mono HO318.out (fun _ hk => hk.2))), (zb BK305.out), (zb BK306.out), (zb BK320.out), GW320.out, GE320.out, NB305_320.out, NB320_305.out, NB306_320.out, NB320_306.out, (zh HB.out)⟩)
    ·skip
     refine box_step ?hg (N := 6) ?hd (cs := #[.int .i64 0, .slice none 0 0]) (t := 45) ?hr ?_; (case hd => rfl); (case hg => rfl); (case hr => first | (go_simp; done) | (go_simp; rfl))
     intro gb320 hg w47 hbox hb
     have n0_ := Aside0.mk (Kd.R_below (zr HO311.out) hb)
     have n1_ := Aside0.mk (blk_below (g := gb305) (o := .cells #[.int .i64 a0_0, .slice A0_1 l0_1.length c0_1] 40 (0, 0)) (zb BK305.out) hb)
     have n2_ := Aside0.mk (blk_below (g := gb306) (o := .cells #[.int .i64 a1_0, .int .i64 a1_1, .int .i64 a1_2] 23 (0, 0)) (zb BK306.out) hb)
     have n3_ := Aside0.mk (below_step (zh HB.out) hb)
     have n4_ := Aside0.mk (hbox)
     have n5_ := Aside0.mk ((by rw [hg]; exact (below_size (zh HB.out)) : w.heap.size ≤ gb320))
     have n6_ := Aside0.mk ((by rw [hg]; exact (below_size (zh HB.out)) : w.heap.size ≤ gb320))
     have n7_ := Aside0.mk ((by rw [hg]; exact Nat.ne_of_lt (blk_lt (g := gb305) (o := .cells #[.int .i64 a0_0, .slice A0_1 l0_1.length c0_1] 40 (0, 0)) (zb BK305.out)) : gb305 ≠ gb320))
     have n8_ := Aside0.mk ((by rw [hg]; exact Nat.ne_of_gt (blk_lt (g := gb305) (o := .cells #[.int .i64 a0_0, .slice A0_1 l0_1.length c0_1] 40 (0, 0)) (zb BK305.out)) : gb320 ≠ gb305))
     have n9_ := Aside0.mk ((by rw [hg]; exact Nat.ne_of_lt (blk_lt (g := gb306) (o := .cells #[.int .i64 a1_0, .int .i64 a1_1, .int .i64 a1_2] 23 (0, 0)) (zb BK306.out)) : gb306 ≠ gb320))
     have n10_ := Aside0.mk ((by rw [hg]; exact Nat.ne_of_gt (blk_lt (g := gb306) (o := .cells #[.int .i64 a1_0, .int .i64 a1_1, .int .i64 a1_2] 23 (0, 0)) (zb BK306.out)) : gb320 ≠ gb306))
     clear HO311
     clear BK305
     clear BK306
     clear HB
     have HO311 := n0_
     have BK305 := n1_
     have BK306 := n2_
     have HB := n3_
     have BK320 := n4_
     have GW320 := n5_
     have GE320 := n6_
     have NB305_320 := n7_
     have NB320_305 := n8_
     have NB306_320 := n9_
     have NB320_306 := n10_
     clear n0_ n1_ n2_ n3_ n4_ n5_ n6_ n7_ n8_ n9_ n10_
     clear hb hbox hg
     obtain ⟨Ao48, co48, eo48⟩ := Kd.R_slice HO311.out
     (first | subst eo48 | (injection eo48 with f1_ f2_ f3_; have f4_ := f1_.symm; have f5_ := f3_.symm; clear f1_ f2_ f3_; subst f4_; subst f5_))
     refine hK.out _ _ ⟨(blk_cell BK305.out 0).trans rfl, (blk_cell BK305.out 1).trans rfl, (blk_cell BK306.out 0).trans rfl, (blk_cell BK306.out 1).trans rfl, (blk_cell BK306.out 2).trans rfl⟩ (fun hHeld => ?_)
     clear hK K
     refine norm_ (a' := ?_) ?_ ?_
     rotate_left
     ·show Act.put _ (some 6) _ = _
      simp only [Act.put, List.setIfInBounds_toArray, List.set_cons_zero, List.set_cons_succ, i64_w, i32_w]
      rfl
     refine one_ (i := 4) (N := some 26) #[true, true, true, true, true, false, false, false, true, false, false] rfl rfl (one_of HT_.out (by kernel_rfl)) (by decide) (fun K hK => ?_)
     refine goes_ Try.func25 (by kernel_rfl) rfl #[.agg #[.int .i64 t308, .slice Ao48 t309.length co48], .agg #[.int .i64 t312, .int .i64 t313, .int .i64 t314]] (by rfl) rfl rfl (by (try simp only [List.map_toArray, List.map_cons, List.map_nil]); first | done | rfl | (simp only [List.length_drop, List.length_take]; rfl)) ?_
     with_reducible refine (spec_AddClue.calls k t308 _ _ t309 t312 t313 t314 t315 t316 t319 _ ?side1 ?side2 A12.out).mono ?_
     (case side1 => repeat (first | exact (Kd.R_reads' HO311.out).2.2 | (with_reducible refine Kd.C_alloc ?_ _) | (with_reducible refine Kd.C_drewN ?_ _) | (with_reducible refine Kd.C_drew ?_)))
     (case side2 => exact (Kd.R_reads' HO311.out).2.1)
     rintro e w49 ⟨v317, rfl, ho0, hb⟩
     refine ⟨_, rfl, ?_⟩
     have n0_ := Aside0.mk (Kd.R_elder' (zr HO311.out) (Kd.R_base ho0) hb)
     have n1_ := Aside0.mk (Kd.R_lower (Kd.R_new' ho0 (Kd.R_lt (zr HO311.out))) (below_size (zh HB.out)))
     have n2_ := Aside0.mk (blk_below (g := gb305) (o := .cells #[.int .i64 a0_0, .slice A0_1 l0_1.length c0_1] 40 (0, 0)) (zb BK305.out) hb)
     have n3_ := Aside0.mk (blk_below (g := gb306) (o := .cells #[.int .i64 a1_0, .int .i64 a1_1, .int .i64 a1_2] 23 (0, 0)) (zb BK306.out) hb)
     have n4_ := Aside0.mk (blk_below (g := gb320) (o := .cells #[.int .i64 0, .slice none 0 0] 45 (0, 0)) (zb BK320.out) hb)
     have n5_ := Aside0.mk (below_step (zh HB.out) hb)
     clear HO311
     clear BK305
     clear BK306
     clear BK320
     clear HB
     have HO311 := n0_
     have HO318 := n1_
     have BK305 := n2_
     have BK306 := n3_
     have BK320 := n4_
     have HB := n5_
     clear n0_ n1_ n2_ n3_ n4_ n5_
     (try clear hb)
     (try clear hb2)
     (try clear hk)
     (try clear hi)
     (try clear ho0)
     refine hK.out _ _ ⟨(blk_cell BK305.out 0).trans rfl, (blk_cell BK305.out 1).trans rfl, (blk_cell BK306.out 0).trans rfl, (blk_cell BK306.out 1).trans rfl, (blk_cell BK306.out 2).trans rfl⟩ (fun hHeld => ?_)
     clear hK K
     refine norm_ (a' := ?_) ?_ ?_
     rotate_left
     ·show Act.put _ (some 26) _ = _
      simp only [Act.put, List.setIfInBounds_toArray, List.set_cons_zero, List.set_cons_succ, i64_w, i32_w]
      rfl
     refine pure_ (i := 5) (N := some 21) (v := ?_) (a' := ?_) #[true, true, true, true, true, true, false, false, true, false, false] rfl rfl (any_of HT_.out (by kernel_rfl)) (fun _ _ _ h => h) (Or.inl ⟨by rfl, ?_⟩) ?_ ?_
     rotate_left
     ·intro w'
      go_simp
      with_reducible rfl
     rotate_left
     ·simp only [Act.put, List.setIfInBounds_toArray, List.set_cons_zero, List.set_cons_succ, i64_w, i32_w]
      rfl
     refine pure_ (i := 6) (N := some 27) (v := ?_) (a' := ?_) #[true, true, true, true, true, true, true, false, true, false, false] rfl rfl (any_of HT_.out (by kernel_rfl)) (fun _ _ _ h => h) (Or.inl ⟨by rfl, ?_⟩) ?_ ?_
     rotate_left
     ·intro w'
      go_simp
      with_reducible rfl
     rotate_left
     ·simp only [Act.put, List.setIfInBounds_toArray, List.set_cons_zero, List.set_cons_succ, i64_w, i32_w]
      rfl
     refine pure_ (i := 7) (N := some 28) (v := ?_) (a' := ?_) #[true, true, true, true, true, true, true, true, true, false, false] rfl rfl (any_of HT_.out (by kernel_rfl)) (fun _ _ _ h => h) (Or.inl ⟨by rfl, ?_⟩) ?_ ?_
     rotate_left
     ·intro w'
      go_simp
      with_reducible rfl
     rotate_left
     ·simp only [Act.put, List.setIfInBounds_toArray, List.set_cons_zero, List.set_cons_succ, i64_w, i32_w]
      rfl
     exact norm_ (by simp only [putAll, Act.put, List.setIfInBounds_toArray, List.set_cons_zero, List.set_cons_succ]) (hCont (.slice Ao48 t309.length co48, v317, gb320) _ ⟨hHeld, (zr (Kd.R_mono HO311.out (fun _ hk => hk.2))), (zr (Kd.R_mono HO318.out (fun _ hk => hk.2))), (zb BK305.out), (zb BK306.out), (zb BK320.out), GW320.out, GE320.out, NB305_320.out, NB320_305.out, NB306_320.out, NB320_306.out, (zh HB.out)⟩)
   ·skip
    refine box_step ?hg (N := 6) ?hd (cs := #[.int .i64 0, .slice none 0 0]) (t := 45) ?hr ?_; (case hd => rfl); (case hg => rfl); (case hr => first | (go_simp; done) | (go_simp; rfl))
    intro gb320 hg w46 hbox hb
    have n0_ := Aside0.mk (Kd.R_below (zr HO311.out) hb)
    have n1_ := Aside0.mk (blk_below (g := gb305) (o := .cells #[.int .i64 a0_0, .slice A0_1 l0_1.length c0_1] 40 (0, 0)) (zb BK305.out) hb)
    have n2_ := Aside0.mk (blk_below (g := gb306) (o := .cells #[.int .i64 a1_0, .int .i64 a1_1, .int .i64 a1_2] 23 (0, 0)) (zb BK306.out) hb)
    have n3_ := Aside0.mk (below_step (zh HB.out) hb)
    have n4_ := Aside0.mk (hbox)
    have n5_ := Aside0.mk ((by rw [hg]; exact (below_size (zh HB.out)) : w.heap.size ≤ gb320))
    have n6_ := Aside0.mk ((by rw [hg]; exact (below_size (zh HB.out)) : w.heap.size ≤ gb320))
    have n7_ := Aside0.mk ((by rw [hg]; exact Nat.ne_of_lt (blk_lt (g := gb305) (o := .cells #[.int .i64 a0_0, .slice A0_1 l0_1.length c0_1] 40 (0, 0)) (zb BK305.out)) : gb305 ≠ gb320))
    have n8_ := Aside0.mk ((by rw [hg]; exact Nat.ne_of_gt (blk_lt (g := gb305) (o := .cells #[.int .i64 a0_0, .slice A0_1 l0_1.length c0_1] 40 (0, 0)) (zb BK305.out)) : gb320 ≠ gb305))
    have n9_ := Aside0.mk ((by rw [hg]; exact Nat.ne_of_lt (blk_lt (g := gb306) (o := .cells #[.int .i64 a1_0, .int .i64 a1_1, .int .i64 a1_2] 23 (0, 0)) (zb BK306.out)) : gb306 ≠ gb320))
    have n10_ := Aside0.mk ((by rw [hg]; exact Nat.ne_of_gt (blk_lt (g := gb306) (o := .cells #[.int .i64 a1_0, .int .i64 a1_1, .int .i64 a1_2] 23 (0, 0)) (zb BK306.out)) : gb320 ≠ gb306))
    clear HO311
    clear BK305
    clear BK306
    clear HB
    have HO311 := n0_
    have BK305 := n1_
    have BK306 := n2_
    have HB := n3_
    have BK320 := n4_
    have GW320 := n5_
    have GE320 := n6_
    have NB305_320 := n7_
    have NB320_305 := n8_
    have NB306_320 := n9_
    have NB320_306 := n10_
    clear n0_ n1_ n2_ n3_ n4_ n5_ n6_ n7_ n8_ n9_ n10_
    clear hb hbox hg
    refine hK.out _ _ ⟨(blk_cell BK305.out 0).trans rfl, (blk_cell BK305.out 1).trans rfl, (blk_cell BK306.out 0).trans rfl, (blk_cell BK306.out 1).trans rfl, (blk_cell BK306.out 2).trans rfl⟩ (fun hHeld => ?_)
    clear hK K
    refine norm_ (a' := ?_) ?_ ?_
    rotate_left
    ·show Act.put _ (some 6) _ = _
     simp only [Act.put, List.setIfInBounds_toArray, List.set_cons_zero, List.set_cons_succ, i64_w, i32_w]
     rfl
    refine one_ (i := 3) (N := some 25) #[true, true, true, true, false, false, false, false, true, false, false] rfl rfl (one_of HT_.out (by kernel_rfl)) (by decide) (fun K hK => ?_)
    refine goes_ Try.func10 (by kernel_rfl) rfl #[.agg #[.int .i64 a1_0, .int .i64 a1_1, .int .i64 a1_2]] (by rfl) rfl rfl (by (try simp only [List.map_toArray, List.map_cons, List.map_nil]); first | done | rfl | (simp only [List.length_drop, List.length_take]; rfl)) ?_
    with_reducible refine (laws_toClue.calls a1_0 a1_1 a1_2 t312 t313 t314 _ A11.out).mono ?_
    rintro e w47 ⟨rfl, hb⟩
    refine ⟨_, rfl, ?_⟩
    have n0_ := Aside0.mk (Kd.R_below (zr HO311.out) hb)
    have n1_ := Aside0.mk (blk_below (g := gb305) (o := .cells #[.int .i64 a0_0, .slice A0_1 l0_1.length c0_1] 40 (0, 0)) (zb BK305.out) hb)
    have n2_ := Aside0.mk (blk_below (g := gb306) (o := .cells #[.int .i64 a1_0, .int .i64 a1_1, .int .i64 a1_2] 23 (0, 0)) (zb BK306.out) hb)
    have n3_ := Aside0.mk (blk_below (g := gb320) (o := .cells #[.int .i64 0, .slice none 0 0] 45 (0, 0)) (zb BK320.out) hb)
    have n4_ := Aside0.mk (below_step (zh HB.out) hb)
    clear HO311
    clear BK305
    clear BK306
    clear BK320
    clear HB
    have HO311 := n0_
    have BK305 := n1_
    have BK306 := n2_
    have BK320 := n3_
    have HB := n4_
    clear n0_ n1_ n2_ n3_ n4_
    (try clear hb)
    (try clear hb2)
    (try clear hk)
    (try clear hi)
    obtain ⟨Ao48, co48, eo48⟩ := Kd.R_slice HO311.out
    (first | subst eo48 | (injection eo48 with f1_ f2_ f3_; have f4_ := f1_.symm; have f5_ := f3_.symm; clear f1_ f2_ f3_; subst f4_; subst f5_))
    refine hK.out _ _ ⟨(blk_cell BK305.out 0).trans rfl, (blk_cell BK305.out 1).trans rfl, (blk_cell BK306.out 0).trans rfl, (blk_cell BK306.out 1).trans rfl, (blk_cell BK306.out 2).trans rfl⟩ (fun hHeld => ?_)
    clear hK K
    refine norm_ (a' := ?_) ?_ ?_
    rotate_left
    ·show Act.put _ (some 25) _ = _
     simp only [Act.put, List.setIfInBounds_toArray, List.set_cons_zero, List.set_cons_succ, i64_w, i32_w]
     rfl
    refine one_ (i := 4) (N := some 26) #[true, true, true, true, true, false, false, false, true, false, false] rfl rfl (one_of HT_.out (by kernel_rfl)) (by decide) (fun K hK => ?_)
    refine goes_ Try.func25 (by kernel_rfl) rfl #[.agg #[.int .i64 t308, .slice Ao48 t309.length co48], .agg #[.int .i64 t312, .int .i64 t313, .int .i64 t314]] (by rfl) rfl rfl (by (try simp only [List.map_toArray, List.map_cons, List.map_nil]); first | done | rfl | (simp only [List.length_drop, List.length_take]; rfl)) ?_
    with_reducible refine (spec_AddClue.calls k t308 _ _ t309 t312 t313 t314 t315 t316 t319 _ ?side1 ?side2 A12.out).mono ?_
    (case side1 => repeat (first | exact (Kd.R_reads' HO311.out).2.2 | (with_reducible refine Kd.C_alloc ?_ _) | (with_reducible refine Kd.C_drewN ?_ _) | (with_reducible refine Kd.C_drew ?_)))
    (case side2 => exact (Kd.R_reads' HO311.out).2.1)
    rintro e w49 ⟨v317, rfl, ho0, hb⟩
    refine ⟨_, rfl, ?_⟩
    have n0_ := Aside0.mk (Kd.R_elder' (zr HO311.out) (Kd.R_base ho0) hb)
    have n1_ := Aside0.mk (Kd.R_lower (Kd.R_new' ho0 (Kd.R_lt (zr HO311.out))) (below_size (zh HB.out)))
    have n2_ := Aside0.mk (blk_below (g := gb305) (o := .cells #[.int .i64 a0_0, .slice A0_1 l0_1.length c0_1] 40 (0, 0)) (zb BK305.out) hb)
    have n3_ := Aside0.mk (blk_below (g := gb306) (o := .cells #[.int .i64 a1_0, .int .i64 a1_1, .int .i64 a1_2] 23 (0, 0)) (zb BK306.out) hb)
    have n4_ := Aside0.mk (blk_below (g := gb320) (o := .cells #[.int .i64 0, .slice none 0 0] 45 (0, 0)) (zb BK320.out) hb)
    have n5_ := Aside0.mk (below_step (zh HB.out) hb)
    clear HO311
    clear BK305
    clear BK306
    clear BK320
    clear HB
    have HO311 := n0_
    have HO318 := n1_
    have BK305 := n2_
    have BK306 := n3_
    have BK320 := n4_
    have HB := n5_
    clear n0_ n1_ n2_ n3_ n4_ n5_
    (try clear hb)
    (try clear hb2)
    (try clear hk)
    (try clear hi)
    (try clear ho0)
    refine hK.out _ _ ⟨(blk_cell BK305.out 0).trans rfl, (blk_cell BK305.out 1).trans rfl, (blk_cell BK306.out 0).trans rfl, (blk_cell BK306.out 1).trans rfl, (blk_cell BK306.out 2).trans rfl⟩ (fun hHeld => ?_)
    clear hK K
    refine norm_ (a' := ?_) ?_ ?_
    rotate_left
    ·show Act.put _ (some 26) _ = _
     simp only [Act.put, List.setIfInBounds_toArray, List.set_cons_zero, List.set_cons_succ, i64_w, i32_w]
     rfl
    refine pure_ (i := 5) (N := some 21) (v := ?_) (a' := ?_) #[true, true, true, true, true, true, false, false, true, false, false] rfl rfl (any_of HT_.out (by kernel_rfl)) (fun _ _ _ h => h) (Or.inl ⟨by rfl, ?_⟩) ?_ ?_
    rotate_left
    ·intro w'
     go_simp
     with_reducible rfl
    rotate_left
    ·simp only [Act.put, List.setIfInBounds_toArray, List.set_cons_zero, List.set_cons_succ, i64_w, i32_w]
     rfl
    refine pure_ (i := 6) (N := some 27) (v := ?_) (a' := ?_) #[true, true, true, true, true, true, true, false, true, false, false] rfl rfl (any_of HT_.out (by kernel_rfl)) (fun _ _ _ h => h) (Or.inl ⟨by rfl, ?_⟩) ?_ ?_
    rotate_left
    ·intro w'
     go_simp
     with_reducible rfl
    rotate_left
    ·simp only [Act.put, List.setIfInBounds_toArray, List.set_cons_zero, List.set_cons_succ, i64_w, i32_w]
     rfl
    refine pure_ (i := 7) (N := some 28) (v := ?_) (a' := ?_) #[true, true, true, true, true, true, true, true, true, false, false] rfl rfl (any_of HT_.out (by kernel_rfl)) (fun _ _ _ h => h) (Or.inl ⟨by rfl, ?_⟩) ?_ ?_
    rotate_left
    ·intro w'
     go_simp
     with_reducible rfl
    rotate_left
    ·simp only [Act.put, List.setIfInBounds_toArray, List.set_cons_zero, List.set_cons_succ, i64_w, i32_w]
     rfl
    exact norm_ (by simp only [putAll, Act.put, List.setIfInBounds_toArray, List.set_cons_zero, List.set_cons_succ]) (hCont (.slice Ao48 t309.length co48, v317, gb320) _ ⟨hHeld, (zr (Kd.R_mono HO311.out (fun _ hk => hk.2))), (zr (Kd.R_mono HO318.out (fun _ hk => hk.2))), (zb BK305.out), (zb BK306.out), (zb BK320.out), GW320.out, GE320.out, NB305_320.out, NB320_305.out, NB306_320.out, NB320_306.out, (zh HB.out)⟩)
  ·skip
   refine box_step ?hg (N := 6) ?hd (cs := #[.int .i64 0, .slice none 0 0]) (t := 45) ?hr ?_; (case hd => rfl); (case hg => rfl); (case hr => first | (go_simp; done) | (go_simp; rfl))
   intro gb320 hg w45 hbox hb
   have n0_ := Aside0.mk (blk_below (g := gb305) (o := .cells #[.int .i64 a0_0, .slice A0_1 l0_1.length c0_1] 40 (0, 0)) (zb BK305.out) hb)
   have n1_ := Aside0.mk (blk_below (g := gb306) (o := .cells #[.int .i64 a1_0, .int .i64 a1_1, .int .i64 a1_2] 23 (0, 0)) (zb BK306.out) hb)
   have n2_ := Aside0.mk (below_step (zh HB.out) hb)
   have n3_ := Aside0.mk (hbox)
   have n4_ := Aside0.mk ((by rw [hg]; exact (below_size (zh HB.out)) : w.heap.size ≤ gb320))
   have n5_ := Aside0.mk ((by rw [hg]; exact (below_size (zh HB.out)) : w.heap.size ≤ gb320))
   have n6_ := Aside0.mk ((by rw [hg]; exact Nat.ne_of_lt (blk_lt (g := gb305) (o := .cells #[.int .i64 a0_0, .slice A0_1 l0_1.length c0_1] 40 (0, 0)) (zb BK305.out)) : gb305 ≠ gb320))
   have n7_ := Aside0.mk ((by rw [hg]; exact Nat.ne_of_gt (blk_lt (g := gb305) (o := .cells #[.int .i64 a0_0, .slice A0_1 l0_1.length c0_1] 40 (0, 0)) (zb BK305.out)) : gb320 ≠ gb305))
   have n8_ := Aside0.mk ((by rw [hg]; exact Nat.ne_of_lt (blk_lt (g := gb306) (o := .cells #[.int .i64 a1_0, .int .i64 a1_1, .int .i64 a1_2] 23 (0, 0)) (zb BK306.out)) : gb306 ≠ gb320))
   have n9_ := Aside0.mk ((by rw [hg]; exact Nat.ne_of_gt (blk_lt (g := gb306) (o := .cells #[.int .i64 a1_0, .int .i64 a1_1, .int .i64 a1_2] 23 (0, 0)) (zb BK306.out)) : gb320 ≠ gb306))
   clear BK305
   clear BK306
   clear HB
   have BK305 := n0_
   have BK306 := n1_
   have HB := n2_
   have BK320 := n3_
   have GW320 := n4_
   have GE320 := n5_
   have NB305_320 := n6_
   have NB320_305 := n7_
   have NB306_320 := n8_
   have NB320_306 := n9_
   clear n0_ n1_ n2_ n3_ n4_ n5_ n6_ n7_ n8_ n9_
   clear hb hbox hg
   refine hK.out _ _ ⟨(blk_cell BK305.out 0).trans rfl, (blk_cell BK305.out 1).trans rfl, (blk_cell BK306.out 0).trans rfl, (blk_cell BK306.out 1).trans rfl, (blk_cell BK306.out 2).trans rfl⟩ (fun hHeld => ?_)
   clear hK K
   refine norm_ (a' := ?_) ?_ ?_
   rotate_left
   ·show Act.put _ (some 6) _ = _
    simp only [Act.put, List.setIfInBounds_toArray, List.set_cons_zero, List.set_cons_succ, i64_w, i32_w]
    rfl
   refine one_ (i := 1) (N := some 23) #[true, true, true, false, false, false, false, false, true, false, false] rfl rfl (one_of HT_.out (by kernel_rfl)) (by decide) (fun K hK => ?_)
   refine goes_ Try.func22 (by kernel_rfl) rfl #[.agg #[.int .i64 a0_0, .slice A0_1 l0_1.length c0_1]] (by rfl) rfl rfl (by (try simp only [List.map_toArray, List.map_cons, List.map_nil]); first | done | rfl | (simp only [List.length_drop, List.length_take]; rfl)) ?_
   with_reducible refine (laws_toPuzzle.calls k a0_0 _ _ l0_1 t308 t309 _ ?side1 ?side2 A10.out).mono ?_
   (case side1 => repeat (first | exact (Kd.C_below HR0_1.out HB.out) | (with_reducible refine Kd.C_alloc ?_ _) | (with_reducible refine Kd.C_drewN ?_ _) | (with_reducible refine Kd.C_drew ?_)))
   (case side2 => exact HC0_1.out)
   rintro e w46 ⟨v310, rfl, ho0, hb⟩
   refine ⟨_, rfl, ?_⟩
   have n0_ := Aside0.mk (Kd.R_lower ho0 (below_size (zh HB.out)))
   have n1_ := Aside0.mk (blk_below (g := gb305) (o := .cells #[.int .i64 a0_0, .slice A0_1 l0_1.length c0_1] 40 (0, 0)) (zb BK305.out) hb)
   have n2_ := Aside0.mk (blk_below (g := gb306) (o := .cells #[.int .i64 a1_0, .int .i64 a1_1, .int .i64 a1_2] 23 (0, 0)) (zb BK306.out) hb)
   have n3_ := Aside0.mk (blk_below (g := gb320) (o := .cells #[.int .i64 0, .slice none 0 0] 45 (0, 0)) (zb BK320.out) hb)
   have n4_ := Aside0.mk (below_step (zh HB.out) hb)
   clear BK305
   clear BK306
   clear BK320
   clear HB
   have HO311 := n0_
   have BK305 := n1_
   have BK306 := n2_
   have BK320 := n3_
   have HB := n4_
   clear n0_ n1_ n2_ n3_ n4_
   (try clear hb)
   (try clear hb2)
   (try clear hk)
   (try clear hi)
   (try clear ho0)
   refine hK.out _ _ ⟨(blk_cell BK305.out 0).trans rfl, (blk_cell BK305.out 1).trans rfl, (blk_cell BK306.out 0).trans rfl, (blk_cell BK306.out 1).trans rfl, (blk_cell BK306.out 2).trans rfl⟩ (fun hHeld => ?_)
   clear hK K
   refine norm_ (a' := ?_) ?_ ?_
   rotate_left
   ·show Act.put _ (some 23) _ = _
    simp only [Act.put, List.setIfInBounds_toArray, List.set_cons_zero, List.set_cons_succ, i64_w, i32_w]
    rfl
   refine one_ (i := 3) (N := some 25) #[true, true, true, true, false, false, false, false, true, false, false] rfl rfl (one_of HT_.out (by kernel_rfl)) (by decide) (fun K hK => ?_)
   refine goes_ Try.func10 (by kernel_rfl) rfl #[.agg #[.int .i64 a1_0, .int .i64 a1_1, .int .i64 a1_2]] (by rfl) rfl rfl (by (try simp only [List.map_toArray, List.map_cons, List.map_nil]); first | done | rfl | (simp only [List.length_drop, List.length_take]; rfl)) ?_
   with_reducible refine (laws_toClue.calls a1_0 a1_1 a1_2 t312 t313 t314 _ A11.out).mono ?_
   rintro e w47 ⟨rfl, hb⟩
   refine ⟨_, rfl, ?_⟩
   have n0_ := Aside0.mk (Kd.R_below (zr HO311.out) hb)
   have n1_ := Aside0.mk (blk_below (g := gb305) (o := .cells #[.int .i64 a0_0, .slice A0_1 l0_1.length c0_1] 40 (0, 0)) (zb BK305.out) hb)
   have n2_ := Aside0.mk (blk_below (g := gb306) (o := .cells #[.int .i64 a1_0, .int .i64 a1_1, .int .i64 a1_2] 23 (0, 0)) (zb BK306.out) hb)
   have n3_ := Aside0.mk (blk_below (g := gb320) (o := .cells #[.int .i64 0, .slice none 0 0] 45 (0, 0)) (zb BK320.out) hb)
   have n4_ := Aside0.mk (below_step (zh HB.out) hb)
   clear HO311
   clear BK305
   clear BK306
   clear BK320
   clear HB
   have HO311 := n0_
   have BK305 := n1_
   have BK306 := n2_
   have BK320 := n3_
   have HB := n4_
   clear n0_ n1_ n2_ n3_ n4_
   (try clear hb)
   (try clear hb2)
   (try clear hk)
   (try clear hi)
   obtain ⟨Ao48, co48, eo48⟩ := Kd.R_slice HO311.out
   (first | subst eo48 | (injection eo48 with f1_ f2_ f3_; have f4_ := f1_.symm; have f5_ := f3_.symm; clear f1_ f2_ f3_; subst f4_; subst f5_))
   refine hK.out _ _ ⟨(blk_cell BK305.out 0).trans rfl, (blk_cell BK305.out 1).trans rfl, (blk_cell BK306.out 0).trans rfl, (blk_cell BK306.out 1).trans rfl, (blk_cell BK306.out 2).trans rfl⟩ (fun hHeld => ?_)
   clear hK K
   refine norm_ (a' := ?_) ?_ ?_
   rotate_left
   ·show Act.put _ (some 25) _ = _
    simp only [Act.put, List.setIfInBounds_toArray, List.set_cons_zero, List.set_cons_succ, i64_w, i32_w]
    rfl
   refine one_ (i := 4) (N := some 26) #[true, true, true, true, true, false, false, false, true, false, false] rfl rfl (one_of HT_.out (by kernel_rfl)) (by decide) (fun K hK => ?_)
   refine goes_ Try.func25 (by kernel_rfl) rfl #[.agg #[.int .i64 t308, .slice Ao48 t309.length co48], .agg #[.int .i64 t312, .int .i64 t313, .int .i64 t314]] (by rfl) rfl rfl (by (try simp only [List.map_toArray, List.map_cons, List.map_nil]); first | done | rfl | (simp only [List.length_drop, List.length_take]; rfl)) ?_
   with_reducible refine (spec_AddClue.calls k t308 _ _ t309 t312 t313 t314 t315 t316 t319 _ ?side1 ?side2 A12.out).mono ?_
   (case side1 => repeat (first | exact (Kd.R_reads' HO311.out).2.2 | (with_reducible refine Kd.C_alloc ?_ _) | (with_reducible refine Kd.C_drewN ?_ _) | (with_reducible refine Kd.C_drew ?_)))
   (case side2 => exact (Kd.R_reads' HO311.out).2.1)
   rintro e w49 ⟨v317, rfl, ho0, hb⟩
   refine ⟨_, rfl, ?_⟩
   have n0_ := Aside0.mk (Kd.R_elder' (zr HO311.out) (Kd.R_base ho0) hb)
   have n1_ := Aside0.mk (Kd.R_lower (Kd.R_new' ho0 (Kd.R_lt (zr HO311.out))) (below_size (zh HB.out)))
   have n2_ := Aside0.mk (blk_below (g := gb305) (o := .cells #[.int .i64 a0_0, .slice A0_1 l0_1.length c0_1] 40 (0, 0)) (zb BK305.out) hb)
   have n3_ := Aside0.mk (blk_below (g := gb306) (o := .cells #[.int .i64 a1_0, .int .i64 a1_1, .int .i64 a1_2] 23 (0, 0)) (zb BK306.out) hb)
   have n4_ := Aside0.mk (blk_below (g := gb320) (o := .cells #[.int .i64 0, .slice none 0 0] 45 (0, 0)) (zb BK320.out) hb)
   have n5_ := Aside0.mk (below_step (zh HB.out) hb)
   clear HO311
   clear BK305
   clear BK306
   clear BK320
   clear HB
   have HO311 := n0_
   have HO318 := n1_
   have BK305 := n2_
   have BK306 := n3_
   have BK320 := n4_
   have HB := n5_
   clear n0_ n1_ n2_ n3_ n4_ n5_
   (try clear hb)
   (try clear hb2)
   (try clear hk)
   (try clear hi)
   (try clear ho0)
   refine hK.out _ _ ⟨(blk_cell BK305.out 0).trans rfl, (blk_cell BK305.out 1).trans rfl, (blk_cell BK306.out 0).trans rfl, (blk_cell BK306.out 1).trans rfl, (blk_cell BK306.out 2).trans rfl⟩ (fun hHeld => ?_)
   clear hK K
   refine norm_ (a' := ?_) ?_ ?_
   rotate_left
   ·show Act.put _ (some 26) _ = _
    simp only [Act.put, List.setIfInBounds_toArray, List.set_cons_zero, List.set_cons_succ, i64_w, i32_w]
    rfl
   refine pure_ (i := 5) (N := some 21) (v := ?_) (a' := ?_) #[true, true, true, true, true, true, false, false, true, false, false] rfl rfl (any_of HT_.out (by kernel_rfl)) (fun _ _ _ h => h) (Or.inl ⟨by rfl, ?_⟩) ?_ ?_
   rotate_left
   ·intro w'
    go_simp
    with_reducible rfl
   rotate_left
   ·simp only [Act.put, List.setIfInBounds_toArray, List.set_cons_zero, List.set_cons_succ, i64_w, i32_w]
    rfl
   refine pure_ (i := 6) (N := some 27) (v := ?_) (a' := ?_) #[true, true, true, true, true, true, true, false, true, false, false] rfl rfl (any_of HT_.out (by kernel_rfl)) (fun _ _ _ h => h) (Or.inl ⟨by rfl, ?_⟩) ?_ ?_
   rotate_left
   ·intro w'
    go_simp
    with_reducible rfl
   rotate_left
   ·simp only [Act.put, List.setIfInBounds_toArray, List.set_cons_zero, List.set_cons_succ, i64_w, i32_w]
    rfl
   refine pure_ (i := 7) (N := some 28) (v := ?_) (a' := ?_) #[true, true, true, true, true, true, true, true, true, false, false] rfl rfl (any_of HT_.out (by kernel_rfl)) (fun _ _ _ h => h) (Or.inl ⟨by rfl, ?_⟩) ?_ ?_
   rotate_left
   ·intro w'
    go_simp
    with_reducible rfl
   rotate_left
   ·simp only [Act.put, List.setIfInBounds_toArray, List.set_cons_zero, List.set_cons_succ, i64_w, i32_w]
    rfl
   exact norm_ (by simp only [putAll, Act.put, List.setIfInBounds_toArray, List.set_cons_zero, List.set_cons_succ]) (hCont (.slice Ao48 t309.length co48, v317, gb320) _ ⟨hHeld, (zr (Kd.R_mono HO311.out (fun _ hk => hk.2))), (zr (Kd.R_mono HO318.out (fun _ hk => hk.2))), (zb BK305.out), (zb BK306.out), (zb BK320.out), GW320.out, GE320.out, NB305_320.out, NB320_305.out, NB306_320.out, NB320_306.out, (zh HB.out)⟩)
 rintro ⟨v310, v317, gb320⟩ w50 ⟨hS_, h0_, h1_, h2_, h3_, h4_, h5_, h6_, h7_, h8_, h9_, h10_, h11_⟩
 have n0_ : Aside0 (Kd.R k25 25 w50 w.heap.size (fun k_ => some k_ ≠ (v317 : Value).ownBlock) v310 t309) := ⟨h0_⟩
 have n1_ : Aside0 (Kd.R k25 25 w50 w.heap.size (fun k_ => some k_ ≠ (v310 : Value).ownBlock) v317 t316) := ⟨h1_⟩
 have n2_ : Aside0 (w50.heap[gb305]? = some (.cells #[.int .i64 a0_0, .slice A0_1 l0_1.length c0_1] 40 (0, 0))) := ⟨h2_⟩
 have n3_ : Aside0 (w50.heap[gb306]? = some (.cells #[.int .i64 a1_0, .int .i64 a1_1, .int .i64 a1_2] 23 (0, 0))) := ⟨h3_⟩
 have n4_ : Aside0 (w50.heap[gb320]? = some (.cells #[.int .i64 0, .slice none 0 0] 45 (0, 0))) := ⟨h4_⟩
 have n5_ : Aside0 (w.heap.size ≤ gb320) := ⟨h5_⟩
 have n6_ : Aside0 (w.heap.size ≤ gb320) := ⟨h6_⟩
 have n7_ : Aside0 (gb305 ≠ gb320) := ⟨h7_⟩
 have n8_ : Aside0 (gb320 ≠ gb305) := ⟨h8_⟩
 have n9_ : Aside0 (gb306 ≠ gb320) := ⟨h9_⟩
 have n10_ : Aside0 (gb320 ≠ gb306) := ⟨h10_⟩
 have n11_ : Aside0 (Below w.heap.size w w50) := ⟨h11_⟩
 clear BK305
 clear BK306
 clear HB
 clear h0_ h1_ h2_ h3_ h4_ h5_ h6_ h7_ h8_ h9_ h10_ h11_
 have HO311 := n0_
 have HO318 := n1_
 have BK305 := n2_
 have BK306 := n3_
 have BK320 := n4_
 have GW320 := n5_
 have GE320 := n6_
 have NB305_320 := n7_
 have NB320_305 := n8_
 have NB306_320 := n9_
 have NB320_306 := n10_
 have HB := n11_
 clear n0_ n1_ n2_ n3_ n4_ n5_ n6_ n7_ n8_ n9_ n10_ n11_
 have hHeld : w50.cell? ⟨gb305, 0, none⟩ = some (.int .i64 a0_0) ∧ w50.cell? ⟨gb305, 1, none⟩ = some (.slice A0_1 l0_1.length c0_1) ∧ w50.cell? ⟨gb306, 0, none⟩ = some (.int .i64 a1_0) ∧ w50.cell? ⟨gb306, 1, none⟩ = some (.int .i64 a1_1) ∧ w50.cell? ⟨gb306, 2, none⟩ = some (.int .i64 a1_2) := hS_
 obtain ⟨Ao52, co52, eo52⟩ := Kd.R_slice HO318.out
 (first | subst eo52 | (injection eo52 with f1_ f2_ f3_; have f4_ := f1_.symm; have f5_ := f3_.symm; clear f1_ f2_ f3_; subst f4_; subst f5_))
 refine norm_ (a' := ?_) ?_ ?_
 rotate_left
 ·simp only [putAll, Act.put, List.setIfInBounds_toArray, List.set_cons_zero, List.set_cons_succ]
  rfl
 refine one_ (i := 9) (N := none) #[true, true, true, true, true, true, true, true, true, true, false] rfl rfl (one_of HT_.out (by kernel_rfl)) (by decide) (fun K hK => ?_)
 have hs51 : w50.cell? ⟨gb320, 0, none⟩ = some (.int .i64 0) := (blk_cell BK320.out 0).trans rfl
 have hfs51 := blk_frozen BK320.out 0
 have hns51_0 := NB305_320.out
 have hns51_1 := NB306_320.out
 have hms51_0 := NB320_305.out
 have hms51_1 := NB320_306.out
 have hs53 : w50.cell? ⟨gb320, 1, none⟩ = some (.slice none 0 0) := (blk_cell BK320.out 1).trans rfl
 have hfs53 := blk_frozen BK320.out 1
 have hns53_0 := NB305_320.out
 have hns53_1 := NB306_320.out
 have hms53_0 := NB320_305.out
 have hms53_1 := NB320_306.out
 refine skip_ (w1 := ?_) (by rfl) rfl ?_ ?_
 rotate_left
 ·go_simp
  rfl
 refine hK.out _ _ ⟨((cell_far (p := ⟨gb320, _, none⟩) NB305_320.out _).trans (((cell_far (p := ⟨gb320, _, none⟩) NB305_320.out _).trans (hHeld.1)))), ((cell_far (p := ⟨gb320, _, none⟩) NB305_320.out _).trans (((cell_far (p := ⟨gb320, _, none⟩) NB305_320.out _).trans (hHeld.2.1)))), ((cell_far (p := ⟨gb320, _, none⟩) NB306_320.out _).trans (((cell_far (p := ⟨gb320, _, none⟩) NB306_320.out _).trans (hHeld.2.2.1)))), ((cell_far (p := ⟨gb320, _, none⟩) NB306_320.out _).trans (((cell_far (p := ⟨gb320, _, none⟩) NB306_320.out _).trans (hHeld.2.2.2.1)))), ((cell_far (p := ⟨gb320, _, none⟩) NB306_320.out _).trans (((cell_far (p := ⟨gb320, _, none⟩) NB306_320.out _).trans (hHeld.2.2.2.2))))⟩ (fun hHeld => ?_)
 clear hK K
 refine pure_ (i := 10) (N := some 7) (v := ?_) (a' := ?_) #[true, true, true, true, true, true, true, true, true, true, true] rfl rfl (any_of HT_.out (by kernel_rfl)) (fun _ _ _ h => h) (Or.inl ⟨by rfl, ?_⟩) ?_ ?_
 rotate_left
 ·intro w'
  go_simp
  with_reducible rfl
 rotate_left
 ·simp only [Act.put, List.setIfInBounds_toArray, List.set_cons_zero, List.set_cons_succ, i64_w, i32_w]
  rfl
 refine done_ (done_of HT_.out (by kernel_rfl)) ?_
 have hnb54 := NB305_320.out
 have hnc54 := NB320_305.out
 have hcz55_0 : w50.cell? ⟨gb305, 0, none⟩ = some (.int .i64 a0_0) := (blk_cell BK305.out 0).trans rfl
 have hcz55_1 : w50.cell? ⟨gb305, 1, none⟩ = some (.slice A0_1 l0_1.length c0_1) := (blk_cell BK305.out 1).trans rfl
 have hfz55_0 := blk_frozen BK305.out 0
 have hfz55_1 := blk_frozen BK305.out 1
 try go_wp2_with (first | ((with_reducible refine gate_callee (f := 22) rfl ?_); refine goesL_ (some 30) rfl rfl Try.func22 (by kernel_rfl) rfl #[.agg #[.int .i64 a0_0, .slice A0_1 l0_1.length c0_1]] rfl (by (try simp only [List.map_toArray, List.map_cons, List.map_nil]); first | done | rfl | (simp only [List.length_drop, List.length_take]; rfl)) ?_; (with_reducible refine (laws_toPuzzle.calls k a0_0 _ _ l0_1 t321 t322 _ ?side1 ?side2 A13.out).mono ?_); (case side1 => exact Kd.C_below HR0_1.out (zh HB.out)); (case side2 => exact HC0_1.out); rintro e w56 ⟨v323, rfl, ho0, hb⟩; refine ⟨_, rfl, ?_⟩; have n0_ := Aside0.mk (Kd.R_elder' (by (with_reducible repeat (first | apply Kd.R_alloc | apply Kd.R_drewN | apply Kd.R_drew)); exact (Kd.R_mono (Kd.R_far (p := ⟨gb320, 1, none⟩) (Kd.R_far (p := ⟨gb320, 0, none⟩) (Kd.R_types HO311.out BK320.out (by decide)) (fun _ hk => hk.2) (.int .i64 t315)) (fun _ hk => hk.2) (.slice Ao52 t316.length co52)) (fun _ h_ => h_.1))) (Kd.R_base ho0) hb); have n1_ := Aside0.mk (Kd.R_elder' (by (with_reducible repeat (first | apply Kd.R_alloc | apply Kd.R_drewN | apply Kd.R_drew)); exact (Kd.R_mono (Kd.R_far (p := ⟨gb320, 1, none⟩) (Kd.R_far (p := ⟨gb320, 0, none⟩) (Kd.R_types HO318.out BK320.out (by decide)) (fun _ hk => hk.2) (.int .i64 t315)) (fun _ hk => hk.2) (.slice Ao52 t316.length co52)) (fun _ h_ => h_.1))) (Kd.R_base ho0) hb); have n2_ := Aside0.mk (Kd.R_lower (Kd.R_new' (Kd.R_new' ho0 (Kd.R_lt (by (with_reducible repeat (first | apply Kd.R_alloc | apply Kd.R_drewN | apply Kd.R_drew)); exact (Kd.R_mono (Kd.R_far (p := ⟨gb320, 1, none⟩) (Kd.R_far (p := ⟨gb320, 0, none⟩) (Kd.R_types HO311.out BK320.out (by decide)) (fun _ hk => hk.2) (.int .i64 t315)) (fun _ hk => hk.2) (.slice Ao52 t316.length co52)) (fun _ h_ => h_.1))))) (Kd.R_lt (by (with_reducible repeat (first | apply Kd.R_alloc | apply Kd.R_drewN | apply Kd.R_drew)); exact (Kd.R_mono (Kd.R_far (p := ⟨gb320, 1, none⟩) (Kd.R_far (p := ⟨gb320, 0, none⟩) (Kd.R_types HO318.out BK320.out (by decide)) (fun _ hk => hk.2) (.int .i64 t315)) (fun _ hk => hk.2) (.slice Ao52 t316.length co52)) (fun _ h_ => h_.1))))) (below_size (zh HB.out))); have n3_ := Aside0.mk (blk_below (g := gb305) (o := .cells #[.int .i64 a0_0, .slice A0_1 l0_1.length c0_1] 40 (0, 0)) (by (with_reducible repeat (first | refine blk_drewN ?_ _ | refine blk_drew ?_ | refine blk_alloc ?_ _)); refine blk_far ?_ NB305_320.out _; (with_reducible repeat (first | refine blk_drewN ?_ _ | refine blk_drew ?_ | refine blk_alloc ?_ _)); refine blk_far ?_ NB305_320.out _; (with_reducible repeat (first | refine blk_drewN ?_ _ | refine blk_drew ?_ | refine blk_alloc ?_ _)); exact BK305.out) hb); have n4_ := Aside0.mk (blk_below (g := gb306) (o := .cells #[.int .i64 a1_0, .int .i64 a1_1, .int .i64 a1_2] 23 (0, 0)) (by (with_reducible repeat (first | refine blk_drewN ?_ _ | refine blk_drew ?_ | refine blk_alloc ?_ _)); refine blk_far ?_ NB306_320.out _; (with_reducible repeat (first | refine blk_drewN ?_ _ | refine blk_drew ?_ | refine blk_alloc ?_ _)); refine blk_far ?_ NB306_320.out _; (with_reducible repeat (first | refine blk_drewN ?_ _ | refine blk_drew ?_ | refine blk_alloc ?_ _)); exact BK306.out) hb); have n5_ := Aside0.mk (blk_below (g := gb320) (o := .cells #[.int .i64 t315, .slice Ao52 t316.length co52] 45 (0, 0)) (by (with_reducible repeat (first | refine blk_drewN ?_ _ | refine blk_drew ?_ | refine blk_alloc ?_ _)); refine blk_put (cs := #[.int .i64 t315, .slice none 0 0]) ?_ 1 _ rfl; (with_reducible repeat (first | refine blk_drewN ?_ _ | refine blk_drew ?_ | refine blk_alloc ?_ _)); refine blk_put (cs := #[.int .i64 0, .slice none 0 0]) ?_ 0 _ rfl; (with_reducible repeat (first | refine blk_drewN ?_ _ | refine blk_drew ?_ | refine blk_alloc ?_ _)); exact BK320.out) hb); have n6_ := Aside0.mk (below_step (zh HB.out) hb); clear HO311; clear HO318; clear BK305; clear BK306; clear BK320; clear HB; have HO311 := n0_; have HO318 := n1_; have HO324 := n2_; have BK305 := n3_; have BK306 := n4_; have BK320 := n5_; have HB := n6_; clear n0_ n1_ n2_ n3_ n4_ n5_ n6_; (try clear hb); (try clear hb2); (try clear hk); (try clear hi); (try clear ho0)) | ((with_reducible refine gate_dst (N := 8) rfl ?_); refine box_event ?hg (N := 8) ?hd (cs := #[.int .i64 0, .slice none 0 0]) (t := 45) ?hr ?_; (case hd => rfl); (case hg => rfl); (case hr => first | (go_simp; done) | (go_simp; rfl)); intro gb325 hg w57 hbox hb; have n0_ := Aside0.mk (Kd.R_below (zr HO311.out) hb); have n1_ := Aside0.mk (Kd.R_below (zr HO318.out) hb); have n2_ := Aside0.mk (Kd.R_below (zr HO324.out) hb); have n3_ := Aside0.mk (blk_below (g := gb305) (o := .cells #[.int .i64 a0_0, .slice A0_1 l0_1.length c0_1] 40 (0, 0)) (zb BK305.out) hb); have n4_ := Aside0.mk (blk_below (g := gb306) (o := .cells #[.int .i64 a1_0, .int .i64 a1_1, .int .i64 a1_2] 23 (0, 0)) (zb BK306.out) hb); have n5_ := Aside0.mk (blk_below (g := gb320) (o := .cells #[.int .i64 t315, .slice Ao52 t316.length co52] 45 (0, 0)) (zb BK320.out) hb); have n6_ := Aside0.mk (below_step (zh HB.out) hb); have n7_ := Aside0.mk (hbox); have n8_ := Aside0.mk ((by rw [hg]; exact (below_size (zh HB.out)) : w.heap.size ≤ gb325)); have n9_ := Aside0.mk ((by rw [hg]; exact (below_size (zh HB.out)) : w.heap.size ≤ gb325)); have n10_ := Aside0.mk ((by rw [hg]; exact Nat.ne_of_lt (blk_lt (g := gb305) (o := .cells #[.int .i64 a0_0, .slice A0_1 l0_1.length c0_1] 40 (0, 0)) (zb BK305.out)) : gb305 ≠ gb325)); have n11_ := Aside0.mk ((by rw [hg]; exact Nat.ne_of_gt (blk_lt (g := gb305) (o := .cells #[.int .i64 a0_0, .slice A0_1 l0_1.length c0_1] 40 (0, 0)) (zb BK305.out)) : gb325 ≠ gb305)); have n12_ := Aside0.mk ((by rw [hg]; exact Nat.ne_of_lt (blk_lt (g := gb306) (o := .cells #[.int .i64 a1_0, .int .i64 a1_1, .int .i64 a1_2] 23 (0, 0)) (zb BK306.out)) : gb306 ≠ gb325)); have n13_ := Aside0.mk ((by rw [hg]; exact Nat.ne_of_gt (blk_lt (g := gb306) (o := .cells #[.int .i64 a1_0, .int .i64 a1_1, .int .i64 a1_2] 23 (0, 0)) (zb BK306.out)) : gb325 ≠ gb306)); have n14_ := Aside0.mk ((by rw [hg]; exact Nat.ne_of_lt (blk_lt (g := gb320) (o := .cells #[.int .i64 t315, .slice Ao52 t316.length co52] 45 (0, 0)) (zb BK320.out)) : gb320 ≠ gb325)); have n15_ := Aside0.mk ((by rw [hg]; exact Nat.ne_of_gt (blk_lt (g := gb320) (o := .cells #[.int .i64 t315, .slice Ao52 t316.length co52] 45 (0, 0)) (zb BK320.out)) : gb325 ≠ gb320)); clear HO311; clear HO318; clear HO324; clear BK305; clear BK306; clear BK320; clear HB; have HO311 := n0_; have HO318 := n1_; have HO324 := n2_; have BK305 := n3_; have BK306 := n4_; have BK320 := n5_; have HB := n6_; have BK325 := n7_; have GW325 := n8_; have GE325 := n9_; have NB305_325 := n10_; have NB325_305 := n11_; have NB306_325 := n12_; have NB325_306 := n13_; have NB320_325 := n14_; have NB325_320 := n15_; clear n0_ n1_ n2_ n3_ n4_ n5_ n6_ n7_ n8_ n9_ n10_ n11_ n12_ n13_ n14_ n15_; clear hb hbox hg; have hnb58 := NB325_305.out; have hnc58 := NB305_325.out; have hnb59 := NB325_306.out; have hnc59 := NB306_325.out; have hnb60 := NB325_320.out; have hnc60 := NB320_325.out; have hcz61_0 : w57.cell? ⟨gb325, 0, none⟩ = some (.int .i64 0) := (blk_cell BK325.out 0).trans rfl; have hcz61_1 : w57.cell? ⟨gb325, 1, none⟩ = some (.slice none 0 0) := (blk_cell BK325.out 1).trans rfl; have hfz61_0 := blk_frozen BK325.out 0; have hfz61_1 := blk_frozen BK325.out 1; obtain ⟨Ao62, co62, eo62⟩ := Kd.R_slice HO324.out; subst eo62))
 have n0_ : Aside0 (Kd.R k25 25 ((w57.setCell ⟨gb325, 0, none⟩ (.int .i64 t321)).setCell ⟨gb325, 1, none⟩ (.slice Ao62 t322.length co62)) w.heap.size (fun k_ => some k_ ≠ (.slice Ao52 t316.length co52 : Value).ownBlock ∧ some k_ ≠ (.slice Ao62 t322.length co62 : Value).ownBlock) v310 t309) := ⟨by (with_reducible repeat (first | apply Kd.R_alloc | apply Kd.R_drewN | apply Kd.R_drew)); exact Kd.R_mono (Kd.R_far (p := ⟨gb325, 1, none⟩) (Kd.R_far (p := ⟨gb325, 0, none⟩) (Kd.R_types HO311.out BK325.out (by decide)) (fun _ hk => hk.2) (.int .i64 t321)) (fun _ hk => hk.2) (.slice Ao62 t322.length co62)) (fun _ hk => ⟨hk.1.1, hk.1.2⟩)⟩
 have n1_ : Aside0 (Kd.R k25 25 ((w57.setCell ⟨gb325, 0, none⟩ (.int .i64 t321)).setCell ⟨gb325, 1, none⟩ (.slice Ao62 t322.length co62)) w.heap.size (fun k_ => some k_ ≠ (v310 : Value).ownBlock ∧ some k_ ≠ (.slice Ao62 t322.length co62 : Value).ownBlock) (.slice Ao52 t316.length co52) t316) := ⟨by (with_reducible repeat (first | apply Kd.R_alloc | apply Kd.R_drewN | apply Kd.R_drew)); exact Kd.R_mono (Kd.R_far (p := ⟨gb325, 1, none⟩) (Kd.R_far (p := ⟨gb325, 0, none⟩) (Kd.R_types HO318.out BK325.out (by decide)) (fun _ hk => hk.2) (.int .i64 t321)) (fun _ hk => hk.2) (.slice Ao62 t322.length co62)) (fun _ hk => ⟨hk.1.1, hk.1.2⟩)⟩
 have n2_ : Aside0 (Kd.R k25 25 ((w57.setCell ⟨gb325, 0, none⟩ (.int .i64 t321)).setCell ⟨gb325, 1, none⟩ (.slice Ao62 t322.length co62)) w.heap.size (fun k_ => some k_ ≠ (v310 : Value).ownBlock ∧ some k_ ≠ (.slice Ao52 t316.length co52 : Value).ownBlock) (.slice Ao62 t322.length co62) t322) := ⟨by (with_reducible repeat (first | apply Kd.R_alloc | apply Kd.R_drewN | apply Kd.R_drew)); exact Kd.R_mono (Kd.R_far (p := ⟨gb325, 1, none⟩) (Kd.R_far (p := ⟨gb325, 0, none⟩) (Kd.R_types HO324.out BK325.out (by decide)) (fun _ hk => hk.2) (.int .i64 t321)) (fun _ hk => hk.2) (.slice Ao62 t322.length co62)) (fun _ hk => ⟨hk.1.1.2, hk.1.2⟩)⟩
 have n3_ : Aside0 (((w57.setCell ⟨gb325, 0, none⟩ (.int .i64 t321)).setCell ⟨gb325, 1, none⟩ (.slice Ao62 t322.length co62)).heap[gb305]? = some (.cells #[.int .i64 a0_0, .slice A0_1 l0_1.length c0_1] 40 (0, 0))) := ⟨by (with_reducible repeat (first | refine blk_drewN ?_ _ | refine blk_drew ?_ | refine blk_alloc ?_ _)); refine blk_far ?_ NB305_325.out _; (with_reducible repeat (first | refine blk_drewN ?_ _ | refine blk_drew ?_ | refine blk_alloc ?_ _)); refine blk_far ?_ NB305_325.out _; (with_reducible repeat (first | refine blk_drewN ?_ _ | refine blk_drew ?_ | refine blk_alloc ?_ _)); exact BK305.out⟩
 have n4_ : Aside0 (((w57.setCell ⟨gb325, 0, none⟩ (.int .i64 t321)).setCell ⟨gb325, 1, none⟩ (.slice Ao62 t322.length co62)).heap[gb306]? = some (.cells #[.int .i64 a1_0, .int .i64 a1_1, .int .i64 a1_2] 23 (0, 0))) := ⟨by (with_reducible repeat (first | refine blk_drewN ?_ _ | refine blk_drew ?_ | refine blk_alloc ?_ _)); refine blk_far ?_ NB306_325.out _; (with_reducible repeat (first | refine blk_drewN ?_ _ | refine blk_drew ?_ | refine blk_alloc ?_ _)); refine blk_far ?_ NB306_325.out _; (with_reducible repeat (first | refine blk_drewN ?_ _ | refine blk_drew ?_ | refine blk_alloc ?_ _)); exact BK306.out⟩
 have n5_ : Aside0 (((w57.setCell ⟨gb325, 0, none⟩ (.int .i64 t321)).setCell ⟨gb325, 1, none⟩ (.slice Ao62 t322.length co62)).heap[gb320]? = some (.cells #[.int .i64 t315, .slice Ao52 t316.length co52] 45 (0, 0))) := ⟨by (with_reducible repeat (first | refine blk_drewN ?_ _ | refine blk_drew ?_ | refine blk_alloc ?_ _)); refine blk_far ?_ NB320_325.out _; (with_reducible repeat (first | refine blk_drewN ?_ _ | refine blk_drew ?_ | refine blk_alloc ?_ _)); refine blk_far ?_ NB320_325.out _; (with_reducible repeat (first | refine blk_drewN ?_ _ | refine blk_drew ?_ | refine blk_alloc ?_ _)); exact BK320.out⟩
 have n6_ : Aside0 (((w57.setCell ⟨gb325, 0, none⟩ (.int .i64 t321)).setCell ⟨gb325, 1, none⟩ (.slice Ao62 t322.length co62)).heap[gb325]? = some (.cells #[.int .i64 t321, .slice Ao62 t322.length co62] 45 (0, 0))) := ⟨by (with_reducible repeat (first | refine blk_drewN ?_ _ | refine blk_drew ?_ | refine blk_alloc ?_ _)); refine blk_put (cs := #[.int .i64 t321, .slice none 0 0]) ?_ 1 _ rfl; (with_reducible repeat (first | refine blk_drewN ?_ _ | refine blk_drew ?_ | refine blk_alloc ?_ _)); refine blk_put (cs := #[.int .i64 0, .slice none 0 0]) ?_ 0 _ rfl; (with_reducible repeat (first | refine blk_drewN ?_ _ | refine blk_drew ?_ | refine blk_alloc ?_ _)); exact BK325.out⟩
 have n7_ : Aside0 (Below w.heap.size w ((w57.setCell ⟨gb325, 0, none⟩ (.int .i64 t321)).setCell ⟨gb325, 1, none⟩ (.slice Ao62 t322.length co62))) := ⟨by repeat (first | (with_reducible first | exact HB.out | apply below_alloc | apply pw_below_drewN | apply below_drew1 | refine below_set ?_ GE305.out | refine below_set ?_ GE306.out | refine below_set ?_ GE320.out | refine below_set ?_ GE325.out) | exact HB.out)⟩
 (try clear HO311)
 (try clear HO318)
 (try clear HO324)
 (try clear BK305)
 (try clear BK306)
 (try clear BK320)
 (try clear BK325)
 (try clear HB)
 generalize ((w57.setCell ⟨gb325, 0, none⟩ (.int .i64 t321)).setCell ⟨gb325, 1, none⟩ (.slice Ao62 t322.length co62)) = w63 at n0_ n1_ n2_ n3_ n4_ n5_ n6_ n7_ ⊢
 have HO311 := n0_
 have HO318 := n1_
 have HO324 := n2_
 have BK305 := n3_
 have BK306 := n4_
 have BK320 := n5_
 have BK325 := n6_
 have HB := n7_
 clear n0_ n1_ n2_ n3_ n4_ n5_ n6_ n7_
 have n0_ := Aside0.mk (Kd.R_drew HO311.out)
 have n1_ := Aside0.mk (Kd.R_drew HO318.out)
 have n2_ := Aside0.mk (Kd.R_drew HO324.out)
 have n3_ := Aside0.mk (blk_drew BK305.out)
 have n4_ := Aside0.mk (blk_drew BK306.out)
 have n5_ := Aside0.mk (blk_drew BK320.out)
 have n6_ := Aside0.mk (blk_drew BK325.out)
 have n7_ := Aside0.mk (below_drew1 HB.out)
 clear HO311
 clear HO318
 clear HO324
 clear BK305
 clear BK306
 clear BK320
 clear BK325
 clear HB
 have HO311 := n0_
 have HO318 := n1_
 have HO324 := n2_
 have BK305 := n3_
 have BK306 := n4_
 have BK320 := n5_
 have BK325 := n6_
 have HB := n7_
 clear n0_ n1_ n2_ n3_ n4_ n5_ n6_ n7_
 refine start_ (n := 10) (S := fun w' => w'.cell? ⟨gb325, 0, none⟩ = some (.int .i64 t321) ∧ w'.cell? ⟨gb325, 1, none⟩ = some (.slice Ao62 t322.length co62) ∧ w'.cell? ⟨gb306, 0, none⟩ = some (.int .i64 a1_0) ∧ w'.cell? ⟨gb306, 1, none⟩ = some (.int .i64 a1_1) ∧ w'.cell? ⟨gb306, 2, none⟩ = some (.int .i64 a1_2)) (ds := []) #[false, false, false, false, false, false, false, false, false, false] (by kernel_rfl) rfl rfl ⟨(blk_cell BK325.out 0).trans rfl, (blk_cell BK325.out 1).trans rfl, (blk_cell BK306.out 0).trans rfl, (blk_cell BK306.out 1).trans rfl, (blk_cell BK306.out 2).trans rfl⟩ (fun hHeld => ?_); refine with_tabW laws_FnExactAddClue.tab7 laws_FnExactAddClue.bits7 (fun HT_ HW_ => ?_)
 generalize w63.drew = w64 at HO311 HO318 HO324 BK305 BK306 BK320 BK325 HB hHeld ⊢
 refine take_ (i := 0) (N := some 32) (v := ?_) (a' := ?_) #[true, false, false, false, false, false, false, false, false, false] rfl rfl (take_ofW HT_.out HW_.out (by kernel_rfl)) (fun _ _ _ h => h) (Or.inl ⟨by rfl, ?_⟩) hHeld ?_ ?_
 rotate_left
 ·rintro w' ⟨s0, s1, s2, s3, s4⟩
  go_simp
  with_reducible rfl
 rotate_left
 ·simp only [Act.put, List.setIfInBounds_toArray, List.set_cons_zero, List.set_cons_succ, i64_w, i32_w]
  rfl
 refine take_ (i := 1) (N := some 33) (v := ?_) (a' := ?_) #[true, true, false, false, false, false, false, false, false, false] rfl rfl (take_ofW HT_.out HW_.out (by kernel_rfl)) (fun _ _ _ h => h) (Or.inl ⟨by rfl, ?_⟩) hHeld ?_ ?_
 rotate_left
 ·rintro w' ⟨s0, s1, s2, s3, s4⟩
  go_simp
  with_reducible rfl
 rotate_left
 ·simp only [Act.put, List.setIfInBounds_toArray, List.set_cons_zero, List.set_cons_succ, i64_w, i32_w]
  rfl
 refine join_ (σ := Value × Nat) 2 #[true, true, true, true, true, true, true, true, false, false] (fun s_ => [(34, .agg #[.int .i64 t326, .int .i64 t327, .int .i64 t328]), (35, .tuple #[.agg #[.int .i64 t329, s_.1], .bool t333]), (9, .pointer (some ⟨s_.2, 0, none⟩)), (31, .tuple #[.agg #[.int .i64 t329, s_.1], .bool t333]), (36, .agg #[.int .i64 t329, s_.1]), (37, .bool t333)]) (fun s_ w' => (w'.cell? ⟨gb325, 0, none⟩ = some (.int .i64 t321) ∧ w'.cell? ⟨gb325, 1, none⟩ = some (.slice Ao62 t322.length co62) ∧ w'.cell? ⟨gb306, 0, none⟩ = some (.int .i64 a1_0) ∧ w'.cell? ⟨gb306, 1, none⟩ = some (.int .i64 a1_1) ∧ w'.cell? ⟨gb306, 2, none⟩ = some (.int .i64 a1_2)) ∧ (Kd.R k25 25 w' w.heap.size (fun k_ => some k_ ≠ (.slice Ao52 t316.length co52 : Value).ownBlock ∧ some k_ ≠ (.slice Ao62 t322.length co62 : Value).ownBlock ∧ some k_ ≠ (s_.1 : Value).ownBlock) v310 t309) ∧ (Kd.R k25 25 w' w.heap.size (fun k_ => some k_ ≠ (v310 : Value).ownBlock ∧ some k_ ≠ (.slice Ao62 t322.length co62 : Value).ownBlock ∧ some k_ ≠ (s_.1 : Value).ownBlock) (.slice Ao52 t316.length co52) t316) ∧ (Kd.R k25 25 w' w.heap.size (fun k_ => some k_ ≠ (v310 : Value).ownBlock ∧ some k_ ≠ (.slice Ao52 t316.length co52 : Value).ownBlock ∧ some k_ ≠ (s_.1 : Value).ownBlock) (.slice Ao62 t322.length co62) t322) ∧ (Kd.R k25 25 w' w.heap.size (fun k_ => some k_ ≠ (v310 : Value).ownBlock ∧ some k_ ≠ (.slice Ao52 t316.length co52 : Value).ownBlock ∧ some k_ ≠ (.slice Ao62 t322.length co62 : Value).ownBlock) s_.1 t330) ∧ (w'.heap[gb305]? = some (.cells #[.int .i64 a0_0, .slice A0_1 l0_1.length c0_1] 40 (0, 0))) ∧ (w'.heap[gb306]? = some (.cells #[.int .i64 a1_0, .int .i64 a1_1, .int .i64 a1_2] 23 (0, 0))) ∧ (w'.heap[gb320]? = some (.cells #[.int .i64 t315, .slice Ao52 t316.length co52] 45 (0, 0))) ∧ (w'.heap[gb325]? = some (.cells #[.int .i64 t321, .slice Ao62 t322.length co62] 45 (0, 0))) ∧ (w'.heap[s_.2]? = some (.cells #[.int .i64 0, .slice none 0 0] 45 (0, 0))) ∧ (w.heap.size ≤ s_.2) ∧ (w.heap.size ≤ s_.2) ∧ (gb305 ≠ s_.2) ∧ (s_.2 ≠ gb305) ∧ (gb306 ≠ s_.2) ∧ (s_.2 ≠ gb306) ∧ (gb320 ≠ s_.2) ∧ (s_.2 ≠ gb320) ∧ (gb325 ≠ s_.2) ∧ (s_.2 ≠ gb325) ∧ (Below w.heap.size w w')) ?_ ?_
 rotate_left
 ·intro hCont
  refine two_ (i := 2) (j := 7) (Ni := some 34) (Nj := some 9) #[true, true, true, false, false, false, false, false, false, false] #[true, true, false, false, false, false, false, true, false, false] rfl rfl rfl rfl (two_of HT_.out (by kernel_rfl)) (by decide) (by decide) (fun K hK => ?_) (fun K hK => ?_)
  ·skip
   refine goes_ Try.func10 (by kernel_rfl) rfl #[.agg #[.int .i64 a1_0, .int .i64 a1_1, .int .i64 a1_2]] (by rfl) rfl rfl (by (try simp only [List.map_toArray, List.map_cons, List.map_nil]); first | done | rfl | (simp only [List.length_drop, List.length_take]; rfl)) ?_
   with_reducible refine (laws_toClue.calls a1_0 a1_1 a1_2 t326 t327 t328 _ A14.out).mono ?_
   rintro e w65 ⟨rfl, hb⟩
   refine ⟨_, rfl, ?_⟩
   have n0_ := Aside0.mk (Kd.R_below (zr HO311.out) hb)
   have n1_ := Aside0.mk (Kd.R_below (zr HO318.out) hb)
   have n2_ := Aside0.mk (Kd.R_below (zr HO324.out) hb)
   have n3_ := Aside0.mk (blk_below (g := gb305) (o := .cells #[.int .i64 a0_0, .slice A0_1 l0_1.length c0_1] 40 (0, 0)) (zb BK305.out) hb)
   have n4_ := Aside0.mk (blk_below (g := gb306) (o := .cells #[.int .i64 a1_0, .int .i64 a1_1, .int .i64 a1_2] 23 (0, 0)) (zb BK306.out) hb)
   have n5_ := Aside0.mk (blk_below (g := gb320) (o := .cells #[.int .i64 t315, .slice Ao52 t316.length co52] 45 (0, 0)) (zb BK320.out) hb)
   have n6_ := Aside0.mk (blk_below (g := gb325) (o := .cells #[.int .i64 t321, .slice Ao62 t322.length co62] 45 (0, 0)) (zb BK325.out) hb)
   have n7_ := Aside0.mk (below_step (zh HB.out) hb)
   clear HO311
   clear HO318
   clear HO324
   clear BK305
   clear BK306
   clear BK320
   clear BK325
   clear HB
   have HO311 := n0_
   have HO318 := n1_
   have HO324 := n2_
   have BK305 := n3_
   have BK306 := n4_
   have BK320 := n5_
   have BK325 := n6_
   have HB := n7_
   clear n0_ n1_ n2_ n3_ n4_ n5_ n6_ n7_
   (try clear hb)
   (try clear hb2)
   (try clear hk)
   (try clear hi)
   refine hK.out _ _ ⟨(blk_cell BK325.out 0).trans rfl, (blk_cell BK325.out 1).trans rfl, (blk_cell BK306.out 0).trans rfl, (blk_cell BK306.out 1).trans rfl, (blk_cell BK306.out 2).trans rfl⟩ (fun hHeld => ?_)
   clear hK K
   refine norm_ (a' := ?_) ?_ ?_
   rotate_left
   ·show Act.put _ (some 34) _ = _
    simp only [Act.put, List.setIfInBounds_toArray, List.set_cons_zero, List.set_cons_succ, i64_w, i32_w]
    rfl
   refine two_ (i := 3) (j := 7) (Ni := some 35) (Nj := some 9) #[true, true, true, true, false, false, false, false, false, false] #[true, true, true, false, false, false, false, true, false, false] rfl rfl rfl rfl (two_of HT_.out (by kernel_rfl)) (by decide) (by decide) (fun K hK => ?_) (fun K hK => ?_)
   ·skip
    refine goes_ Try.func26 (by kernel_rfl) rfl #[.agg #[.int .i64 t321, .slice Ao62 t322.length co62], .agg #[.int .i64 t326, .int .i64 t327, .int .i64 t328]] (by rfl) rfl rfl (by (try simp only [List.map_toArray, List.map_cons, List.map_nil]); first | done | rfl | (simp only [List.length_drop, List.length_take]; rfl)) ?_
    with_reducible refine (impl_AddClue.calls t321 _ _ t322 t326 t327 t328 t329 t330 t333 _ ?side1 ?side2 A15.out).mono ?_
    (case side1 => repeat (first | exact (Kd.R_reads' HO324.out).2.2 | (with_reducible refine Kd.C_alloc ?_ _) | (with_reducible refine Kd.C_drewN ?_ _) | (with_reducible refine Kd.C_drew ?_)))
    (case side2 => exact (Kd.R_reads' HO324.out).2.1)
    rintro e w66 ⟨v331, rfl, ho0, hb⟩
    refine ⟨_, rfl, ?_⟩
    have n0_ := Aside0.mk (Kd.R_elder' (zr HO311.out) (Kd.R_base ho0) hb)
    have n1_ := Aside0.mk (Kd.R_elder' (zr HO318.out) (Kd.R_base ho0) hb)
    have n2_ := Aside0.mk (Kd.R_elder' (zr HO324.out) (Kd.R_base ho0) hb)
    have n3_ := Aside0.mk (Kd.R_lower (Kd.R_new' (Kd.R_new' (Kd.R_new' ho0 (Kd.R_lt (zr HO311.out))) (Kd.R_lt (zr HO318.out))) (Kd.R_lt (zr HO324.out))) (below_size (zh HB.out)))
    have n4_ := Aside0.mk (blk_below (g := gb305) (o := .cells #[.int .i64 a0_0, .slice A0_1 l0_1.length c0_1] 40 (0, 0)) (zb BK305.out) hb)
    have n5_ := Aside0.mk (blk_below (g := gb306) (o := .cells #[.int .i64 a1_0, .int .i64 a1_1, .int .i64 a1_2] 23 (0, 0)) (zb BK306.out) hb)
    have n6_ := Aside0.mk (blk_below (g := gb320) (o := .cells #[.int .i64 t315, .slice Ao52 t316.length co52] 45 (0, 0)) (zb BK320.out) hb)
    have n7_ := Aside0.mk (blk_below (g := gb325) (o := .cells #[.int .i64 t321, .slice Ao62 t322.length co62] 45 (0, 0)) (zb BK325.out) hb)
    have n8_ := Aside0.mk (below_step (zh HB.out) hb)
    clear HO311
    clear HO318
    clear HO324
    clear BK305
    clear BK306
    clear BK320
    clear BK325
    clear HB
    have HO311 := n0_
    have HO318 := n1_
    have HO324 := n2_
    have HO332 := n3_
    have BK305 := n4_
    have BK306 := n5_
    have BK320 := n6_
    have BK325 := n7_
    have HB := n8_
    clear n0_ n1_ n2_ n3_ n4_ n5_ n6_ n7_ n8_
    (try clear hb)
    (try clear hb2)
    (try clear hk)
    (try clear hi)
    (try clear ho0)
    refine hK.out _ _ ⟨(blk_cell BK325.out 0).trans rfl, (blk_cell BK325.out 1).trans rfl, (blk_cell BK306.out 0).trans rfl, (blk_cell BK306.out 1).trans rfl, (blk_cell BK306.out 2).trans rfl⟩ (fun hHeld => ?_)
    clear hK K
    refine norm_ (a' := ?_) ?_ ?_
    rotate_left
    ·show Act.put _ (some 35) _ = _
     simp only [Act.put, List.setIfInBounds_toArray, List.set_cons_zero, List.set_cons_succ, i64_w, i32_w]
     rfl
    refine pure_ (i := 4) (N := some 31) (v := ?_) (a' := ?_) #[true, true, true, true, true, false, false, false, false, false] rfl rfl (any_of HT_.out (by kernel_rfl)) (fun _ _ _ h => h) (Or.inl ⟨by rfl, ?_⟩) ?_ ?_
    rotate_left
    ·intro w'
     go_simp
     with_reducible rfl
    rotate_left
    ·simp only [Act.put, List.setIfInBounds_toArray, List.set_cons_zero, List.set_cons_succ, i64_w, i32_w]
     rfl
    refine pure_ (i := 5) (N := some 36) (v := ?_) (a' := ?_) #[true, true, true, true, true, true, false, false, false, false] rfl rfl (any_of HT_.out (by kernel_rfl)) (fun _ _ _ h => h) (Or.inl ⟨by rfl, ?_⟩) ?_ ?_
    rotate_left
    ·intro w'
     go_simp
     with_reducible rfl
    rotate_left
    ·simp only [Act.put, List.setIfInBounds_toArray, List.set_cons_zero, List.set_cons_succ, i64_w, i32_w]
     rfl
    refine pure_ (i := 6) (N := some 37) (v := ?_) (a' := ?_) #[true, true, true, true, true, true, true, false, false, false] rfl rfl (any_of HT_.out (by kernel_rfl)) (fun _ _ _ h => h) (Or.inl ⟨by rfl, ?_⟩) ?_ ?_
    rotate_left
    ·intro w'
     go_simp
     with_reducible rfl
    rotate_left
    ·simp only [Act.put, List.setIfInBounds_toArray, List.set_cons_zero, List.set_cons_succ, i64_w, i32_w]
     rfl
    refine one_ (i := 7) (N := some 9) #[true, true, true, true, true, true, true, true, false, false] rfl rfl (one_of HT_.out (by kernel_rfl)) (by decide) (fun K hK => ?_)
    refine box_step ?hg (N := 9) ?hd (cs := #[.int .i64 0, .slice none 0 0]) (t := 45) ?hr ?_; (case hd => rfl); (case hg => rfl); (case hr => first | (go_simp; done) | (go_simp; rfl))
    intro gb334 hg w67 hbox hb
    have n0_ := Aside0.mk (Kd.R_below (zr HO311.out) hb)
    have n1_ := Aside0.mk (Kd.R_below (zr HO318.out) hb)
    have n2_ := Aside0.mk (Kd.R_below (zr HO324.out) hb)
    have n3_ := Aside0.mk (Kd.R_below (zr HO332.out) hb)
    have n4_ := Aside0.mk (blk_below (g := gb305) (o := .cells #[.int .i64 a0_0, .slice A0_1 l0_1.length c0_1] 40 (0, 0)) (zb BK305.out) hb)
    have n5_ := Aside0.mk (blk_below (g := gb306) (o := .cells #[.int .i64 a1_0, .int .i64 a1_1, .int .i64 a1_2] 23 (0, 0)) (zb BK306.out) hb)
    have n6_ := Aside0.mk (blk_below (g := gb320) (o := .cells #[.int .i64 t315, .slice Ao52 t316.length co52] 45 (0, 0)) (zb BK320.out) hb)
    have n7_ := Aside0.mk (blk_below (g := gb325) (o := .cells #[.int .i64 t321, .slice Ao62 t322.length co62] 45 (0, 0)) (zb BK325.out) hb)
    have n8_ := Aside0.mk (below_step (zh HB.out) hb)
    have n9_ := Aside0.mk (hbox)
    have n10_ := Aside0.mk ((by rw [hg]; exact (below_size (zh HB.out)) : w.heap.size ≤ gb334))
    have n11_ := Aside0.mk ((by rw [hg]; exact (below_size (zh HB.out)) : w.heap.size ≤ gb334))
    have n12_ := Aside0.mk ((by rw [hg]; exact Nat.ne_of_lt (blk_lt (g := gb305) (o := .cells #[.int .i64 a0_0, .slice A0_1 l0_1.length c0_1] 40 (0, 0)) (zb BK305.out)) : gb305 ≠ gb334))
    have n13_ := Aside0.mk ((by rw [hg]; exact Nat.ne_of_gt (blk_lt (g := gb305) (o := .cells #[.int .i64 a0_0, .slice A0_1 l0_1.length c0_1] 40 (0, 0)) (zb BK305.out)) : gb334 ≠ gb305))
    have n14_ := Aside0.mk ((by rw [hg]; exact Nat.ne_of_lt (blk_lt (g := gb306) (o := .cells #[.int .i64 a1_0, .int .i64 a1_1, .int .i64 a1_2] 23 (0, 0)) (zb BK306.out)) : gb306 ≠ gb334))
    have n15_ := Aside0.mk ((by rw [hg]; exact Nat.ne_of_gt (blk_lt (g := gb306) (o := .cells #[.int .i64 a1_0, .int .i64 a1_1, .int .i64 a1_2] 23 (0, 0)) (zb BK306.out)) : gb334 ≠ gb306))
    have n16_ := Aside0.mk ((by rw [hg]; exact Nat.ne_of_lt (blk_lt (g := gb320) (o := .cells #[.int .i64 t315, .slice Ao52 t316.length co52] 45 (0, 0)) (zb BK320.out)) : gb320 ≠ gb334))
    have n17_ := Aside0.mk ((by rw [hg]; exact Nat.ne_of_gt (blk_lt (g := gb320) (o := .cells #[.int .i64 t315, .slice Ao52 t316.length co52] 45 (0, 0)) (zb BK320.out)) : gb334 ≠ gb320))
    have n18_ := Aside0.mk ((by rw [hg]; exact Nat.ne_of_lt (blk_lt (g := gb325) (o := .cells #[.int .i64 t321, .slice Ao62 t322.length co62] 45 (0, 0)) (zb BK325.out)) : gb325 ≠ gb334))
    have n19_ := Aside0.mk ((by rw [hg]; exact Nat.ne_of_gt (blk_lt (g := gb325) (o := .cells #[.int .i64 t321, .slice Ao62 t322.length co62] 45 (0, 0)) (zb BK325.out)) : gb334 ≠ gb325))
    clear HO311
    clear HO318
    clear HO324
    clear HO332
    clear BK305
    clear BK306
    clear BK320
    clear BK325
    clear HB
    have HO311 := n0_
    have HO318 := n1_
    have HO324 := n2_
    have HO332 := n3_
    have BK305 := n4_
    have BK306 := n5_
    have BK320 := n6_
    have BK325 := n7_
    have HB := n8_
    have BK334 := n9_
    have GW334 := n10_
    have GE334 := n11_
    have NB305_334 := n12_
    have NB334_305 := n13_
    have NB306_334 := n14_
    have NB334_306 := n15_
    have NB320_334 := n16_
    have NB334_320 := n17_
    have NB325_334 := n18_
    have NB334_325 := n19_
    clear n0_ n1_ n2_ n3_ n4_ n5_ n6_ n7_ n8_ n9_ n10_ n11_ n12_ n13_ n14_ n15_ n16_ n17_ n18_ n19_
    clear hb hbox hg
    refine hK.out _ _ ⟨(blk_cell BK325.out 0).trans rfl, (blk_cell BK325.out 1).trans rfl, (blk_cell BK306.out 0).trans rfl, (blk_cell BK306.out 1).trans rfl, (blk_cell BK306.out 2).trans rfl⟩ (fun hHeld => ?_)
    clear hK K
    refine norm_ (a' := ?_) ?_ ?_
    rotate_left
    ·show Act.put _ (some 9) _ = _
     simp only [Act.put, List.setIfInBounds_toArray, List.set_cons_zero, List.set_cons_succ, i64_w, i32_w]
     rfl
    exact norm_ (by simp only [putAll, Act.put, List.setIfInBounds_toArray, List.set_cons_zero, List.set_cons_succ]) (hCont (v331, gb334) _ ⟨hHeld, (by (with_reducible repeat (first | apply Kd.R_alloc | apply Kd.R_drewN | apply Kd.R_drew)); exact Kd.R_mono HO311.out (fun _ hk => ⟨hk.1.1, ⟨hk.1.2, hk.2⟩⟩)), (by (with_reducible repeat (first | apply Kd.R_alloc | apply Kd.R_drewN | apply Kd.R_drew)); exact Kd.R_mono HO318.out (fun _ hk => ⟨hk.1.1, ⟨hk.1.2, hk.2⟩⟩)), (by (with_reducible repeat (first | apply Kd.R_alloc | apply Kd.R_drewN | apply Kd.R_drew)); exact Kd.R_mono HO324.out (fun _ hk => ⟨hk.1.1, ⟨hk.1.2, hk.2⟩⟩)), (by (with_reducible repeat (first | apply Kd.R_alloc | apply Kd.R_drewN | apply Kd.R_drew)); exact Kd.R_mono HO332.out (fun _ hk => ⟨hk.1.1.2, ⟨hk.1.2, hk.2⟩⟩)), (zb BK305.out), (zb BK306.out), (zb BK320.out), (zb BK325.out), (zb BK334.out), GW334.out, GE334.out, NB305_334.out, NB334_305.out, NB306_334.out, NB334_306.out, NB320_334.out, NB334_320.out, NB325_334.out, NB334_325.out, (zh HB.out)⟩)
   ·skip
    refine box_step ?hg (N := 9) ?hd (cs := #[.int .i64 0, .slice none 0 0]) (t := 45) ?hr ?_; (case hd => rfl); (case hg => rfl); (case hr => first | (go_simp; done) | (go_simp; rfl))
    intro gb334 hg w66 hbox hb
    have n0_ := Aside0.mk (Kd.R_below (zr HO311.out) hb)
    have n1_ := Aside0.mk (Kd.R_below (zr HO318.out) hb)
    have n2_ := Aside0.mk (Kd.R_below (zr HO324.out) hb)
    have n3_ := Aside0.mk (blk_below (g := gb305) (o := .cells #[.int .i64 a0_0, .slice A0_1 l0_1.length c0_1] 40 (0, 0)) (zb BK305.out) hb)
    have n4_ := Aside0.mk (blk_below (g := gb306) (o := .cells #[.int .i64 a1_0, .int .i64 a1_1, .int .i64 a1_2] 23 (0, 0)) (zb BK306.out) hb)
    have n5_ := Aside0.mk (blk_below (g := gb320) (o := .cells #[.int .i64 t315, .slice Ao52 t316.length co52] 45 (0, 0)) (zb BK320.out) hb)
    have n6_ := Aside0.mk (blk_below (g := gb325) (o := .cells #[.int .i64 t321, .slice Ao62 t322.length co62] 45 (0, 0)) (zb BK325.out) hb)
    have n7_ := Aside0.mk (below_step (zh HB.out) hb)
    have n8_ := Aside0.mk (hbox)
    have n9_ := Aside0.mk ((by rw [hg]; exact (below_size (zh HB.out)) : w.heap.size ≤ gb334))
    have n10_ := Aside0.mk ((by rw [hg]; exact (below_size (zh HB.out)) : w.heap.size ≤ gb334))
    have n11_ := Aside0.mk ((by rw [hg]; exact Nat.ne_of_lt (blk_lt (g := gb305) (o := .cells #[.int .i64 a0_0, .slice A0_1 l0_1.length c0_1] 40 (0, 0)) (zb BK305.out)) : gb305 ≠ gb334))
    have n12_ := Aside0.mk ((by rw [hg]; exact Nat.ne_of_gt (blk_lt (g := gb305) (o := .cells #[.int .i64 a0_0, .slice A0_1 l0_1.length c0_1] 40 (0, 0)) (zb BK305.out)) : gb334 ≠ gb305))
    have n13_ := Aside0.mk ((by rw [hg]; exact Nat.ne_of_lt (blk_lt (g := gb306) (o := .cells #[.int .i64 a1_0, .int .i64 a1_1, .int .i64 a1_2] 23 (0, 0)) (zb BK306.out)) : gb306 ≠ gb334))
    have n14_ := Aside0.mk ((by rw [hg]; exact Nat.ne_of_gt (blk_lt (g := gb306) (o := .cells #[.int .i64 a1_0, .int .i64 a1_1, .int .i64 a1_2] 23 (0, 0)) (zb BK306.out)) : gb334 ≠ gb306))
    have n15_ := Aside0.mk ((by rw [hg]; exact Nat.ne_of_lt (blk_lt (g := gb320) (o := .cells #[.int .i64 t315, .slice Ao52 t316.length co52] 45 (0, 0)) (zb BK320.out)) : gb320 ≠ gb334))
    have n16_ := Aside0.mk ((by rw [hg]; exact Nat.ne_of_gt (blk_lt (g := gb320) (o := .cells #[.int .i64 t315, .slice Ao52 t316.length co52] 45 (0, 0)) (zb BK320.out)) : gb334 ≠ gb320))
    have n17_ := Aside0.mk ((by rw [hg]; exact Nat.ne_of_lt (blk_lt (g := gb325) (o := .cells #[.int .i64 t321, .slice Ao62 t322.length co62] 45 (0, 0)) (zb BK325.out)) : gb325 ≠ gb334))
    have n18_ := Aside0.mk ((by rw [hg]; exact Nat.ne_of_gt (blk_lt (g := gb325) (o := .cells #[.int .i64 t321, .slice Ao62 t322.length co62] 45 (0, 0)) (zb BK325.out)) : gb334 ≠ gb325))
    clear HO311
    clear HO318
    clear HO324
    clear BK305
    clear BK306
    clear BK320
    clear BK325
    clear HB
    have HO311 := n0_
    have HO318 := n1_
    have HO324 := n2_
    have BK305 := n3_
    have BK306 := n4_
    have BK320 := n5_
    have BK325 := n6_
    have HB := n7_
    have BK334 := n8_
    have GW334 := n9_
    have GE334 := n10_
    have NB305_334 := n11_
    have NB334_305 := n12_
    have NB306_334 := n13_
    have NB334_306 := n14_
    have NB320_334 := n15_
    have NB334_320 := n16_
    have NB325_334 := n17_
    have NB334_325 := n18_
    clear n0_ n1_ n2_ n3_ n4_ n5_ n6_ n7_ n8_ n9_ n10_ n11_ n12_ n13_ n14_ n15_ n16_ n17_ n18_
    clear hb hbox hg
    refine hK.out _ _ ⟨(blk_cell BK325.out 0).trans rfl, (blk_cell BK325.out 1).trans rfl, (blk_cell BK306.out 0).trans rfl, (blk_cell BK306.out 1).trans rfl, (blk_cell BK306.out 2).trans rfl⟩ (fun hHeld => ?_)
    clear hK K
    refine norm_ (a' := ?_) ?_ ?_
    rotate_left
    ·show Act.put _ (some 9) _ = _
     simp only [Act.put, List.setIfInBounds_toArray, List.set_cons_zero, List.set_cons_succ, i64_w, i32_w]
     rfl
    refine one_ (i := 3) (N := some 35) #[true, true, true, true, false, false, false, true, false, false] rfl rfl (one_of HT_.out (by kernel_rfl)) (by decide) (fun K hK => ?_)
    refine goes_ Try.func26 (by kernel_rfl) rfl #[.agg #[.int .i64 t321, .slice Ao62 t322.length co62], .agg #[.int .i64 t326, .int .i64 t327, .int .i64 t328]] (by rfl) rfl rfl (by (try simp only [List.map_toArray, List.map_cons, List.map_nil]); first | done | rfl | (simp only [List.length_drop, List.length_take]; rfl)) ?_
    with_reducible refine (impl_AddClue.calls t321 _ _ t322 t326 t327 t328 t329 t330 t333 _ ?side1 ?side2 A15.out).mono ?_
    (case side1 => repeat (first | exact (Kd.R_reads' HO324.out).2.2 | (with_reducible refine Kd.C_alloc ?_ _) | (with_reducible refine Kd.C_drewN ?_ _) | (with_reducible refine Kd.C_drew ?_)))
    (case side2 => exact (Kd.R_reads' HO324.out).2.1)
    rintro e w67 ⟨v331, rfl, ho0, hb⟩
    refine ⟨_, rfl, ?_⟩
    have n0_ := Aside0.mk (Kd.R_elder' (zr HO311.out) (Kd.R_base ho0) hb)
    have n1_ := Aside0.mk (Kd.R_elder' (zr HO318.out) (Kd.R_base ho0) hb)
    have n2_ := Aside0.mk (Kd.R_elder' (zr HO324.out) (Kd.R_base ho0) hb)
    have n3_ := Aside0.mk (Kd.R_lower (Kd.R_new' (Kd.R_new' (Kd.R_new' ho0 (Kd.R_lt (zr HO311.out))) (Kd.R_lt (zr HO318.out))) (Kd.R_lt (zr HO324.out))) (below_size (zh HB.out)))
    have n4_ := Aside0.mk (blk_below (g := gb305) (o := .cells #[.int .i64 a0_0, .slice A0_1 l0_1.length c0_1] 40 (0, 0)) (zb BK305.out) hb)
    have n5_ := Aside0.mk (blk_below (g := gb306) (o := .cells #[.int .i64 a1_0, .int .i64 a1_1, .int .i64 a1_2] 23 (0, 0)) (zb BK306.out) hb)
    have n6_ := Aside0.mk (blk_below (g := gb320) (o := .cells #[.int .i64 t315, .slice Ao52 t316.length co52] 45 (0, 0)) (zb BK320.out) hb)
    have n7_ := Aside0.mk (blk_below (g := gb325) (o := .cells #[.int .i64 t321, .slice Ao62 t322.length co62] 45 (0, 0)) (zb BK325.out) hb)
    have n8_ := Aside0.mk (blk_below (g := gb334) (o := .cells #[.int .i64 0, .slice none 0 0] 45 (0, 0)) (zb BK334.out) hb)
    have n9_ := Aside0.mk (below_step (zh HB.out) hb)
    clear HO311
    clear HO318
    clear HO324
    clear BK305
    clear BK306
    clear BK320
    clear BK325
    clear BK334
    clear HB
    have HO311 := n0_
    have HO318 := n1_
    have HO324 := n2_
    have HO332 := n3_
    have BK305 := n4_
    have BK306 := n5_
    have BK320 := n6_
    have BK325 := n7_
    have BK334 := n8_
    have HB := n9_
    clear n0_ n1_ n2_ n3_ n4_ n5_ n6_ n7_ n8_ n9_
    (try clear hb)
    (try clear hb2)
    (try clear hk)
    (try clear hi)
    (try clear ho0)
    refine hK.out _ _ ⟨(blk_cell BK325.out 0).trans rfl, (blk_cell BK325.out 1).trans rfl, (blk_cell BK306.out 0).trans rfl, (blk_cell BK306.out 1).trans rfl, (blk_cell BK306.out 2).trans rfl⟩ (fun hHeld => ?_)
    clear hK K
    refine norm_ (a' := ?_) ?_ ?_
    rotate_left
    ·show Act.put _ (some 35) _ = _
     simp only [Act.put, List.setIfInBounds_toArray, List.set_cons_zero, List.set_cons_succ, i64_w, i32_w]
     rfl
    refine pure_ (i := 4) (N := some 31) (v := ?_) (a' := ?_) #[true, true, true, true, true, false, false, true, false, false] rfl rfl (any_of HT_.out (by kernel_rfl)) (fun _ _ _ h => h) (Or.inl ⟨by rfl, ?_⟩) ?_ ?_
    rotate_left
    ·intro w'
     go_simp
     with_reducible rfl
    rotate_left
    ·simp only [Act.put, List.setIfInBounds_toArray, List.set_cons_zero, List.set_cons_succ, i64_w, i32_w]
     rfl
    refine pure_ (i := 5) (N := some 36) (v := ?_) (a' := ?_) #[true, true, true, true, true, true, false, true, false, false] rfl rfl (any_of HT_.out (by kernel_rfl)) (fun _ _ _ h => h) (Or.inl ⟨by rfl, ?_⟩) ?_ ?_
    rotate_left
    ·intro w'
     go_simp
     with_reducible rfl
    rotate_left
    ·simp only [Act.put, List.setIfInBounds_toArray, List.set_cons_zero, List.set_cons_succ, i64_w, i32_w]
     rfl
    refine pure_ (i := 6) (N := some 37) (v := ?_) (a' := ?_) #[true, true, true, true, true, true, true, true, false, false] rfl rfl (any_of HT_.out (by kernel_rfl)) (fun _ _ _ h => h) (Or.inl ⟨by rfl, ?_⟩) ?_ ?_
    rotate_left
    ·intro w'
     go_simp
     with_reducible rfl
    rotate_left
    ·simp only [Act.put, List.setIfInBounds_toArray, List.set_cons_zero, List.set_cons_succ, i64_w, i32_w]
     rfl
    exact norm_ (by simp only [putAll, Act.put, List.setIfInBounds_toArray, List.set_cons_zero, List.set_cons_succ]) (hCont (v331, gb334) _ ⟨hHeld, (by (with_reducible repeat (first | apply Kd.R_alloc | apply Kd.R_drewN | apply Kd.R_drew)); exact Kd.R_mono HO311.out (fun _ hk => ⟨hk.1.1, ⟨hk.1.2, hk.2⟩⟩)), (by (with_reducible repeat (first | apply Kd.R_alloc | apply Kd.R_drewN | apply Kd.R_drew)); exact Kd.R_mono HO318.out (fun _ hk => ⟨hk.1.1, ⟨hk.1.2, hk.2⟩⟩)), (by (with_reducible repeat (first | apply Kd.R_alloc | apply Kd.R_drewN | apply Kd.R_drew)); exact Kd.R_mono HO324.out (fun _ hk => ⟨hk.1.1, ⟨hk.1.2, hk.2⟩⟩)), (by (with_reducible repeat (first | apply Kd.R_alloc | apply Kd.R_drewN | apply Kd.R_drew)); exact Kd.R_mono HO332.out (fun _ hk => ⟨hk.1.1.2, ⟨hk.1.2, hk.2⟩⟩)), (zb BK305.out), (zb BK306.out), (zb BK320.out), (zb BK325.out), (zb BK334.out), GW334.out, GE334.out, NB305_334.out, NB334_305.out, NB306_334.out, NB334_306.out, NB320_334.out, NB334_320.out, NB325_334.out, NB334_325.out, (zh HB.out)⟩)
  ·skip
   refine box_step ?hg (N := 9) ?hd (cs := #[.int .i64 0, .slice none 0 0]) (t := 45) ?hr ?_; (case hd => rfl); (case hg => rfl); (case hr => first | (go_simp; done) | (go_simp; rfl))
   intro gb334 hg w65 hbox hb
   have n0_ := Aside0.mk (Kd.R_below (zr HO311.out) hb)
   have n1_ := Aside0.mk (Kd.R_below (zr HO318.out) hb)
   have n2_ := Aside0.mk (Kd.R_below (zr HO324.out) hb)
   have n3_ := Aside0.mk (blk_below (g := gb305) (o := .cells #[.int .i64 a0_0, .slice A0_1 l0_1.length c0_1] 40 (0, 0)) (zb BK305.out) hb)
   have n4_ := Aside0.mk (blk_below (g := gb306) (o := .cells #[.int .i64 a1_0, .int .i64 a1_1, .int .i64 a1_2] 23 (0, 0)) (zb BK306.out) hb)
   have n5_ := Aside0.mk (blk_below (g := gb320) (o := .cells #[.int .i64 t315, .slice Ao52 t316.length co52] 45 (0, 0)) (zb BK320.out) hb)
   have n6_ := Aside0.mk (blk_below (g := gb325) (o := .cells #[.int .i64 t321, .slice Ao62 t322.length co62] 45 (0, 0)) (zb BK325.out) hb)
   have n7_ := Aside0.mk (below_step (zh HB.out) hb)
   have n8_ := Aside0.mk (hbox)
   have n9_ := Aside0.mk ((by rw [hg]; exact (below_size (zh HB.out)) : w.heap.size ≤ gb334))
   have n10_ := Aside0.mk ((by rw [hg]; exact (below_size (zh HB.out)) : w.heap.size ≤ gb334))
   have n11_ := Aside0.mk ((by rw [hg]; exact Nat.ne_of_lt (blk_lt (g := gb305) (o := .cells #[.int .i64 a0_0, .slice A0_1 l0_1.length c0_1] 40 (0, 0)) (zb BK305.out)) : gb305 ≠ gb334))
   have n12_ := Aside0.mk ((by rw [hg]; exact Nat.ne_of_gt (blk_lt (g := gb305) (o := .cells #[.int .i64 a0_0, .slice A0_1 l0_1.length c0_1] 40 (0, 0)) (zb BK305.out)) : gb334 ≠ gb305))
   have n13_ := Aside0.mk ((by rw [hg]; exact Nat.ne_of_lt (blk_lt (g := gb306) (o := .cells #[.int .i64 a1_0, .int .i64 a1_1, .int .i64 a1_2] 23 (0, 0)) (zb BK306.out)) : gb306 ≠ gb334))
   have n14_ := Aside0.mk ((by rw [hg]; exact Nat.ne_of_gt (blk_lt (g := gb306) (o := .cells #[.int .i64 a1_0, .int .i64 a1_1, .int .i64 a1_2] 23 (0, 0)) (zb BK306.out)) : gb334 ≠ gb306))
   have n15_ := Aside0.mk ((by rw [hg]; exact Nat.ne_of_lt (blk_lt (g := gb320) (o := .cells #[.int .i64 t315, .slice Ao52 t316.length co52] 45 (0, 0)) (zb BK320.out)) : gb320 ≠ gb334))
   have n16_ := Aside0.mk ((by rw [hg]; exact Nat.ne_of_gt (blk_lt (g := gb320) (o := .cells #[.int .i64 t315, .slice Ao52 t316.length co52] 45 (0, 0)) (zb BK320.out)) : gb334 ≠ gb320))
   have n17_ := Aside0.mk ((by rw [hg]; exact Nat.ne_of_lt (blk_lt (g := gb325) (o := .cells #[.int .i64 t321, .slice Ao62 t322.length co62] 45 (0, 0)) (zb BK325.out)) : gb325 ≠ gb334))
   have n18_ := Aside0.mk ((by rw [hg]; exact Nat.ne_of_gt (blk_lt (g := gb325) (o := .cells #[.int .i64 t321, .slice Ao62 t322.length co62] 45 (0, 0)) (zb BK325.out)) : gb334 ≠ gb325))
   clear HO311
   clear HO318
   clear HO324
   clear BK305
   clear BK306
   clear BK320
   clear BK325
   clear HB
   have HO311 := n0_
   have HO318 := n1_
   have HO324 := n2_
   have BK305 := n3_
   have BK306 := n4_
   have BK320 := n5_
   have BK325 := n6_
   have HB := n7_
   have BK334 := n8_
   have GW334 := n9_
   have GE334 := n10_
   have NB305_334 := n11_
   have NB334_305 := n12_
   have NB306_334 := n13_
   have NB334_306 := n14_
   have NB320_334 := n15_
   have NB334_320 := n16_
   have NB325_334 := n17_
   have NB334_325 := n18_
   clear n0_ n1_ n2_ n3_ n4_ n5_ n6_ n7_ n8_ n9_ n10_ n11_ n12_ n13_ n14_ n15_ n16_ n17_ n18_
   clear hb hbox hg
   refine hK.out _ _ ⟨(blk_cell BK325.out 0).trans rfl, (blk_cell BK325.out 1).trans rfl, (blk_cell BK306.out 0).trans rfl, (blk_cell BK306.out 1).trans rfl, (blk_cell BK306.out 2).trans rfl⟩ (fun hHeld => ?_)
   clear hK K
   refine norm_ (a' := ?_) ?_ ?_
   rotate_left
   ·show Act.put _ (some 9) _ = _
    simp only [Act.put, List.setIfInBounds_toArray, List.set_cons_zero, List.set_cons_succ, i64_w, i32_w]
    rfl
   refine one_ (i := 2) (N := some 34) #[true, true, true, false, false, false, false, true, false, false] rfl rfl (one_of HT_.out (by kernel_rfl)) (by decide) (fun K hK => ?_)
   refine goes_ Try.func10 (by kernel_rfl) rfl #[.agg #[.int .i64 a1_0, .int .i64 a1_1, .int .i64 a1_2]] (by rfl) rfl rfl (by (try simp only [List.map_toArray, List.map_cons, List.map_nil]); first | done | rfl | (simp only [List.length_drop, List.length_take]; rfl)) ?_
   with_reducible refine (laws_toClue.calls a1_0 a1_1 a1_2 t326 t327 t328 _ A14.out).mono ?_
   rintro e w66 ⟨rfl, hb⟩
   refine ⟨_, rfl, ?_⟩
   have n0_ := Aside0.mk (Kd.R_below (zr HO311.out) hb)
   have n1_ := Aside0.mk (Kd.R_below (zr HO318.out) hb)
   have n2_ := Aside0.mk (Kd.R_below (zr HO324.out) hb)
   have n3_ := Aside0.mk (blk_below (g := gb305) (o := .cells #[.int .i64 a0_0, .slice A0_1 l0_1.length c0_1] 40 (0, 0)) (zb BK305.out) hb)
   have n4_ := Aside0.mk (blk_below (g := gb306) (o := .cells #[.int .i64 a1_0, .int .i64 a1_1, .int .i64 a1_2] 23 (0, 0)) (zb BK306.out) hb)
   have n5_ := Aside0.mk (blk_below (g := gb320) (o := .cells #[.int .i64 t315, .slice Ao52 t316.length co52] 45 (0, 0)) (zb BK320.out) hb)
   have n6_ := Aside0.mk (blk_below (g := gb325) (o := .cells #[.int .i64 t321, .slice Ao62 t322.length co62] 45 (0, 0)) (zb BK325.out) hb)
   have n7_ := Aside0.mk (blk_below (g := gb334) (o := .cells #[.int .i64 0, .slice none 0 0] 45 (0, 0)) (zb BK334.out) hb)
   have n8_ := Aside0.mk (below_step (zh HB.out) hb)
   clear HO311
   clear HO318
   clear HO324
   clear BK305
   clear BK306
   clear BK320
   clear BK325
   clear BK334
   clear HB
   have HO311 := n0_
   have HO318 := n1_
   have HO324 := n2_
   have BK305 := n3_
   have BK306 := n4_
   have BK320 := n5_
   have BK325 := n6_
   have BK334 := n7_
   have HB := n8_
   clear n0_ n1_ n2_ n3_ n4_ n5_ n6_ n7_ n8_
   (try clear hb)
   (try clear hb2)
   (try clear hk)
   (try clear hi)
   refine hK.out _ _ ⟨(blk_cell BK325.out 0).trans rfl, (blk_cell BK325.out 1).trans rfl, (blk_cell BK306.out 0).trans rfl, (blk_cell BK306.out 1).trans rfl, (blk_cell BK306.out 2).trans rfl⟩ (fun hHeld => ?_)
   clear hK K
   refine norm_ (a' := ?_) ?_ ?_
   rotate_left
   ·show Act.put _ (some 34) _ = _
    simp only [Act.put, List.setIfInBounds_toArray, List.set_cons_zero, List.set_cons_succ, i64_w, i32_w]
    rfl
   refine one_ (i := 3) (N := some 35) #[true, true, true, true, false, false, false, true, false, false] rfl rfl (one_of HT_.out (by kernel_rfl)) (by decide) (fun K hK => ?_)
   refine goes_ Try.func26 (by kernel_rfl) rfl #[.agg #[.int .i64 t321, .slice Ao62 t322.length co62], .agg #[.int .i64 t326, .int .i64 t327, .int .i64 t328]] (by rfl) rfl rfl (by (try simp only [List.map_toArray, List.map_cons, List.map_nil]); first | done | rfl | (simp only [List.length_drop, List.length_take]; rfl)) ?_
   with_reducible refine (impl_AddClue.calls t321 _ _ t322 t326 t327 t328 t329 t330 t333 _ ?side1 ?side2 A15.out).mono ?_
   (case side1 => repeat (first | exact (Kd.R_reads' HO324.out).2.2 | (with_reducible refine Kd.C_alloc ?_ _) | (with_reducible refine Kd.C_drewN ?_ _) | (with_reducible refine Kd.C_drew ?_)))
   (case side2 => exact (Kd.R_reads' HO324.out).2.1)
   rintro e w67 ⟨v331, rfl, ho0, hb⟩
   refine ⟨_, rfl, ?_⟩
   have n0_ := Aside0.mk (Kd.R_elder' (zr HO311.out) (Kd.R_base ho0) hb)
   have n1_ := Aside0.mk (Kd.R_elder' (zr HO318.out) (Kd.R_base ho0) hb)
   have n2_ := Aside0.mk (Kd.R_elder' (zr HO324.out) (Kd.R_base ho0) hb)
   have n3_ := Aside0.mk (Kd.R_lower (Kd.R_new' (Kd.R_new' (Kd.R_new' ho0 (Kd.R_lt (zr HO311.out))) (Kd.R_lt (zr HO318.out))) (Kd.R_lt (zr HO324.out))) (below_size (zh HB.out)))
   have n4_ := Aside0.mk (blk_below (g := gb305) (o := .cells #[.int .i64 a0_0, .slice A0_1 l0_1.length c0_1] 40 (0, 0)) (zb BK305.out) hb)
   have n5_ := Aside0.mk (blk_below (g := gb306) (o := .cells #[.int .i64 a1_0, .int .i64 a1_1, .int .i64 a1_2] 23 (0, 0)) (zb BK306.out) hb)
   have n6_ := Aside0.mk (blk_below (g := gb320) (o := .cells #[.int .i64 t315, .slice Ao52 t316.length co52] 45 (0, 0)) (zb BK320.out) hb)
   have n7_ := Aside0.mk (blk_below (g := gb325) (o := .cells #[.int .i64 t321, .slice Ao62 t322.length co62] 45 (0, 0)) (zb BK325.out) hb)
   have n8_ := Aside0.mk (blk_below (g := gb334) (o := .cells #[.int .i64 0, .slice none 0 0] 45 (0, 0)) (zb BK334.out) hb)
   have n9_ := Aside0.mk (below_step (zh HB.out) hb)
   clear HO311
   clear HO318
   clear HO324
   clear BK305
   clear BK306
   clear BK320
   clear BK325
   clear BK334
   clear HB
   have HO311 := n0_
   have HO318 := n1_
   have HO324 := n2_
   have HO332 := n3_
   have BK305 := n4_
   have BK306 := n5_
   have BK320 := n6_
   have BK325 := n7_
   have BK334 := n8_
   have HB := n9_
   clear n0_ n1_ n2_ n3_ n4_ n5_ n6_ n7_ n8_ n9_
   (try clear hb)
   (try clear hb2)
   (try clear hk)
   (try clear hi)
   (try clear ho0)
   refine hK.out _ _ ⟨(blk_cell BK325.out 0).trans rfl, (blk_cell BK325.out 1).trans rfl, (blk_cell BK306.out 0).trans rfl, (blk_cell BK306.out 1).trans rfl, (blk_cell BK306.out 2).trans rfl⟩ (fun hHeld => ?_)
   clear hK K
   refine norm_ (a' := ?_) ?_ ?_
   rotate_left
   ·show Act.put _ (some 35) _ = _
    simp only [Act.put, List.setIfInBounds_toArray, List.set_cons_zero, List.set_cons_succ, i64_w, i32_w]
    rfl
   refine pure_ (i := 4) (N := some 31) (v := ?_) (a' := ?_) #[true, true, true, true, true, false, false, true, false, false] rfl rfl (any_of HT_.out (by kernel_rfl)) (fun _ _ _ h => h) (Or.inl ⟨by rfl, ?_⟩) ?_ ?_
   rotate_left
   ·intro w'
    go_simp
    with_reducible rfl
   rotate_left
   ·simp only [Act.put, List.setIfInBounds_toArray, List.set_cons_zero, List.set_cons_succ, i64_w, i32_w]
    rfl
   refine pure_ (i := 5) (N := some 36) (v := ?_) (a' := ?_) #[true, true, true, true, true, true, false, true, false, false] rfl rfl (any_of HT_.out (by kernel_rfl)) (fun _ _ _ h => h) (Or.inl ⟨by rfl, ?_⟩) ?_ ?_
   rotate_left
   ·intro w'
    go_simp
    with_reducible rfl
   rotate_left
   ·simp only [Act.put, List.setIfInBounds_toArray, List.set_cons_zero, List.set_cons_succ, i64_w, i32_w]
    rfl
   refine pure_ (i := 6) (N := some 37) (v := ?_) (a' := ?_) #[true, true, true, true, true, true, true, true, false, false] rfl rfl (any_of HT_.out (by kernel_rfl)) (fun _ _ _ h => h) (Or.inl ⟨by rfl, ?_⟩) ?_ ?_
   rotate_left
   ·intro w'
    go_simp
    with_reducible rfl
   rotate_left
   ·simp only [Act.put, List.setIfInBounds_toArray, List.set_cons_zero, List.set_cons_succ, i64_w, i32_w]
    rfl
   exact norm_ (by simp only [putAll, Act.put, List.setIfInBounds_toArray, List.set_cons_zero, List.set_cons_succ]) (hCont (v331, gb334) _ ⟨hHeld, (by (with_reducible repeat (first | apply Kd.R_alloc | apply Kd.R_drewN | apply Kd.R_drew)); exact Kd.R_mono HO311.out (fun _ hk => ⟨hk.1.1, ⟨hk.1.2, hk.2⟩⟩)), (by (with_reducible repeat (first | apply Kd.R_alloc | apply Kd.R_drewN | apply Kd.R_drew)); exact Kd.R_mono HO318.out (fun _ hk => ⟨hk.1.1, ⟨hk.1.2, hk.2⟩⟩)), (by (with_reducible repeat (first | apply Kd.R_alloc | apply Kd.R_drewN | apply Kd.R_drew)); exact Kd.R_mono HO324.out (fun _ hk => ⟨hk.1.1, ⟨hk.1.2, hk.2⟩⟩)), (by (with_reducible repeat (first | apply Kd.R_alloc | apply Kd.R_drewN | apply Kd.R_drew)); exact Kd.R_mono HO332.out (fun _ hk => ⟨hk.1.1.2, ⟨hk.1.2, hk.2⟩⟩)), (zb BK305.out), (zb BK306.out), (zb BK320.out), (zb BK325.out), (zb BK334.out), GW334.out, GE334.out, NB305_334.out, NB334_305.out, NB306_334.out, NB334_306.out, NB320_334.out, NB334_320.out, NB325_334.out, NB334_325.out, (zh HB.out)⟩)
 rintro ⟨v331, gb334⟩ w68 ⟨hS_, h0_, h1_, h2_, h3_, h4_, h5_, h6_, h7_, h8_, h9_, h10_, h11_, h12_, h13_, h14_, h15_, h16_, h17_, h18_, h19_⟩
 have n0_ : Aside0 (Kd.R k25 25 w68 w.heap.size (fun k_ => some k_ ≠ (.slice Ao52 t316.length co52 : Value).ownBlock ∧ some k_ ≠ (.slice Ao62 t322.length co62 : Value).ownBlock ∧ some k_ ≠ (v331 : Value).ownBlock) v310 t309) := ⟨h0_⟩
 have n1_ : Aside0 (Kd.R k25 25 w68 w.heap.size (fun k_ => some k_ ≠ (v310 : Value).ownBlock ∧ some k_ ≠ (.slice Ao62 t322.length co62 : Value).ownBlock ∧ some k_ ≠ (v331 : Value).ownBlock) (.slice Ao52 t316.length co52) t316) := ⟨h1_⟩
 have n2_ : Aside0 (Kd.R k25 25 w68 w.heap.size (fun k_ => some k_ ≠ (v310 : Value).ownBlock ∧ some k_ ≠ (.slice Ao52 t316.length co52 : Value).ownBlock ∧ some k_ ≠ (v331 : Value).ownBlock) (.slice Ao62 t322.length co62) t322) := ⟨h2_⟩
 have n3_ : Aside0 (Kd.R k25 25 w68 w.heap.size (fun k_ => some k_ ≠ (v310 : Value).ownBlock ∧ some k_ ≠ (.slice Ao52 t316.length co52 : Value).ownBlock ∧ some k_ ≠ (.slice Ao62 t322.length co62 : Value).ownBlock) v331 t330) := ⟨h3_⟩
 have n4_ : Aside0 (w68.heap[gb305]? = some (.cells #[.int .i64 a0_0, .slice A0_1 l0_1.length c0_1] 40 (0, 0))) := ⟨h4_⟩
 have n5_ : Aside0 (w68.heap[gb306]? = some (.cells #[.int .i64 a1_0, .int .i64 a1_1, .int .i64 a1_2] 23 (0, 0))) := ⟨h5_⟩
 have n6_ : Aside0 (w68.heap[gb320]? = some (.cells #[.int .i64 t315, .slice Ao52 t316.length co52] 45 (0, 0))) := ⟨h6_⟩
 have n7_ : Aside0 (w68.heap[gb325]? = some (.cells #[.int .i64 t321, .slice Ao62 t322.length co62] 45 (0, 0))) := ⟨h7_⟩
 have n8_ : Aside0 (w68.heap[gb334]? = some (.cells #[.int .i64 0, .slice none 0 0] 45 (0, 0))) := ⟨h8_⟩
 have n9_ : Aside0 (w.heap.size ≤ gb334) := ⟨h9_⟩
 have n10_ : Aside0 (w.heap.size ≤ gb334) := ⟨h10_⟩
 have n11_ : Aside0 (gb305 ≠ gb334) := ⟨h11_⟩
 have n12_ : Aside0 (gb334 ≠ gb305) := ⟨h12_⟩
 have n13_ : Aside0 (gb306 ≠ gb334) := ⟨h13_⟩
 have n14_ : Aside0 (gb334 ≠ gb306) := ⟨h14_⟩
 have n15_ : Aside0 (gb320 ≠ gb334) := ⟨h15_⟩
 have n16_ : Aside0 (gb334 ≠ gb320) := ⟨h16_⟩
 have n17_ : Aside0 (gb325 ≠ gb334) := ⟨h17_⟩
 have n18_ : Aside0 (gb334 ≠ gb325) := ⟨h18_⟩
 have n19_ : Aside0 (Below w.heap.size w w68) := ⟨h19_⟩
 clear HO311
 clear HO318
 clear HO324
 clear BK305
 clear BK306
 clear BK320
 clear BK325
 clear HB
 clear h0_ h1_ h2_ h3_ h4_ h5_ h6_ h7_ h8_ h9_ h10_ h11_ h12_ h13_ h14_ h15_ h16_ h17_ h18_ h19_
 have HO311 := n0_
 have HO318 := n1_
 have HO324 := n2_
 have HO332 := n3_
 have BK305 := n4_
 have BK306 := n5_
 have BK320 := n6_
 have BK325 := n7_
 have BK334 := n8_
 have GW334 := n9_
 have GE334 := n10_
 have NB305_334 := n11_
 have NB334_305 := n12_
 have NB306_334 := n13_
 have NB334_306 := n14_
 have NB320_334 := n15_
 have NB334_320 := n16_
 have NB325_334 := n17_
 have NB334_325 := n18_
 have HB := n19_
 clear n0_ n1_ n2_ n3_ n4_ n5_ n6_ n7_ n8_ n9_ n10_ n11_ n12_ n13_ n14_ n15_ n16_ n17_ n18_ n19_
 have hHeld : w68.cell? ⟨gb325, 0, none⟩ = some (.int .i64 t321) ∧ w68.cell? ⟨gb325, 1, none⟩ = some (.slice Ao62 t322.length co62) ∧ w68.cell? ⟨gb306, 0, none⟩ = some (.int .i64 a1_0) ∧ w68.cell? ⟨gb306, 1, none⟩ = some (.int .i64 a1_1) ∧ w68.cell? ⟨gb306, 2, none⟩ = some (.int .i64 a1_2) := hS_
 obtain ⟨Ao70, co70, eo70⟩ := Kd.R_slice HO332.out
 (first | subst eo70 | (injection eo70 with f1_ f2_ f3_; have f4_ := f1_.symm; have f5_ := f3_.symm; clear f1_ f2_ f3_; subst f4_; subst f5_))
 refine norm_ (a' := ?_) ?_ ?_
 rotate_left
 ·simp only [putAll, Act.put, List.setIfInBounds_toArray, List.set_cons_zero, List.set_cons_succ]
  rfl
 refine one_ (i := 8) (N := none) #[true, true, true, true, true, true, true, true, true, false] rfl rfl (one_of HT_.out (by kernel_rfl)) (by decide) (fun K hK => ?_)
 have hs69 : w68.cell? ⟨gb334, 0, none⟩ = some (.int .i64 0) := (blk_cell BK334.out 0).trans rfl
 have hfs69 := blk_frozen BK334.out 0
 have hns69_0 := NB305_334.out
 have hns69_1 := NB306_334.out
 have hns69_2 := NB320_334.out
 have hns69_3 := NB325_334.out
 have hms69_0 := NB334_305.out
 have hms69_1 := NB334_306.out
 have hms69_2 := NB334_320.out
 have hms69_3 := NB334_325.out
 have hs71 : w68.cell? ⟨gb334, 1, none⟩ = some (.slice none 0 0) := (blk_cell BK334.out 1).trans rfl
 have hfs71 := blk_frozen BK334.out 1
 have hns71_0 := NB305_334.out
 have hns71_1 := NB306_334.out
 have hns71_2 := NB320_334.out
 have hns71_3 := NB325_334.out
 have hms71_0 := NB334_305.out
 have hms71_1 := NB334_306.out
 have hms71_2 := NB334_320.out
 have hms71_3 := NB334_325.out
 refine skip_ (w1 := ?_) (by rfl) rfl ?_ ?_
 rotate_left
 ·go_simp
  rfl
 refine hK.out _ _ ⟨((cell_far (p := ⟨gb334, _, none⟩) NB325_334.out _).trans (((cell_far (p := ⟨gb334, _, none⟩) NB325_334.out _).trans (hHeld.1)))), ((cell_far (p := ⟨gb334, _, none⟩) NB325_334.out _).trans (((cell_far (p := ⟨gb334, _, none⟩) NB325_334.out _).trans (hHeld.2.1)))), ((cell_far (p := ⟨gb334, _, none⟩) NB306_334.out _).trans (((cell_far (p := ⟨gb334, _, none⟩) NB306_334.out _).trans (hHeld.2.2.1)))), ((cell_far (p := ⟨gb334, _, none⟩) NB306_334.out _).trans (((cell_far (p := ⟨gb334, _, none⟩) NB306_334.out _).trans (hHeld.2.2.2.1)))), ((cell_far (p := ⟨gb334, _, none⟩) NB306_334.out _).trans (((cell_far (p := ⟨gb334, _, none⟩) NB306_334.out _).trans (hHeld.2.2.2.2))))⟩ (fun hHeld => ?_)
 clear hK K
 refine pure_ (i := 9) (N := some 10) (v := ?_) (a' := ?_) #[true, true, true, true, true, true, true, true, true, true] rfl rfl (any_of HT_.out (by kernel_rfl)) (fun _ _ _ h => h) (Or.inl ⟨by rfl, ?_⟩) ?_ ?_
 rotate_left
 ·intro w'
  go_simp
  with_reducible rfl
 rotate_left
 ·simp only [Act.put, List.setIfInBounds_toArray, List.set_cons_zero, List.set_cons_succ, i64_w, i32_w]
  rfl
 refine done_ (done_of HT_.out (by kernel_rfl)) ?_
 have hnb72 := NB334_305.out
 have hnc72 := NB305_334.out
 have hnb73 := NB334_306.out
 have hnc73 := NB306_334.out
 have hnb74 := NB334_320.out
 have hnc74 := NB320_334.out
 have hnb75 := NB334_325.out
 have hnc75 := NB325_334.out
 have hcz76_0 : w68.cell? ⟨gb334, 0, none⟩ = some (.int .i64 0) := (blk_cell BK334.out 0).trans rfl
 have hcz76_1 : w68.cell? ⟨gb334, 1, none⟩ = some (.slice none 0 0) := (blk_cell BK334.out 1).trans rfl
 have hfz76_0 := blk_frozen BK334.out 0
 have hfz76_1 := blk_frozen BK334.out 1
 have hnb77 := NB320_306.out
 have hnc77 := NB306_320.out
 have hcz78_0 : w68.cell? ⟨gb320, 0, none⟩ = some (.int .i64 t315) := (blk_cell BK320.out 0).trans rfl
 have hcz78_1 : w68.cell? ⟨gb320, 1, none⟩ = some (.slice Ao52 t316.length co52) := (blk_cell BK320.out 1).trans rfl
 have hfz78_0 := blk_frozen BK320.out 0
 have hfz78_1 := blk_frozen BK320.out 1
 try go_wp2_with (first | ((with_reducible refine gate_callee (f := 24) rfl ?_); refine goesL_ (some 40) rfl rfl Try.func24 (by kernel_rfl) rfl #[.agg #[.int .i64 t329, .slice Ao70 t330.length co70], .agg #[.int .i64 t315, .slice Ao52 t316.length co52]] rfl (by (try simp only [List.map_toArray, List.map_cons, List.map_nil]); first | done | rfl | (simp only [List.length_drop, List.length_take]; rfl)) ?_; (with_reducible refine (laws_eqPuzzle.calls k t329 _ _ t330 t315 _ _ t316 true _ ?side1 ?side2 ?side3 ?side4 A16.out).mono ?_); (case side1 => refine (Kd.R_reads' (e := 25) (base := w.heap.size) (ok := fun k_ => (some k_ ≠ (v310 : Value).ownBlock ∧ (some k_ ≠ (.slice Ao52 t316.length co52 : Value).ownBlock ∧ some k_ ≠ (.slice Ao62 t322.length co62 : Value).ownBlock))) (n := t330.length) (c := co70) ?_).2.2; exact (by (with_reducible repeat (first | apply Kd.R_alloc | apply Kd.R_drewN | apply Kd.R_drew)); exact (Kd.R_mono (Kd.R_far (p := ⟨gb334, 1, none⟩) (Kd.R_far (p := ⟨gb334, 0, none⟩) (Kd.R_types HO332.out BK334.out (by decide)) (fun _ hk => hk.2) (.int .i64 t329)) (fun _ hk => hk.2) (.slice Ao70 t330.length co70)) (fun _ h_ => h_.1)))); (case side2 => exact (Kd.R_reads' HO332.out).2.1); (case side3 => refine (Kd.R_reads' (e := 25) (base := w.heap.size) (ok := fun k_ => (some k_ ≠ (v310 : Value).ownBlock ∧ (some k_ ≠ (.slice Ao62 t322.length co62 : Value).ownBlock ∧ some k_ ≠ (.slice Ao70 t330.length co70 : Value).ownBlock))) (n := t316.length) (c := co52) ?_).2.2; exact (by (with_reducible repeat (first | apply Kd.R_alloc | apply Kd.R_drewN | apply Kd.R_drew)); exact (Kd.R_mono (Kd.R_far (p := ⟨gb334, 1, none⟩) (Kd.R_far (p := ⟨gb334, 0, none⟩) (Kd.R_types HO318.out BK334.out (by decide)) (fun _ hk => hk.2) (.int .i64 t329)) (fun _ hk => hk.2) (.slice Ao70 t330.length co70)) (fun _ h_ => h_.1)))); (case side4 => exact (Kd.R_reads' HO318.out).2.1); rintro e w79 ⟨rfl, hb⟩; refine ⟨_, rfl, ?_⟩; have n0_ := Aside0.mk (Kd.R_below (by (with_reducible repeat (first | apply Kd.R_alloc | apply Kd.R_drewN | apply Kd.R_drew)); exact (Kd.R_mono (Kd.R_far (p := ⟨gb334, 1, none⟩) (Kd.R_far (p := ⟨gb334, 0, none⟩) (Kd.R_types HO311.out BK334.out (by decide)) (fun _ hk => hk.2) (.int .i64 t329)) (fun _ hk => hk.2) (.slice Ao70 t330.length co70)) (fun _ h_ => h_.1))) hb); have n1_ := Aside0.mk (Kd.R_below (by (with_reducible repeat (first | apply Kd.R_alloc | apply Kd.R_drewN | apply Kd.R_drew)); exact (Kd.R_mono (Kd.R_far (p := ⟨gb334, 1, none⟩) (Kd.R_far (p := ⟨gb334, 0, none⟩) (Kd.R_types HO318.out BK334.out (by decide)) (fun _ hk => hk.2) (.int .i64 t329)) (fun _ hk => hk.2) (.slice Ao70 t330.length co70)) (fun _ h_ => h_.1))) hb); have n2_ := Aside0.mk (Kd.R_below (by (with_reducible repeat (first | apply Kd.R_alloc | apply Kd.R_drewN | apply Kd.R_drew)); exact (Kd.R_mono (Kd.R_far (p := ⟨gb334, 1, none⟩) (Kd.R_far (p := ⟨gb334, 0, none⟩) (Kd.R_types HO324.out BK334.out (by decide)) (fun _ hk => hk.2) (.int .i64 t329)) (fun _ hk => hk.2) (.slice Ao70 t330.length co70)) (fun _ h_ => h_.1))) hb); have n3_ := Aside0.mk (Kd.R_below (by (with_reducible repeat (first | apply Kd.R_alloc | apply Kd.R_drewN | apply Kd.R_drew)); exact (Kd.R_mono (Kd.R_far (p := ⟨gb334, 1, none⟩) (Kd.R_far (p := ⟨gb334, 0, none⟩) (Kd.R_types HO332.out BK334.out (by decide)) (fun _ hk => hk.2) (.int .i64 t329)) (fun _ hk => hk.2) (.slice Ao70 t330.length co70)) (fun _ h_ => h_.1))) hb); have n4_ := Aside0.mk (blk_below (g := gb305) (o := .cells #[.int .i64 a0_0, .slice A0_1 l0_1.length c0_1] 40 (0, 0)) (by (with_reducible repeat (first | refine blk_drewN ?_ _ | refine blk_drew ?_ | refine blk_alloc ?_ _)); refine blk_far ?_ NB305_334.out _; (with_reducible repeat (first | refine blk_drewN ?_ _ | refine blk_drew ?_ | refine blk_alloc ?_ _)); refine blk_far ?_ NB305_334.out _; (with_reducible repeat (first | refine blk_drewN ?_ _ | refine blk_drew ?_ | refine blk_alloc ?_ _)); exact BK305.out) hb); have n5_ := Aside0.mk (blk_below (g := gb306) (o := .cells #[.int .i64 a1_0, .int .i64 a1_1, .int .i64 a1_2] 23 (0, 0)) (by (with_reducible repeat (first | refine blk_drewN ?_ _ | refine blk_drew ?_ | refine blk_alloc ?_ _)); refine blk_far ?_ NB306_334.out _; (with_reducible repeat (first | refine blk_drewN ?_ _ | refine blk_drew ?_ | refine blk_alloc ?_ _)); refine blk_far ?_ NB306_334.out _; (with_reducible repeat (first | refine blk_drewN ?_ _ | refine blk_drew ?_ | refine blk_alloc ?_ _)); exact BK306.out) hb); have n6_ := Aside0.mk (blk_below (g := gb320) (o := .cells #[.int .i64 t315, .slice Ao52 t316.length co52] 45 (0, 0)) (by (with_reducible repeat (first | refine blk_drewN ?_ _ | refine blk_drew ?_ | refine blk_alloc ?_ _)); refine blk_far ?_ NB320_334.out _; (with_reducible repeat (first | refine blk_drewN ?_ _ | refine blk_drew ?_ | refine blk_alloc ?_ _)); refine blk_far ?_ NB320_334.out _; (with_reducible repeat (first | refine blk_drewN ?_ _ | refine blk_drew ?_ | refine blk_alloc ?_ _)); exact BK320.out) hb); have n7_ := Aside0.mk (blk_below (g := gb325) (o := .cells #[.int .i64 t321, .slice Ao62 t322.length co62] 45 (0, 0)) (by (with_reducible repeat (first | refine blk_drewN ?_ _ | refine blk_drew ?_ | refine blk_alloc ?_ _)); refine blk_far ?_ NB325_334.out _; (with_reducible repeat (first | refine blk_drewN ?_ _ | refine blk_drew ?_ | refine blk_alloc ?_ _)); refine blk_far ?_ NB325_334.out _; (with_reducible repeat (first | refine blk_drewN ?_ _ | refine blk_drew ?_ | refine blk_alloc ?_ _)); exact BK325.out) hb); have n8_ := Aside0.mk (blk_below (g := gb334) (o := .cells #[.int .i64 t329, .slice Ao70 t330.length co70] 45 (0, 0)) (by (with_reducible repeat (first | refine blk_drewN ?_ _ | refine blk_drew ?_ | refine blk_alloc ?_ _)); refine blk_put (cs := #[.int .i64 t329, .slice none 0 0]) ?_ 1 _ rfl; (with_reducible repeat (first | refine blk_drewN ?_ _ | refine blk_drew ?_ | refine blk_alloc ?_ _)); refine blk_put (cs := #[.int .i64 0, .slice none 0 0]) ?_ 0 _ rfl; (with_reducible repeat (first | refine blk_drewN ?_ _ | refine blk_drew ?_ | refine blk_alloc ?_ _)); exact BK334.out) hb); have n9_ := Aside0.mk (below_step (zh HB.out) hb); clear HO311; clear HO318; clear HO324; clear HO332; clear BK305; clear BK306; clear BK320; clear BK325; clear BK334; clear HB; have HO311 := n0_; have HO318 := n1_; have HO324 := n2_; have HO332 := n3_; have BK305 := n4_; have BK306 := n5_; have BK320 := n6_; have BK325 := n7_; have BK334 := n8_; have HB := n9_; clear n0_ n1_ n2_ n3_ n4_ n5_ n6_ n7_ n8_ n9_; (try clear hb); (try clear hb2); (try clear hk); (try clear hi)))
 have n0_ := Aside0.mk (Kd.R_drew HO311.out)
 have n1_ := Aside0.mk (Kd.R_drew HO318.out)
 have n2_ := Aside0.mk (Kd.R_drew HO324.out)
 have n3_ := Aside0.mk (Kd.R_drew HO332.out)
 have n4_ := Aside0.mk (blk_drew BK305.out)
 have n5_ := Aside0.mk (blk_drew BK306.out)
 have n6_ := Aside0.mk (blk_drew BK320.out)
 have n7_ := Aside0.mk (blk_drew BK325.out)
 have n8_ := Aside0.mk (blk_drew BK334.out)
 have n9_ := Aside0.mk (below_drew1 HB.out)
 clear HO311
 clear HO318
 clear HO324
 clear HO332
 clear BK305
 clear BK306
 clear BK320
 clear BK325
 clear BK334
 clear HB
 have HO311 := n0_
 have HO318 := n1_
 have HO324 := n2_
 have HO332 := n3_
 have BK305 := n4_
 have BK306 := n5_
 have BK320 := n6_
 have BK325 := n7_
 have BK334 := n8_
 have HB := n9_
 clear n0_ n1_ n2_ n3_ n4_ n5_ n6_ n7_ n8_ n9_
 refine start_ (n := 5) (S := fun w' => w'.cell? ⟨gb325, 0, none⟩ = some (.int .i64 t321) ∧ w'.cell? ⟨gb325, 1, none⟩ = some (.slice Ao62 t322.length co62) ∧ w'.cell? ⟨gb305, 0, none⟩ = some (.int .i64 a0_0) ∧ w'.cell? ⟨gb305, 1, none⟩ = some (.slice A0_1 l0_1.length c0_1)) (ds := []) #[false, false, false, false, false] (by kernel_rfl) rfl rfl ⟨(blk_cell BK325.out 0).trans rfl, (blk_cell BK325.out 1).trans rfl, (blk_cell BK305.out 0).trans rfl, (blk_cell BK305.out 1).trans rfl⟩ (fun hHeld => ?_)
 generalize w79.drew = w80 at HO311 HO318 HO324 HO332 BK305 BK306 BK320 BK325 BK334 HB hHeld ⊢
 refine take_ (i := 0) (N := some 47) (v := ?_) (a' := ?_) #[true, false, false, false, false] rfl rfl (by kernel_rfl) (fun _ _ _ h => h) (Or.inl ⟨by rfl, ?_⟩) hHeld ?_ ?_
 rotate_left
 ·rintro w' ⟨s0, s1, s2, s3⟩
  go_simp
  with_reducible rfl
 rotate_left
 ·simp only [Act.put, List.setIfInBounds_toArray, List.set_cons_zero, List.set_cons_succ, i64_w, i32_w]
  rfl
 refine take_ (i := 1) (N := some 48) (v := ?_) (a' := ?_) #[true, true, false, false, false] rfl rfl (by kernel_rfl) (fun _ _ _ h => h) (Or.inl ⟨by rfl, ?_⟩) hHeld ?_ ?_
 rotate_left
 ·rintro w' ⟨s0, s1, s2, s3⟩
  go_simp
  with_reducible rfl
 rotate_left
 ·simp only [Act.put, List.setIfInBounds_toArray, List.set_cons_zero, List.set_cons_succ, i64_w, i32_w]
  rfl
 refine one_ (i := 2) (N := some 49) #[true, true, true, false, false] rfl rfl (by kernel_rfl) (by decide) (fun K hK => ?_)
 refine goes_ Try.func22 (by kernel_rfl) rfl #[.agg #[.int .i64 a0_0, .slice A0_1 l0_1.length c0_1]] (by rfl) rfl rfl (by (try simp only [List.map_toArray, List.map_cons, List.map_nil]); first | done | rfl | (simp only [List.length_drop, List.length_take]; rfl)) ?_
 with_reducible refine (laws_toPuzzle.calls k a0_0 _ _ l0_1 t336 t337 _ ?side1 ?side2 A19.out).mono ?_
 (case side1 => repeat (first | exact (Kd.C_below HR0_1.out HB.out) | (with_reducible refine Kd.C_alloc ?_ _) | (with_reducible refine Kd.C_drewN ?_ _) | (with_reducible refine Kd.C_drew ?_)))
 (case side2 => exact HC0_1.out)
 rintro e w81 ⟨v338, rfl, ho0, hb⟩
 refine ⟨_, rfl, ?_⟩
 have n0_ := Aside0.mk (Kd.R_elder' (zr HO311.out) (Kd.R_base ho0) hb)
 have n1_ := Aside0.mk (Kd.R_elder' (zr HO318.out) (Kd.R_base ho0) hb)
 have n2_ := Aside0.mk (Kd.R_elder' (zr HO324.out) (Kd.R_base ho0) hb)
 have n3_ := Aside0.mk (Kd.R_elder' (zr HO332.out) (Kd.R_base ho0) hb)
 have n4_ := Aside0.mk (Kd.R_lower (Kd.R_new' (Kd.R_new' (Kd.R_new' (Kd.R_new' ho0 (Kd.R_lt (zr HO311.out))) (Kd.R_lt (zr HO318.out))) (Kd.R_lt (zr HO324.out))) (Kd.R_lt (zr HO332.out))) (below_size (zh HB.out)))
 have n5_ := Aside0.mk (blk_below (g := gb305) (o := .cells #[.int .i64 a0_0, .slice A0_1 l0_1.length c0_1] 40 (0, 0)) (zb BK305.out) hb)
 have n6_ := Aside0.mk (blk_below (g := gb306) (o := .cells #[.int .i64 a1_0, .int .i64 a1_1, .int .i64 a1_2] 23 (0, 0)) (zb BK306.out) hb)
 have n7_ := Aside0.mk (blk_below (g := gb320) (o := .cells #[.int .i64 t315, .slice Ao52 t316.length co52] 45 (0, 0)) (zb BK320.out) hb)
 have n8_ := Aside0.mk (blk_below (g := gb325) (o := .cells #[.int .i64 t321, .slice Ao62 t322.length co62] 45 (0, 0)) (zb BK325.out) hb)
 have n9_ := Aside0.mk (blk_below (g := gb334) (o := .cells #[.int .i64 t329, .slice Ao70 t330.length co70] 45 (0, 0)) (zb BK334.out) hb)
 have n10_ := Aside0.mk (below_step (zh HB.out) hb)
 clear HO311
 clear HO318
 clear HO324
 clear HO332
 clear BK305
 clear BK306
 clear BK320
 clear BK325
 clear BK334
 clear HB
 have HO311 := n0_
 have HO318 := n1_
 have HO324 := n2_
 have HO332 := n3_
 have HO339 := n4_
 have BK305 := n5_
 have BK306 := n6_
 have BK320 := n7_
 have BK325 := n8_
 have BK334 := n9_
 have HB := n10_
 clear n0_ n1_ n2_ n3_ n4_ n5_ n6_ n7_ n8_ n9_ n10_
 (try clear hb)
 (try clear hb2)
 (try clear hk)
 (try clear hi)
 (try clear ho0)
 obtain ⟨Ao82, co82, eo82⟩ := Kd.R_slice HO339.out
 (first | subst eo82 | (injection eo82 with f1_ f2_ f3_; have f4_ := f1_.symm; have f5_ := f3_.symm; clear f1_ f2_ f3_; subst f4_; subst f5_))
 refine hK.out _ _ ⟨(blk_cell BK325.out 0).trans rfl, (blk_cell BK325.out 1).trans rfl, (blk_cell BK305.out 0).trans rfl, (blk_cell BK305.out 1).trans rfl⟩ (fun hHeld => ?_)
 clear hK K
 refine norm_ (a' := ?_) ?_ ?_
 rotate_left
 ·show Act.put _ (some 49) _ = _
  simp only [Act.put, List.setIfInBounds_toArray, List.set_cons_zero, List.set_cons_succ, i64_w, i32_w]
  rfl
 refine one_ (i := 3) (N := some 50) #[true, true, true, true, false] rfl rfl (by kernel_rfl) (by decide) (fun K hK => ?_)
 refine goes_ Try.func24 (by kernel_rfl) rfl #[.agg #[.int .i64 t321, .slice Ao62 t322.length co62], .agg #[.int .i64 t336, .slice Ao82 t337.length co82]] (by rfl) rfl rfl (by (try simp only [List.map_toArray, List.map_cons, List.map_nil]); first | done | rfl | (simp only [List.length_drop, List.length_take]; rfl)) ?_
 with_reducible refine (laws_eqPuzzle.calls k t321 _ _ t322 t336 _ _ t337 true _ ?side1 ?side2 ?side3 ?side4 A20.out).mono ?_
 (case side1 => repeat (first | exact (Kd.R_reads' HO324.out).2.2 | (with_reducible refine Kd.C_alloc ?_ _) | (with_reducible refine Kd.C_drewN ?_ _) | (with_reducible refine Kd.C_drew ?_)))
 (case side2 => exact (Kd.R_reads' HO324.out).2.1)
 (case side3 => repeat (first | exact (Kd.R_reads' HO339.out).2.2 | (with_reducible refine Kd.C_alloc ?_ _) | (with_reducible refine Kd.C_drewN ?_ _) | (with_reducible refine Kd.C_drew ?_)))
 (case side4 => exact (Kd.R_reads' HO339.out).2.1)
 rintro e w83 ⟨rfl, hb⟩
 refine ⟨_, rfl, ?_⟩
 have n0_ := Aside0.mk (Kd.R_below (zr HO311.out) hb)
 have n1_ := Aside0.mk (Kd.R_below (zr HO318.out) hb)
 have n2_ := Aside0.mk (Kd.R_below (zr HO324.out) hb)
 have n3_ := Aside0.mk (Kd.R_below (zr HO332.out) hb)
 have n4_ := Aside0.mk (Kd.R_below (zr HO339.out) hb)
 have n5_ := Aside0.mk (blk_below (g := gb305) (o := .cells #[.int .i64 a0_0, .slice A0_1 l0_1.length c0_1] 40 (0, 0)) (zb BK305.out) hb)
 have n6_ := Aside0.mk (blk_below (g := gb306) (o := .cells #[.int .i64 a1_0, .int .i64 a1_1, .int .i64 a1_2] 23 (0, 0)) (zb BK306.out) hb)
 have n7_ := Aside0.mk (blk_below (g := gb320) (o := .cells #[.int .i64 t315, .slice Ao52 t316.length co52] 45 (0, 0)) (zb BK320.out) hb)
 have n8_ := Aside0.mk (blk_below (g := gb325) (o := .cells #[.int .i64 t321, .slice Ao62 t322.length co62] 45 (0, 0)) (zb BK325.out) hb)
 have n9_ := Aside0.mk (blk_below (g := gb334) (o := .cells #[.int .i64 t329, .slice Ao70 t330.length co70] 45 (0, 0)) (zb BK334.out) hb)
 have n10_ := Aside0.mk (below_step (zh HB.out) hb)
 clear HO311
 clear HO318
 clear HO324
 clear HO332
 clear HO339
 clear BK305
 clear BK306
 clear BK320
 clear BK325
 clear BK334
 clear HB
 have HO311 := n0_
 have HO318 := n1_
 have HO324 := n2_
 have HO332 := n3_
 have HO339 := n4_
 have BK305 := n5_
 have BK306 := n6_
 have BK320 := n7_
 have BK325 := n8_
 have BK334 := n9_
 have HB := n10_
 clear n0_ n1_ n2_ n3_ n4_ n5_ n6_ n7_ n8_ n9_ n10_
 (try clear hb)
 (try clear hb2)
 (try clear hk)
 (try clear hi)
 refine hK.out _ _ ⟨(blk_cell BK325.out 0).trans rfl, (blk_cell BK325.out 1).trans rfl, (blk_cell BK305.out 0).trans rfl, (blk_cell BK305.out 1).trans rfl⟩ (fun hHeld => ?_)
 clear hK K
 refine norm_ (a' := ?_) ?_ ?_
 rotate_left
 ·show Act.put _ (some 50) _ = _
  simp only [Act.put, List.setIfInBounds_toArray, List.set_cons_zero, List.set_cons_succ, i64_w, i32_w]
  rfl
 refine pure_ (i := 4) (N := some 51) (v := ?_) (a' := ?_) #[true, true, true, true, true] rfl rfl (by kernel_rfl) (fun _ _ _ h => h) (Or.inl ⟨by rfl, ?_⟩) ?_ ?_
 rotate_left
 ·intro w'
  go_simp
  with_reducible rfl
 rotate_left
 ·simp only [Act.put, List.setIfInBounds_toArray, List.set_cons_zero, List.set_cons_succ, i64_w, i32_w]
  rfl
 refine done_ (by kernel_rfl) ?_
 have hcz84_0 : w83.cell? ⟨gb325, 0, none⟩ = some (.int .i64 t321) := (blk_cell BK325.out 0).trans rfl
 have hcz84_1 : w83.cell? ⟨gb325, 1, none⟩ = some (.slice Ao62 t322.length co62) := (blk_cell BK325.out 1).trans rfl
 have hfz84_0 := blk_frozen BK325.out 0
 have hfz84_1 := blk_frozen BK325.out 1
 try go_wp2_with (first | ((with_reducible refine gate_callee (f := 27) rfl ?_); refine goesL_ (some 54) rfl rfl Try.func27 (by kernel_rfl) rfl #[.agg #[.int .i64 t321, .slice Ao62 t322.length co62], .int .i64 1] rfl (by (try simp only [List.map_toArray, List.map_cons, List.map_nil]); first | done | rfl | (simp only [List.length_drop, List.length_take]; rfl)) ?_; (with_reducible refine (laws_markPuzzle.calls k t321 (fun k_ => some k_ = (.slice Ao62 t322.length co62 : Value).ownBlock) (.slice Ao62 t322.length co62) t322 1 t341 t342 w _ ?side1 ?side2 A22.out).mono ?_); (case side1 => repeat (first | (with_reducible first | exact HB.out | apply below_alloc | apply pw_below_drewN | apply below_drew1 | refine below_set ?_ GE305.out | refine below_set ?_ GE306.out | refine below_set ?_ GE320.out | refine below_set ?_ GE325.out | refine below_set ?_ GE334.out) | exact HB.out)); (case side2 => exact Kd.R_tight rfl HO324.out); rintro e w85 ⟨rfl, hy0, hb, hkp⟩; refine ⟨_, rfl, ?_⟩; have n0_ := Aside0.mk (blk_kept (zb BK305.out) hkp (fun hs_ => (fun e_ => (Kd.R_ne HO324.out BK305.out (by decide)) e_) hs_)); have n1_ := Aside0.mk (blk_kept (zb BK306.out) hkp (fun hs_ => (fun e_ => (Kd.R_ne HO324.out BK306.out (by decide)) e_) hs_)); have n2_ := Aside0.mk (Kd.R_mono (ok' := fun k_ => some k_ ≠ (.slice Ao52 t316.length co52 : Value).ownBlock ∧ some k_ ≠ (.slice Ao62 t322.length co62 : Value).ownBlock ∧ some k_ ≠ (.slice Ao70 t330.length co70 : Value).ownBlock ∧ some k_ ≠ (.slice Ao82 t337.length co82 : Value).ownBlock) (Kd.R_keptB (HO311.out) hkp (fun k_ hk_ hs_ => (hk_.1.2.1) hs_)) (fun k_ hk_ => ⟨hk_.1.1.1, hk_.1.1.2.1, hk_.1.1.2.2, hk_.1.2⟩)); have n3_ := Aside0.mk (Kd.R_mono (ok' := fun k_ => some k_ ≠ (v310 : Value).ownBlock ∧ some k_ ≠ (.slice Ao62 t322.length co62 : Value).ownBlock ∧ some k_ ≠ (.slice Ao70 t330.length co70 : Value).ownBlock ∧ some k_ ≠ (.slice Ao82 t337.length co82 : Value).ownBlock) (Kd.R_keptB (HO318.out) hkp (fun k_ hk_ hs_ => (hk_.1.2.1) hs_)) (fun k_ hk_ => ⟨hk_.1.1.1, hk_.1.1.2.1, hk_.1.1.2.2, hk_.1.2⟩)); have n4_ := Aside0.mk (blk_kept (zb BK320.out) hkp (fun hs_ => (fun e_ => (Kd.R_ne HO324.out BK320.out (by decide)) e_) hs_)); have n5_ := Aside0.mk (Kd.R_reok rfl hy0 (fun k_ e_ => HO324.out.1 k_ e_)); have n6_ := Aside0.mk (blk_kept (zb BK325.out) hkp (fun hs_ => (fun e_ => (Kd.R_ne HO324.out BK325.out (by decide)) e_) hs_)); have n7_ := Aside0.mk (Kd.R_mono (ok' := fun k_ => some k_ ≠ (v310 : Value).ownBlock ∧ some k_ ≠ (.slice Ao52 t316.length co52 : Value).ownBlock ∧ some k_ ≠ (.slice Ao62 t322.length co62 : Value).ownBlock ∧ some k_ ≠ (.slice Ao82 t337.length co82 : Value).ownBlock) (Kd.R_keptB (HO332.out) hkp (fun k_ hk_ hs_ => (hk_.1.2.2) hs_)) (fun k_ hk_ => ⟨hk_.1.1.1, hk_.1.1.2.1, hk_.1.1.2.2, hk_.1.2⟩)); have n8_ := Aside0.mk (blk_kept (zb BK334.out) hkp (fun hs_ => (fun e_ => (Kd.R_ne HO324.out BK334.out (by decide)) e_) hs_)); have n9_ := Aside0.mk (Kd.R_mono (ok' := fun k_ => some k_ ≠ (v310 : Value).ownBlock ∧ some k_ ≠ (.slice Ao52 t316.length co52 : Value).ownBlock ∧ some k_ ≠ (.slice Ao62 t322.length co62 : Value).ownBlock ∧ some k_ ≠ (.slice Ao70 t330.length co70 : Value).ownBlock) (Kd.R_keptB (HO339.out) hkp (fun k_ hk_ hs_ => (hk_.1.2) hs_)) (fun k_ hk_ => ⟨hk_.1.1.1.1.2, hk_.1.1.1.2, hk_.1.1.2, hk_.1.2⟩)); have n10_ := Aside0.mk (hb); clear BK305; clear BK306; clear HO311; clear HO318; clear BK320; clear HO324; clear BK325; clear HO332; clear BK334; clear HO339; clear HB; have BK305 := n0_; have BK306 := n1_; have HO311 := n2_; have HO318 := n3_; have BK320 := n4_; have HO324 := n5_; have BK325 := n6_; have HO332 := n7_; have BK334 := n8_; have HO339 := n9_; have HB := n10_; clear n0_ n1_ n2_ n3_ n4_ n5_ n6_ n7_ n8_ n9_ n10_; (try clear hb); (try clear hkp); (try clear hy0); have hcz86_0 : w85.cell? ⟨gb334, 0, none⟩ = some (.int .i64 t329) := (blk_cell BK334.out 0).trans rfl; have hcz86_1 : w85.cell? ⟨gb334, 1, none⟩ = some (.slice Ao70 t330.length co70) := (blk_cell BK334.out 1).trans rfl; have hfz86_0 := blk_frozen BK334.out 0; have hfz86_1 := blk_frozen BK334.out 1; have hcz87_0 : w85.cell? ⟨gb320, 0, none⟩ = some (.int .i64 t315) := (blk_cell BK320.out 0).trans rfl; have hcz87_1 : w85.cell? ⟨gb320, 1, none⟩ = some (.slice Ao52 t316.length co52) := (blk_cell BK320.out 1).trans rfl; have hfz87_0 := blk_frozen BK320.out 0; have hfz87_1 := blk_frozen BK320.out 1) | (go_at_call 24; (with_reducible refine (laws_eqPuzzle.calls k t329 _ _ t330 t315 _ _ t316 true _ ?side1 ?side2 ?side3 ?side4 A24.out).mono ?_); (case side1 => repeat (first | exact (Kd.R_reads' HO332.out).2.2 | (with_reducible refine Kd.C_alloc ?_ _) | (with_reducible refine Kd.C_drewN ?_ _) | (with_reducible refine Kd.C_drew ?_))); (case side2 => exact (Kd.R_reads' HO332.out).2.1); (case side3 => repeat (first | exact (Kd.R_reads' HO318.out).2.2 | (with_reducible refine Kd.C_alloc ?_ _) | (with_reducible refine Kd.C_drewN ?_ _) | (with_reducible refine Kd.C_drew ?_))); (case side4 => exact (Kd.R_reads' HO318.out).2.1); rintro e w88 ⟨rfl, hb⟩; have n0_ := Aside0.mk (Kd.R_below (zr HO311.out) hb); have n1_ := Aside0.mk (Kd.R_below (zr HO318.out) hb); have n2_ := Aside0.mk (Kd.R_below (zr HO324.out) hb); have n3_ := Aside0.mk (Kd.R_below (zr HO332.out) hb); have n4_ := Aside0.mk (Kd.R_below (zr HO339.out) hb); have n5_ := Aside0.mk (blk_below (g := gb305) (o := .cells #[.int .i64 a0_0, .slice A0_1 l0_1.length c0_1] 40 (0, 0)) (zb BK305.out) hb); have n6_ := Aside0.mk (blk_below (g := gb306) (o := .cells #[.int .i64 a1_0, .int .i64 a1_1, .int .i64 a1_2] 23 (0, 0)) (zb BK306.out) hb); have n7_ := Aside0.mk (blk_below (g := gb320) (o := .cells #[.int .i64 t315, .slice Ao52 t316.length co52] 45 (0, 0)) (zb BK320.out) hb); have n8_ := Aside0.mk (blk_below (g := gb325) (o := .cells #[.int .i64 t321, .slice Ao62 t322.length co62] 45 (0, 0)) (zb BK325.out) hb); have n9_ := Aside0.mk (blk_below (g := gb334) (o := .cells #[.int .i64 t329, .slice Ao70 t330.length co70] 45 (0, 0)) (zb BK334.out) hb); have n10_ := Aside0.mk (below_step (zh HB.out) hb); clear HO311; clear HO318; clear HO324; clear HO332; clear HO339; clear BK305; clear BK306; clear BK320; clear BK325; clear BK334; clear HB; have HO311 := n0_; have HO318 := n1_; have HO324 := n2_; have HO332 := n3_; have HO339 := n4_; have BK305 := n5_; have BK306 := n6_; have BK320 := n7_; have BK325 := n8_; have BK334 := n9_; have HB := n10_; clear n0_ n1_ n2_ n3_ n4_ n5_ n6_ n7_ n8_ n9_ n10_; (try clear hb); (try clear hb2); (try clear hk); (try clear hi); have hcz89_0 : w88.cell? ⟨gb334, 0, none⟩ = some (.int .i64 t329) := (blk_cell BK334.out 0).trans rfl; have hcz89_1 : w88.cell? ⟨gb334, 1, none⟩ = some (.slice Ao70 t330.length co70) := (blk_cell BK334.out 1).trans rfl; have hfz89_0 := blk_frozen BK334.out 0; have hfz89_1 := blk_frozen BK334.out 1) | ((with_reducible refine gate_callee (f := 27) rfl ?_); refine goesL_ (some 70) rfl rfl Try.func27 (by kernel_rfl) rfl #[.agg #[.int .i64 t329, .slice Ao70 t330.length co70], .int .i64 1] rfl (by (try simp only [List.map_toArray, List.map_cons, List.map_nil]); first | done | rfl | (simp only [List.length_drop, List.length_take]; rfl)) ?_; (with_reducible refine (laws_markPuzzle.calls k t329 (fun k_ => some k_ = (.slice Ao70 t330.length co70 : Value).ownBlock) (.slice Ao70 t330.length co70) t330 1 t344 t345 w _ ?side1 ?side2 A26.out).mono ?_); (case side1 => repeat (first | (with_reducible first | exact HB.out | apply below_alloc | apply pw_below_drewN | apply below_drew1 | refine below_set ?_ GE305.out | refine below_set ?_ GE306.out | refine below_set ?_ GE320.out | refine below_set ?_ GE325.out | refine below_set ?_ GE334.out) | exact HB.out)); (case side2 => exact Kd.R_tight rfl HO332.out); rintro e w90 ⟨rfl, hy0, hb, hkp⟩; refine ⟨_, rfl, ?_⟩; have n0_ := Aside0.mk (blk_kept (zb BK305.out) hkp (fun hs_ => (fun e_ => (Kd.R_ne HO332.out BK305.out (by decide)) e_) hs_)); have n1_ := Aside0.mk (blk_kept (zb BK306.out) hkp (fun hs_ => (fun e_ => (Kd.R_ne HO332.out BK306.out (by decide)) e_) hs_)); have n2_ := Aside0.mk (Kd.R_mono (ok' := fun k_ => some k_ ≠ (.slice Ao52 t316.length co52 : Value).ownBlock ∧ some k_ ≠ (.slice Ao62 t322.length co62 : Value).ownBlock ∧ some k_ ≠ (.slice Ao70 t330.length co70 : Value).ownBlock ∧ some k_ ≠ (.slice Ao82 t337.length co82 : Value).ownBlock) (Kd.R_keptB (HO311.out) hkp (fun k_ hk_ hs_ => (hk_.2.2.1) hs_)) (fun k_ hk_ => ⟨hk_.1.1, hk_.1.2.1, hk_.1.2.2.1, hk_.1.2.2.2⟩)); have n3_ := Aside0.mk (Kd.R_mono (ok' := fun k_ => some k_ ≠ (v310 : Value).ownBlock ∧ some k_ ≠ (.slice Ao62 t322.length co62 : Value).ownBlock ∧ some k_ ≠ (.slice Ao70 t330.length co70 : Value).ownBlock ∧ some k_ ≠ (.slice Ao82 t337.length co82 : Value).ownBlock) (Kd.R_keptB (HO318.out) hkp (fun k_ hk_ hs_ => (hk_.2.2.1) hs_)) (fun k_ hk_ => ⟨hk_.1.1, hk_.1.2.1, hk_.1.2.2.1, hk_.1.2.2.2⟩)); have n4_ := Aside0.mk (blk_kept (zb BK320.out) hkp (fun hs_ => (fun e_ => (Kd.R_ne HO332.out BK320.out (by decide)) e_) hs_)); have n5_ := Aside0.mk (Kd.R_mono (ok' := fun k_ => some k_ ≠ (v310 : Value).ownBlock ∧ some k_ ≠ (.slice Ao52 t316.length co52 : Value).ownBlock ∧ some k_ ≠ (.slice Ao70 t330.length co70 : Value).ownBlock ∧ some k_ ≠ (.slice Ao82 t337.length co82 : Value).ownBlock) (Kd.R_keptB (HO324.out) hkp (fun k_ hk_ hs_ => (hk_.1.2.2) hs_)) (fun k_ hk_ => ⟨hk_.1.1.1, hk_.1.1.2.1, hk_.1.1.2.2, hk_.1.2⟩)); have n6_ := Aside0.mk (blk_kept (zb BK325.out) hkp (fun hs_ => (fun e_ => (Kd.R_ne HO332.out BK325.out (by decide)) e_) hs_)); have n7_ := Aside0.mk (Kd.R_reok rfl hy0 (fun k_ e_ => HO332.out.1 k_ e_)); have n8_ := Aside0.mk (blk_kept (zb BK334.out) hkp (fun hs_ => (fun e_ => (Kd.R_ne HO332.out BK334.out (by decide)) e_) hs_)); have n9_ := Aside0.mk (Kd.R_mono (ok' := fun k_ => some k_ ≠ (v310 : Value).ownBlock ∧ some k_ ≠ (.slice Ao52 t316.length co52 : Value).ownBlock ∧ some k_ ≠ (.slice Ao62 t322.length co62 : Value).ownBlock ∧ some k_ ≠ (.slice Ao70 t330.length co70 : Value).ownBlock) (Kd.R_keptB (HO339.out) hkp (fun k_ hk_ hs_ => (hk_.2.2.2) hs_)) (fun k_ hk_ => ⟨hk_.1.1, hk_.1.2.1, hk_.1.2.2.1, hk_.1.2.2.2⟩)); have n10_ := Aside0.mk (hb); clear BK305; clear BK306; clear HO311; clear HO318; clear BK320; clear HO324; clear BK325; clear HO332; clear BK334; clear HO339; clear HB; have BK305 := n0_; have BK306 := n1_; have HO311 := n2_; have HO318 := n3_; have BK320 := n4_; have HO324 := n5_; have BK325 := n6_; have HO332 := n7_; have BK334 := n8_; have HO339 := n9_; have HB := n10_; clear n0_ n1_ n2_ n3_ n4_ n5_ n6_ n7_ n8_ n9_ n10_; (try clear hb); (try clear hkp); (try clear hy0); have hcz91_0 : w90.cell? ⟨gb334, 0, none⟩ = some (.int .i64 t329) := (blk_cell BK334.out 0).trans rfl; have hcz91_1 : w90.cell? ⟨gb334, 1, none⟩ = some (.slice Ao70 t330.length co70) := (blk_cell BK334.out 1).trans rfl; have hfz91_0 := blk_frozen BK334.out 0; have hfz91_1 := blk_frozen BK334.out 1) | ((with_reducible refine gate_callee (f := 28) rfl ?_); refine goesL_ (some 73) rfl rfl Try.func28 (by kernel_rfl) rfl #[.agg #[.int .i64 t329, .slice Ao70 t345.length co70], .int .i64 1] rfl (by (try simp only [List.map_toArray, List.map_cons, List.map_nil]); first | done | (rw [show t345.length = t330.length from (Kd.R_reads' HO332.out).1.symm] <;> rfl) | rfl | (simp only [List.length_drop, List.length_take]; rfl)) ?_; (with_reducible refine (laws_heldPuzzle.calls k t329 _ _ t345 1 t346 _ ?side1 ?side2 A27.out).mono ?_); (case side1 => repeat (first | exact (Kd.R_reads' HO332.out).2.2 | (with_reducible refine Kd.C_alloc ?_ _) | (with_reducible refine Kd.C_drewN ?_ _) | (with_reducible refine Kd.C_drew ?_))); (case side2 => rw [show t345.length = t330.length from (Kd.R_reads' HO332.out).1.symm]; exact (Kd.R_reads' HO332.out).2.1); rintro e w92 ⟨rfl, hb⟩; refine ⟨_, rfl, ?_⟩; have n0_ := Aside0.mk (Kd.R_below (zr HO311.out) hb); have n1_ := Aside0.mk (Kd.R_below (zr HO318.out) hb); have n2_ := Aside0.mk (Kd.R_below (zr HO324.out) hb); have n3_ := Aside0.mk (Kd.R_below (zr HO332.out) hb); have n4_ := Aside0.mk (Kd.R_below (zr HO339.out) hb); have n5_ := Aside0.mk (blk_below (g := gb305) (o := .cells #[.int .i64 a0_0, .slice A0_1 l0_1.length c0_1] 40 (0, 0)) (zb BK305.out) hb); have n6_ := Aside0.mk (blk_below (g := gb306) (o := .cells #[.int .i64 a1_0, .int .i64 a1_1, .int .i64 a1_2] 23 (0, 0)) (zb BK306.out) hb); have n7_ := Aside0.mk (blk_below (g := gb320) (o := .cells #[.int .i64 t315, .slice Ao52 t316.length co52] 45 (0, 0)) (zb BK320.out) hb); have n8_ := Aside0.mk (blk_below (g := gb325) (o := .cells #[.int .i64 t321, .slice Ao62 t322.length co62] 45 (0, 0)) (zb BK325.out) hb); have n9_ := Aside0.mk (blk_below (g := gb334) (o := .cells #[.int .i64 t329, .slice Ao70 t330.length co70] 45 (0, 0)) (zb BK334.out) hb); have n10_ := Aside0.mk (below_step (zh HB.out) hb); clear HO311; clear HO318; clear HO324; clear HO332; clear HO339; clear BK305; clear BK306; clear BK320; clear BK325; clear BK334; clear HB; have HO311 := n0_; have HO318 := n1_; have HO324 := n2_; have HO332 := n3_; have HO339 := n4_; have BK305 := n5_; have BK306 := n6_; have BK320 := n7_; have BK325 := n8_; have BK334 := n9_; have HB := n10_; clear n0_ n1_ n2_ n3_ n4_ n5_ n6_ n7_ n8_ n9_ n10_; (try clear hb); (try clear hb2); (try clear hk); (try clear hi)))
 have n0_ := Aside0.mk (Kd.R_drew HO311.out)
 have n1_ := Aside0.mk (Kd.R_drew HO318.out)
 have n2_ := Aside0.mk (Kd.R_drew HO324.out)
 have n3_ := Aside0.mk (Kd.R_drew HO332.out)
 have n4_ := Aside0.mk (Kd.R_drew HO339.out)
 have n5_ := Aside0.mk (blk_drew BK305.out)
 have n6_ := Aside0.mk (blk_drew BK306.out)
 have n7_ := Aside0.mk (blk_drew BK320.out)
 have n8_ := Aside0.mk (blk_drew BK325.out)
 have n9_ := Aside0.mk (blk_drew BK334.out)
 have n10_ := Aside0.mk (below_drew1 HB.out)
 clear HO311
 clear HO318
 clear HO324
 clear HO332
 clear HO339
 clear BK305
 clear BK306
 clear BK320
 clear BK325
 clear BK334
 clear HB
 have HO311 := n0_
 have HO318 := n1_
 have HO324 := n2_
 have HO332 := n3_
 have HO339 := n4_
 have BK305 := n5_
 have BK306 := n6_
 have BK320 := n7_
 have BK325 := n8_
 have BK334 := n9_
 have HB := n10_
 clear n0_ n1_ n2_ n3_ n4_ n5_ n6_ n7_ n8_ n9_ n10_
 refine start_ (n := 11) (S := fun w' => w'.cell? ⟨gb305, 0, none⟩ = some (.int .i64 a0_0) ∧ w'.cell? ⟨gb305, 1, none⟩ = some (.slice A0_1 l0_1.length c0_1) ∧ w'.cell? ⟨gb306, 0, none⟩ = some (.int .i64 a1_0) ∧ w'.cell? ⟨gb306, 1, none⟩ = some (.int .i64 a1_1) ∧ w'.cell? ⟨gb306, 2, none⟩ = some (.int .i64 a1_2)) (ds := []) #[false, false, false, false, false, false, false, false, false, false, false] (by kernel_rfl) rfl rfl ⟨(blk_cell BK305.out 0).trans rfl, (blk_cell BK305.out 1).trans rfl, (blk_cell BK306.out 0).trans rfl, (blk_cell BK306.out 1).trans rfl, (blk_cell BK306.out 2).trans rfl⟩ (fun hHeld => ?_); refine with_tabW laws_FnExactAddClue.tab24 laws_FnExactAddClue.bits24 (fun HT_ HW_ => ?_)
 generalize w92.drew = w93 at HO311 HO318 HO324 HO332 HO339 BK305 BK306 BK320 BK325 BK334 HB hHeld ⊢
 refine take_ (i := 0) (N := some 80) (v := ?_) (a' := ?_) #[true, false, false, false, false, false, false, false, false, false, false] rfl rfl (take_ofW HT_.out HW_.out (by kernel_rfl)) (fun _ _ _ h => h) (Or.inl ⟨by rfl, ?_⟩) hHeld ?_ ?_
 rotate_left
 ·rintro w' ⟨s0, s1, s2, s3, s4⟩
  go_simp
  with_reducible rfl
 rotate_left
 ·simp only [Act.put, List.setIfInBounds_toArray, List.set_cons_zero, List.set_cons_succ, i64_w, i32_w]
  rfl
 refine take_ (i := 2) (N := some 82) (v := ?_) (a' := ?_) #[true, false, true, false, false, false, false, false, false, false, false] rfl rfl (take_ofW HT_.out HW_.out (by kernel_rfl)) (fun _ _ _ h => h) (Or.inl ⟨by rfl, ?_⟩) hHeld ?_ ?_
 rotate_left
 ·rintro w' ⟨s0, s1, s2, s3, s4⟩
  go_simp
  with_reducible rfl
 rotate_left
 ·simp only [Act.put, List.setIfInBounds_toArray, List.set_cons_zero, List.set_cons_succ, i64_w, i32_w]
  rfl
 refine join_ (σ := Value × Value × Nat) 2 #[true, true, true, true, true, true, true, true, true, false, false] (fun s_ => [(81, .agg #[.int .i64 t347, s_.1]), (83, .agg #[.int .i64 t351, .int .i64 t352, .int .i64 t353]), (84, .tuple #[.agg #[.int .i64 t354, s_.2.1], .bool t358]), (14, .pointer (some ⟨s_.2.2, 0, none⟩)), (79, .tuple #[.agg #[.int .i64 t354, s_.2.1], .bool t358]), (85, .agg #[.int .i64 t354, s_.2.1]), (86, .bool t358)]) (fun s_ w' => (w'.cell? ⟨gb305, 0, none⟩ = some (.int .i64 a0_0) ∧ w'.cell? ⟨gb305, 1, none⟩ = some (.slice A0_1 l0_1.length c0_1) ∧ w'.cell? ⟨gb306, 0, none⟩ = some (.int .i64 a1_0) ∧ w'.cell? ⟨gb306, 1, none⟩ = some (.int .i64 a1_1) ∧ w'.cell? ⟨gb306, 2, none⟩ = some (.int .i64 a1_2)) ∧ (Kd.R k25 25 w' w.heap.size (fun k_ => some k_ ≠ (.slice Ao52 t316.length co52 : Value).ownBlock ∧ some k_ ≠ (.slice Ao62 t322.length co62 : Value).ownBlock ∧ some k_ ≠ (.slice Ao70 t330.length co70 : Value).ownBlock ∧ some k_ ≠ (.slice Ao82 t337.length co82 : Value).ownBlock ∧ some k_ ≠ (s_.1 : Value).ownBlock ∧ some k_ ≠ (s_.2.1 : Value).ownBlock) v310 t309) ∧ (Kd.R k25 25 w' w.heap.size (fun k_ => some k_ ≠ (v310 : Value).ownBlock ∧ some k_ ≠ (.slice Ao62 t322.length co62 : Value).ownBlock ∧ some k_ ≠ (.slice Ao70 t330.length co70 : Value).ownBlock ∧ some k_ ≠ (.slice Ao82 t337.length co82 : Value).ownBlock ∧ some k_ ≠ (s_.1 : Value).ownBlock ∧ some k_ ≠ (s_.2.1 : Value).ownBlock) (.slice Ao52 t316.length co52) t316) ∧ (Kd.R k25 25 w' w.heap.size (fun k_ => some k_ ≠ (v310 : Value).ownBlock ∧ some k_ ≠ (.slice Ao52 t316.length co52 : Value).ownBlock ∧ some k_ ≠ (.slice Ao70 t330.length co70 : Value).ownBlock ∧ some k_ ≠ (.slice Ao82 t337.length co82 : Value).ownBlock ∧ some k_ ≠ (s_.1 : Value).ownBlock ∧ some k_ ≠ (s_.2.1 : Value).ownBlock) (.slice Ao62 t322.length co62) t342) ∧ (Kd.R k25 25 w' w.heap.size (fun k_ => some k_ ≠ (v310 : Value).ownBlock ∧ some k_ ≠ (.slice Ao52 t316.length co52 : Value).ownBlock ∧ some k_ ≠ (.slice Ao62 t322.length co62 : Value).ownBlock ∧ some k_ ≠ (.slice Ao82 t337.length co82 : Value).ownBlock ∧ some k_ ≠ (s_.1 : Value).ownBlock ∧ some k_ ≠ (s_.2.1 : Value).ownBlock) (.slice Ao70 t330.length co70) t345) ∧ (Kd.R k25 25 w' w.heap.size (fun k_ => some k_ ≠ (v310 : Value).ownBlock ∧ some k_ ≠ (.slice Ao52 t316.length co52 : Value).ownBlock ∧ some k_ ≠ (.slice Ao62 t322.length co62 : Value).ownBlock ∧ some k_ ≠ (.slice Ao70 t330.length co70 : Value).ownBlock ∧ some k_ ≠ (s_.1 : Value).ownBlock ∧ some k_ ≠ (s_.2.1 : Value).ownBlock) (.slice Ao82 t337.length co82) t337) ∧ (Kd.R k25 25 w' w.heap.size (fun k_ => some k_ ≠ (v310 : Value).ownBlock ∧ some k_ ≠ (.slice Ao52 t316.length co52 : Value).ownBlock ∧ some k_ ≠ (.slice Ao62 t322.length co62 : Value).ownBlock ∧ some k_ ≠ (.slice Ao70 t330.length co70 : Value).ownBlock ∧ some k_ ≠ (.slice Ao82 t337.length co82 : Value).ownBlock ∧ some k_ ≠ (s_.2.1 : Value).ownBlock) s_.1 t348) ∧ (Kd.R k25 25 w' w.heap.size (fun k_ => some k_ ≠ (v310 : Value).ownBlock ∧ some k_ ≠ (.slice Ao52 t316.length co52 : Value).ownBlock ∧ some k_ ≠ (.slice Ao62 t322.length co62 : Value).ownBlock ∧ some k_ ≠ (.slice Ao70 t330.length co70 : Value).ownBlock ∧ some k_ ≠ (.slice Ao82 t337.length co82 : Value).ownBlock ∧ some k_ ≠ (s_.1 : Value).ownBlock) s_.2.1 t355) ∧ (w'.heap[gb305]? = some (.cells #[.int .i64 a0_0, .slice A0_1 l0_1.length c0_1] 40 (0, 0))) ∧ (w'.heap[gb306]? = some (.cells #[.int .i64 a1_0, .int .i64 a1_1, .int .i64 a1_2] 23 (0, 0))) ∧ (w'.heap[gb320]? = some (.cells #[.int .i64 t315, .slice Ao52 t316.length co52] 45 (0, 0))) ∧ (w'.heap[gb325]? = some (.cells #[.int .i64 t321, .slice Ao62 t322.length co62] 45 (0, 0))) ∧ (w'.heap[gb334]? = some (.cells #[.int .i64 t329, .slice Ao70 t330.length co70] 45 (0, 0))) ∧ (w'.heap[s_.2.2]? = some (.cells #[.int .i64 0, .slice none 0 0] 45 (0, 0))) ∧ (w.heap.size ≤ s_.2.2) ∧ (w.heap.size ≤ s_.2.2) ∧ (gb305 ≠ s_.2.2) ∧ (s_.2.2 ≠ gb305) ∧ (gb306 ≠ s_.2.2) ∧ (s_.2.2 ≠ gb306) ∧ (gb320 ≠ s_.2.2) ∧ (s_.2.2 ≠ gb320) ∧ (gb325 ≠ s_.2.2) ∧ (s_.2.2 ≠ gb325) ∧ (gb334 ≠ s_.2.2) ∧ (s_.2.2 ≠ gb334) ∧ (Below w.heap.size w w')) ?_ ?_
 rotate_left
 ·intro hCont
  refine two_ (i := 1) (j := 8) (Ni := some 81) (Nj := some 14) #[true, true, true, false, false, false, false, false, false, false, false] #[true, false, true, false, false, false, false, false, true, false, false] rfl rfl rfl rfl (two_of HT_.out (by kernel_rfl)) (by decide) (by decide) (fun K hK => ?_) (fun K hK => ?_)
  ·skip
   refine goes_ Try.func22 (by kernel_rfl) rfl #[.agg #[.int .i64 a0_0, .slice A0_1 l0_1.length c0_1]] (by rfl) rfl rfl (by (try simp only [List.map_toArray, List.map_cons, List.map_nil]); first | done | rfl | (simp only [List.length_drop, List.length_take]; rfl)) ?_
   with_reducible refine (laws_toPuzzle.calls k a0_0 _ _ l0_1 t347 t348 _ ?side1 ?side2 A30.out).mono ?_
   (case side1 => repeat (first | exact (Kd.C_below HR0_1.out HB.out) | (with_reducible refine Kd.C_alloc ?_ _) | (with_reducible refine Kd.C_drewN ?_ _) | (with_reducible refine Kd.C_drew ?_)))
   (case side2 => exact HC0_1.out)
   rintro e w94 ⟨v349, rfl, ho0, hb⟩
   refine ⟨_, rfl, ?_⟩
   have n0_ := Aside0.mk (Kd.R_elder' (zr HO311.out) (Kd.R_base ho0) hb)
   have n1_ := Aside0.mk (Kd.R_elder' (zr HO318.out) (Kd.R_base ho0) hb)
   have n2_ := Aside0.mk (Kd.R_elder' (zr HO324.out) (Kd.R_base ho0) hb)
   have n3_ := Aside0.mk (Kd.R_elder' (zr HO332.out) (Kd.R_base ho0) hb)
   have n4_ := Aside0.mk (Kd.R_elder' (zr HO339.out) (Kd.R_base ho0) hb)
   have n5_ := Aside0.mk (Kd.R_lower (Kd.R_new' (Kd.R_new' (Kd.R_new' (Kd.R_new' (Kd.R_new' ho0 (Kd.R_lt (zr HO311.out))) (Kd.R_lt (zr HO318.out))) (Kd.R_lt (zr HO324.out))) (Kd.R_lt (zr HO332.out))) (Kd.R_lt (zr HO339.out))) (below_size (zh HB.out)))
   have n6_ := Aside0.mk (blk_below (g := gb305) (o := .cells #[.int .i64 a0_0, .slice A0_1 l0_1.length c0_1] 40 (0, 0)) (zb BK305.out) hb)
   have n7_ := Aside0.mk (blk_below (g := gb306) (o := .cells #[.int .i64 a1_0, .int .i64 a1_1, .int .i64 a1_2] 23 (0, 0)) (zb BK306.out) hb)
   have n8_ := Aside0.mk (blk_below (g := gb320) (o := .cells #[.int .i64 t315, .slice Ao52 t316.length co52] 45 (0, 0)) (zb BK320.out) hb)
   have n9_ := Aside0.mk (blk_below (g := gb325) (o := .cells #[.int .i64 t321, .slice Ao62 t322.length co62] 45 (0, 0)) (zb BK325.out) hb)
   have n10_ := Aside0.mk (blk_below (g := gb334) (o := .cells #[.int .i64 t329, .slice Ao70 t330.length co70] 45 (0, 0)) (zb BK334.out) hb)
   have n11_ := Aside0.mk (below_step (zh HB.out) hb)
   clear HO311
   clear HO318
   clear HO324
   clear HO332
   clear HO339
   clear BK305
   clear BK306
   clear BK320
   clear BK325
   clear BK334
   clear HB
   have HO311 := n0_
   have HO318 := n1_
   have HO324 := n2_
   have HO332 := n3_
   have HO339 := n4_
   have HO350 := n5_
   have BK305 := n6_
   have BK306 := n7_
   have BK320 := n8_
   have BK325 := n9_
   have BK334 := n10_
   have HB := n11_
   clear n0_ n1_ n2_ n3_ n4_ n5_ n6_ n7_ n8_ n9_ n10_ n11_
   (try clear hb)
   (try clear hb2)
   (try clear hk)
   (try clear hi)
   (try clear ho0)
   refine hK.out _ _ ⟨(blk_cell BK305.out 0).trans rfl, (blk_cell BK305.out 1).trans rfl, (blk_cell BK306.out 0).trans rfl, (blk_cell BK306.out 1).trans rfl, (blk_cell BK306.out 2).trans rfl⟩ (fun hHeld => ?_)
   clear hK K
   refine norm_ (a' := ?_) ?_ ?_
   rotate_left
   ·show Act.put _ (some 81) _ = _
    simp only [Act.put, List.setIfInBounds_toArray, List.set_cons_zero, List.set_cons_succ, i64_w, i32_w]
    rfl
   refine two_ (i := 3) (j := 8) (Ni := some 83) (Nj := some 14) #[true, true, true, true, false, false, false, false, false, false, false] #[true, true, true, false, false, false, false, false, true, false, false] rfl rfl rfl rfl (two_of HT_.out (by kernel_rfl)) (by decide) (by decide) (fun K hK => ?_) (fun K hK => ?_)
   ·skip
    refine goes_ Try.func10 (by kernel_rfl) rfl #[.agg #[.int .i64 a1_0, .int .i64 a1_1, .int .i64 a1_2]] (by rfl) rfl rfl (by (try simp only [List.map_toArray, List.map_cons, List.map_nil]); first | done | rfl | (simp only [List.length_drop, List.length_take]; rfl)) ?_
    with_reducible refine (laws_toClue.calls a1_0 a1_1 a1_2 t351 t352 t353 _ A31.out).mono ?_
    rintro e w95 ⟨rfl, hb⟩
    refine ⟨_, rfl, ?_⟩
    have n0_ := Aside0.mk (Kd.R_below (zr HO311.out) hb)
    have n1_ := Aside0.mk (Kd.R_below (zr HO318.out) hb)
    have n2_ := Aside0.mk (Kd.R_below (zr HO324.out) hb)
    have n3_ := Aside0.mk (Kd.R_below (zr HO332.out) hb)
    have n4_ := Aside0.mk (Kd.R_below (zr HO339.out) hb)
    have n5_ := Aside0.mk (Kd.R_below (zr HO350.out) hb)
    have n6_ := Aside0.mk (blk_below (g := gb305) (o := .cells #[.int .i64 a0_0, .slice A0_1 l0_1.length c0_1] 40 (0, 0)) (zb BK305.out) hb)
    have n7_ := Aside0.mk (blk_below (g := gb306) (o := .cells #[.int .i64 a1_0, .int .i64 a1_1, .int .i64 a1_2] 23 (0, 0)) (zb BK306.out) hb)
    have n8_ := Aside0.mk (blk_below (g := gb320) (o := .cells #[.int .i64 t315, .slice Ao52 t316.length co52] 45 (0, 0)) (zb BK320.out) hb)
    have n9_ := Aside0.mk (blk_below (g := gb325) (o := .cells #[.int .i64 t321, .slice Ao62 t322.length co62] 45 (0, 0)) (zb BK325.out) hb)
    have n10_ := Aside0.mk (blk_below (g := gb334) (o := .cells #[.int .i64 t329, .slice Ao70 t330.length co70] 45 (0, 0)) (zb BK334.out) hb)
    have n11_ := Aside0.mk (below_step (zh HB.out) hb)
    clear HO311
    clear HO318
    clear HO324
    clear HO332
    clear HO339
    clear HO350
    clear BK305
    clear BK306
    clear BK320
    clear BK325
    clear BK334
    clear HB
    have HO311 := n0_
    have HO318 := n1_
    have HO324 := n2_
    have HO332 := n3_
    have HO339 := n4_
    have HO350 := n5_
    have BK305 := n6_
    have BK306 := n7_
    have BK320 := n8_
    have BK325 := n9_
    have BK334 := n10_
    have HB := n11_
    clear n0_ n1_ n2_ n3_ n4_ n5_ n6_ n7_ n8_ n9_ n10_ n11_
    (try clear hb)
    (try clear hb2)
    (try clear hk)
    (try clear hi)
    obtain ⟨Ao96, co96, eo96⟩ := Kd.R_slice HO350.out
    (first | subst eo96 | (injection eo96 with f1_ f2_ f3_; have f4_ := f1_.symm; have f5_ := f3_.symm; clear f1_ f2_ f3_; subst f4_; subst f5_))
    refine hK.out _ _ ⟨(blk_cell BK305.out 0).trans rfl, (blk_cell BK305.out 1).trans rfl, (blk_cell BK306.out 0).trans rfl, (blk_cell BK306.out 1).trans rfl, (blk_cell BK306.out 2).trans rfl⟩ (fun hHeld => ?_)
    clear hK K
    refine norm_ (a' := ?_) ?_ ?_
    rotate_left
    ·show Act.put _ (some 83) _ = _
     simp only [Act.put, List.setIfInBounds_toArray, List.set_cons_zero, List.set_cons_succ, i64_w, i32_w]
     rfl
    refine two_ (i := 4) (j := 8) (Ni := some 84) (Nj := some 14) #[true, true, true, true, true, false, false, false, false, false, false] #[true, true, true, true, false, false, false, false, true, false, false] rfl rfl rfl rfl (two_of HT_.out (by kernel_rfl)) (by decide) (by decide) (fun K hK => ?_) (fun K hK => ?_)
    ·skip
     refine goes_ Try.func26 (by kernel_rfl) rfl #[.agg #[.int .i64 t347, .slice Ao96 t348.length co96], .agg #[.int .i64 t351, .int .i64 t352, .int .i64 t353]] (by rfl) rfl rfl (by (try simp only [List.map_toArray, List.map_cons, List.map_nil]); first | done | rfl | (simp only [List.length_drop, List.length_take]; rfl)) ?_
     with_reducible refine (impl_AddClue.calls t347 _ _ t348 t351 t352 t353 t354 t355 t358 _ ?side1 ?side2 A32.out).mono ?_
     (case side1 => repeat (first | exact (Kd.R_reads' HO350.out).2.2 | (with_reducible refine Kd.C_alloc ?_ _) | (with_reducible refine Kd.C_drewN ?_ _) | (with_reducible refine Kd.C_drew ?_)))
     (case side2 => exact (Kd.R_reads' HO350.out).2.1)
     rintro e w97 ⟨v356, rfl, ho0, hb⟩
     refine ⟨_, rfl, ?_⟩
     have n0_ := Aside0.mk (Kd.R_elder' (zr HO311.out) (Kd.R_base ho0) hb)
     have n1_ := Aside0.mk (Kd.R_elder' (zr HO318.out) (Kd.R_base ho0) hb)
     have n2_ := Aside0.mk (Kd.R_elder' (zr HO324.out) (Kd.R_base ho0) hb)
     have n3_ := Aside0.mk (Kd.R_elder' (zr HO332.out) (Kd.R_base ho0) hb)
     have n4_ := Aside0.mk (Kd.R_elder' (zr HO339.out) (Kd.R_base ho0) hb)
     have n5_ := Aside0.mk (Kd.R_elder' (zr HO350.out) (Kd.R_base ho0) hb)
     have n6_ := Aside0.mk (Kd.R_lower (Kd.R_new' (Kd.R_new' (Kd.R_new' (Kd.R_new' (Kd.R_new' (Kd.R_new' ho0 (Kd.R_lt (zr HO311.out))) (Kd.R_lt (zr HO318.out))) (Kd.R_lt (zr HO324.out))) (Kd.R_lt (zr HO332.out))) (Kd.R_lt (zr HO339.out))) (Kd.R_lt (zr HO350.out))) (below_size (zh HB.out)))
     have n7_ := Aside0.mk (blk_below (g := gb305) (o := .cells #[.int .i64 a0_0, .slice A0_1 l0_1.length c0_1] 40 (0, 0)) (zb BK305.out) hb)
     have n8_ := Aside0.mk (blk_below (g := gb306) (o := .cells #[.int .i64 a1_0, .int .i64 a1_1, .int .i64 a1_2] 23 (0, 0)) (zb BK306.out) hb)
     have n9_ := Aside0.mk (blk_below (g := gb320) (o := .cells #[.int .i64 t315, .slice Ao52 t316.length co52] 45 (0, 0)) (zb BK320.out) hb)
     have n10_ := Aside0.mk (blk_below (g := gb325) (o := .cells #[.int .i64 t321, .slice Ao62 t322.length co62] 45 (0, 0)) (zb BK325.out) hb)
     have n11_ := Aside0.mk (blk_below (g := gb334) (o := .cells #[.int .i64 t329, .slice Ao70 t330.length co70] 45 (0, 0)) (zb BK334.out) hb)
     have n12_ := Aside0.mk (below_step (zh HB.out) hb)
     clear HO311
     clear HO318
     clear HO324
     clear HO332
     clear HO339
     clear HO350
     clear BK305
     clear BK306
     clear BK320
     clear BK325
     clear BK334
     clear HB
     have HO311 := n0_
     have HO318 := n1_
     have HO324 := n2_
     have HO332 := n3_
     have HO339 := n4_
     have HO350 := n5_
     have HO357 := n6_
     have BK305 := n7_
     have BK306 := n8_
     have BK320 := n9_
     have BK325 := n10_
     have BK334 := n11_
     have HB := n12_
     clear n0_ n1_ n2_ n3_ n4_ n5_ n6_ n7_ n8_ n9_ n10_ n11_ n12_
     (try clear hb)
     (try clear hb2)
     (try clear hk)
     (try clear hi)
     (try clear ho0)
     refine hK.out _ _ ⟨(blk_cell BK305.out 0).trans rfl, (blk_cell BK305.out 1).trans rfl, (blk_cell BK306.out 0).trans rfl, (blk_cell BK306.out 1).trans rfl, (blk_cell BK306.out 2).trans rfl⟩ (fun hHeld => ?_)
     clear hK K
     refine norm_ (a' := ?_) ?_ ?_
     rotate_left
     ·show Act.put _ (some 84) _ = _
      simp only [Act.put, List.setIfInBounds_toArray, List.set_cons_zero, List.set_cons_succ, i64_w, i32_w]
      rfl
     refine pure_ (i := 5) (N := some 79) (v := ?_) (a' := ?_) #[true, true, true, true, true, true, false, false, false, false, false] rfl rfl (any_of HT_.out (by kernel_rfl)) (fun _ _ _ h => h) (Or.inl ⟨by rfl, ?_⟩) ?_ ?_
     rotate_left
     ·intro w'
      go_simp
      with_reducible rfl
     rotate_left
     ·simp only [Act.put, List.setIfInBounds_toArray, List.set_cons_zero, List.set_cons_succ, i64_w, i32_w]
      rfl
     refine pure_ (i := 6) (N := some 85) (v := ?_) (a' := ?_) #[true, true, true, true, true, true, true, false, false, false, false] rfl rfl (any_of HT_.out (by kernel_rfl)) (fun _ _ _ h => h) (Or.inl ⟨by rfl, ?_⟩) ?_ ?_
     rotate_left
     ·intro w'
      go_simp
      with_reducible rfl
     rotate_left
     ·simp only [Act.put, List.setIfInBounds_toArray, List.set_cons_zero, List.set_cons_succ, i64_w, i32_w]
      rfl
     refine pure_ (i := 7) (N := some 86) (v := ?_) (a' := ?_) #[true, true, true, true, true, true, true, true, false, false, false] rfl rfl (any_of HT_.out (by kernel_rfl)) (fun _ _ _ h => h) (Or.inl ⟨by rfl, ?_⟩) ?_ ?_
     rotate_left
     ·intro w'
      go_simp
      with_reducible rfl
     rotate_left
     ·simp only [Act.put, List.setIfInBounds_toArray, List.set_cons_zero, List.set_cons_succ, i64_w, i32_w]
      rfl
     refine one_ (i := 8) (N := some 14) #[true, true, true, true, true, true, true, true, true, false, false] rfl rfl (one_of HT_.out (by kernel_rfl)) (by decide) (fun K hK => ?_)
     refine box_step ?hg (N := 14) ?hd (cs := #[.int .i64 0, .slice none 0 0]) (t := 45) ?hr ?_; (case hd => rfl); (case hg => rfl); (case hr => first | (go_simp; done) | (go_simp; rfl))
     intro gb359 hg w98 hbox hb
     have n0_ := Aside0.mk (Kd.R_below (zr HO311.out) hb)
     have n1_ := Aside0.mk (Kd.R_below (zr HO318.out) hb)
     have n2_ := Aside0.mk (Kd.R_below (zr HO324.out) hb)
     have n3_ := Aside0.mk (Kd.R_below (zr HO332.out) hb)
     have n4_ := Aside0.mk (Kd.R_below (zr HO339.out) hb)
     have n5_ := Aside0.mk (Kd.R_below (zr HO350.out) hb)
     have n6_ := Aside0.mk (Kd.R_below (zr HO357.out) hb)
     have n7_ := Aside0.mk (blk_below (g := gb305) (o := .cells #[.int .i64 a0_0, .slice A0_1 l0_1.length c0_1] 40 (0, 0)) (zb BK305.out) hb)
     have n8_ := Aside0.mk (blk_below (g := gb306) (o := .cells #[.int .i64 a1_0, .int .i64 a1_1, .int .i64 a1_2] 23 (0, 0)) (zb BK306.out) hb)
     have n9_ := Aside0.mk (blk_below (g := gb320) (o := .cells #[.int .i64 t315, .slice Ao52 t316.length co52] 45 (0, 0)) (zb BK320.out) hb)
     have n10_ := Aside0.mk (blk_below (g := gb325) (o := .cells #[.int .i64 t321, .slice Ao62 t322.length co62] 45 (0, 0)) (zb BK325.out) hb)
     have n11_ := Aside0.mk (blk_below (g := gb334) (o := .cells #[.int .i64 t329, .slice Ao70 t330.length co70] 45 (0, 0)) (zb BK334.out) hb)
     have n12_ := Aside0.mk (below_step (zh HB.out) hb)
     have n13_ := Aside0.mk (hbox)
     have n14_ := Aside0.mk ((by rw [hg]; exact (below_size (zh HB.out)) : w.heap.size ≤ gb359))
     have n15_ := Aside0.mk ((by rw [hg]; exact (below_size (zh HB.out)) : w.heap.size ≤ gb359))
     have n16_ := Aside0.mk ((by rw [hg]; exact Nat.ne_of_lt (blk_lt (g := gb305) (o := .cells #[.int .i64 a0_0, .slice A0_1 l0_1.length c0_1] 40 (0, 0)) (zb BK305.out)) : gb305 ≠ gb359))
     have n17_ := Aside0.mk ((by rw [hg]; exact Nat.ne_of_gt (blk_lt (g := gb305) (o := .cells #[.int .i64 a0_0, .slice A0_1 l0_1.length c0_1] 40 (0, 0)) (zb BK305.out)) : gb359 ≠ gb305))
     have n18_ := Aside0.mk ((by rw [hg]; exact Nat.ne_of_lt (blk_lt (g := gb306) (o := .cells #[.int .i64 a1_0, .int .i64 a1_1, .int .i64 a1_2] 23 (0, 0)) (zb BK306.out)) : gb306 ≠ gb359))
     have n19_ := Aside0.mk ((by rw [hg]; exact Nat.ne_of_gt (blk_lt (g := gb306) (o := .cells #[.int .i64 a1_0, .int .i64 a1_1, .int .i64 a1_2] 23 (0, 0)) (zb BK306.out)) : gb359 ≠ gb306))
     have n20_ := Aside0.mk ((by rw [hg]; exact Nat.ne_of_lt (blk_lt (g := gb320) (o := .cells #[.int .i64 t315, .slice Ao52 t316.length co52] 45 (0, 0)) (zb BK320.out)) : gb320 ≠ gb359))
     have n21_ := Aside0.mk ((by rw [hg]; exact Nat.ne_of_gt (blk_lt (g := gb320) (o := .cells #[.int .i64 t315, .slice Ao52 t316.length co52] 45 (0, 0)) (zb BK320.out)) : gb359 ≠ gb320))
     have n22_ := Aside0.mk ((by rw [hg]; exact Nat.ne_of_lt (blk_lt (g := gb325) (o := .cells #[.int .i64 t321, .slice Ao62 t322.length co62] 45 (0, 0)) (zb BK325.out)) : gb325 ≠ gb359))
     have n23_ := Aside0.mk ((by rw [hg]; exact Nat.ne_of_gt (blk_lt (g := gb325) (o := .cells #[.int .i64 t321, .slice Ao62 t322.length co62] 45 (0, 0)) (zb BK325.out)) : gb359 ≠ gb325))
     have n24_ := Aside0.mk ((by rw [hg]; exact Nat.ne_of_lt (blk_lt (g := gb334) (o := .cells #[.int .i64 t329, .slice Ao70 t330.length co70] 45 (0, 0)) (zb BK334.out)) : gb334 ≠ gb359))
     have n25_ := Aside0.mk ((by rw [hg]; exact Nat.ne_of_gt (blk_lt (g := gb334) (o := .cells #[.int .i64 t329, .slice Ao70 t330.length co70] 45 (0, 0)) (zb BK334.out)) : gb359 ≠ gb334))
     clear HO311
     clear HO318
     clear HO324
     clear HO332
     clear HO339
     clear HO350
     clear HO357
     clear BK305
     clear BK306
     clear BK320
     clear BK325
     clear BK334
     clear HB
     have HO311 := n0_
     have HO318 := n1_
     have HO324 := n2_
     have HO332 := n3_
     have HO339 := n4_
     have HO350 := n5_
     have HO357 := n6_
     have BK305 := n7_
     have BK306 := n8_
     have BK320 := n9_
     have BK325 := n10_
     have BK334 := n11_
     have HB := n12_
     have BK359 := n13_
     have GW359 := n14_
     have GE359 := n15_
     have NB305_359 := n16_
     have NB359_305 := n17_
     have NB306_359 := n18_
     have NB359_306 := n19_
     have NB320_359 := n20_
     have NB359_320 := n21_
     have NB325_359 := n22_
     have NB359_325 := n23_
     have NB334_359 := n24_
     have NB359_334 := n25_
     clear n0_ n1_ n2_ n3_ n4_ n5_ n6_ n7_ n8_ n9_ n10_ n11_ n12_ n13_ n14_ n15_ n16_ n17_ n18_ n19_ n20_ n21_ n22_ n23_ n24_ n25_
     clear hb hbox hg
     refine hK.out _ _ ⟨(blk_cell BK305.out 0).trans rfl, (blk_cell BK305.out 1).trans rfl, (blk_cell BK306.out 0).trans rfl, (blk_cell BK306.out 1).trans rfl, (blk_cell BK306.out 2).trans rfl⟩ (fun hHeld => ?_)
     clear hK K
     refine norm_ (a' := ?_) ?_ ?_
     rotate_left
     ·show Act.put _ (some 14) _ = _
      simp only [Act.put, List.setIfInBounds_toArray, List.set_cons_zero, List.set_cons_succ, i64_w, i32_w]
      rfl
     exact norm_ (by simp only [putAll, Act.put, List.setIfInBounds_toArray, List.set_cons_zero, List.set_cons_succ]) (hCont (.slice Ao96 t348.length co96, v356, gb359) _ ⟨hHeld, (by (with_reducible repeat (first | apply Kd.R_alloc | apply Kd.R_drewN | apply Kd.R_drew)); exact Kd.R_mono HO311.out (fun _ hk => ⟨hk.1.1.1, ⟨hk.1.1.2.1, ⟨hk.1.1.2.2.1, ⟨hk.1.1.2.2.2, ⟨hk.1.2, hk.2⟩⟩⟩⟩⟩)), (by (with_reducible repeat (first | apply Kd.R_alloc | apply Kd.R_drewN | apply Kd.R_drew)); exact Kd.R_mono HO318.out (fun _ hk => ⟨hk.1.1.1, ⟨hk.1.1.2.1, ⟨hk.1.1.2.2.1, ⟨hk.1.1.2.2.2, ⟨hk.1.2, hk.2⟩⟩⟩⟩⟩)), (by (with_reducible repeat (first | apply Kd.R_alloc | apply Kd.R_drewN | apply Kd.R_drew)); exact Kd.R_mono HO324.out (fun _ hk => ⟨hk.1.1.1, ⟨hk.1.1.2.1, ⟨hk.1.1.2.2.1, ⟨hk.1.1.2.2.2, ⟨hk.1.2, hk.2⟩⟩⟩⟩⟩)), (by (with_reducible repeat (first | apply Kd.R_alloc | apply Kd.R_drewN | apply Kd.R_drew)); exact Kd.R_mono HO332.out (fun _ hk => ⟨hk.1.1.1, ⟨hk.1.1.2.1, ⟨hk.1.1.2.2.1, ⟨hk.1.1.2.2.2, ⟨hk.1.2, hk.2⟩⟩⟩⟩⟩)), (by (with_reducible repeat (first | apply Kd.R_alloc | apply Kd.R_drewN | apply Kd.R_drew)); exact Kd.R_mono HO339.out (fun _ hk => ⟨hk.1.1.1, ⟨hk.1.1.2.1, ⟨hk.1.1.2.2.1, ⟨hk.1.1.2.2.2, ⟨hk.1.2, hk.2⟩⟩⟩⟩⟩)), (by (with_reducible repeat (first | apply Kd.R_alloc | apply Kd.R_drewN | apply Kd.R_drew)); exact Kd.R_mono HO350.out (fun _ hk => ⟨hk.1.1.1.1.1.2, ⟨hk.1.1.1.1.2, ⟨hk.1.1.1.2, ⟨hk.1.1.2, ⟨hk.1.2, hk.2⟩⟩⟩⟩⟩)), (by (with_reducible repeat (first | apply Kd.R_alloc | apply Kd.R_drewN | apply Kd.R_drew)); exact Kd.R_mono HO357.out (fun _ hk => ⟨hk.1.1.1.1.1.2, ⟨hk.1.1.1.1.2, ⟨hk.1.1.1.2, ⟨hk.1.1.2, ⟨hk.1.2, hk.2⟩⟩⟩⟩⟩)), (zb BK305.out), (zb BK306.out), (zb BK320.out), (zb BK325.out), (zb BK334.out), (zb BK359.out), GW359.out, GE359.out, NB305_359.out, NB359_305.out, NB306_359.out, NB359_306.out, NB320_359.out, NB359_320.out, NB325_359.out, NB359_325.out, NB334_359.out, NB359_334.out, (zh HB.out)⟩)
    ·skip
     refine box_step ?hg (N := 14) ?hd (cs := #[.int .i64 0, .slice none 0 0]) (t := 45) ?hr ?_; (case hd => rfl); (case hg => rfl); (case hr => first | (go_simp; done) | (go_simp; rfl))
     intro gb359 hg w96 hbox hb
     have n0_ := Aside0.mk (Kd.R_below (zr HO311.out) hb)
     have n1_ := Aside0.mk (Kd.R_below (zr HO318.out) hb)
     have n2_ := Aside0.mk (Kd.R_below (zr HO324.out) hb)
     have n3_ := Aside0.mk (Kd.R_below (zr HO332.out) hb)
     have n4_ := Aside0.mk (Kd.R_below (zr HO339.out) hb)
     have n5_ := Aside0.mk (Kd.R_below (zr HO350.out) hb)
     have n6_ := Aside0.mk (blk_below (g := gb305) (o := .cells #[.int .i64 a0_0, .slice A0_1 l0_1.length c0_1] 40 (0, 0)) (zb BK305.out) hb)
     have n7_ := Aside0.mk (blk_below (g := gb306) (o := .cells #[.int .i64 a1_0, .int .i64 a1_1, .int .i64 a1_2] 23 (0, 0)) (zb BK306.out) hb)
     have n8_ := Aside0.mk (blk_below (g := gb320) (o := .cells #[.int .i64 t315, .slice Ao52 t316.length co52] 45 (0, 0)) (zb BK320.out) hb)
     have n9_ := Aside0.mk (blk_below (g := gb325) (o := .cells #[.int .i64 t321, .slice Ao62 t322.length co62] 45 (0, 0)) (zb BK325.out) hb)
     have n10_ := Aside0.mk (blk_below (g := gb334) (o := .cells #[.int .i64 t329, .slice Ao70 t330.length co70] 45 (0, 0)) (zb BK334.out) hb)
     have n11_ := Aside0.mk (below_step (zh HB.out) hb)
     have n12_ := Aside0.mk (hbox)
     have n13_ := Aside0.mk ((by rw [hg]; exact (below_size (zh HB.out)) : w.heap.size ≤ gb359))
     have n14_ := Aside0.mk ((by rw [hg]; exact (below_size (zh HB.out)) : w.heap.size ≤ gb359))
     have n15_ := Aside0.mk ((by rw [hg]; exact Nat.ne_of_lt (blk_lt (g := gb305) (o := .cells #[.int .i64 a0_0, .slice A0_1 l0_1.length c0_1] 40 (0, 0)) (zb BK305.out)) : gb305 ≠ gb359))
     have n16_ := Aside0.mk ((by rw [hg]; exact Nat.ne_of_gt (blk_lt (g := gb305) (o := .cells #[.int .i64 a0_0, .slice A0_1 l0_1.length c0_1] 40 (0, 0)) (zb BK305.out)) : gb359 ≠ gb305))
     have n17_ := Aside0.mk ((by rw [hg]; exact Nat.ne_of_lt (blk_lt (g := gb306) (o := .cells #[.int .i64 a1_0, .int .i64 a1_1, .int .i64 a1_2] 23 (0, 0)) (zb BK306.out)) : gb306 ≠ gb359))
     have n18_ := Aside0.mk ((by rw [hg]; exact Nat.ne_of_gt (blk_lt (g := gb306) (o := .cells #[.int .i64 a1_0, .int .i64 a1_1, .int .i64 a1_2] 23 (0, 0)) (zb BK306.out)) : gb359 ≠ gb306))
     have n19_ := Aside0.mk ((by rw [hg]; exact Nat.ne_of_lt (blk_lt (g := gb320) (o := .cells #[.int .i64 t315, .slice Ao52 t316.length co52] 45 (0, 0)) (zb BK320.out)) : gb320 ≠ gb359))
     have n20_ := Aside0.mk ((by rw [hg]; exact Nat.ne_of_gt (blk_lt (g := gb320) (o := .cells #[.int .i64 t315, .slice Ao52 t316.length co52] 45 (0, 0)) (zb BK320.out)) : gb359 ≠ gb320))
     have n21_ := Aside0.mk ((by rw [hg]; exact Nat.ne_of_lt (blk_lt (g := gb325) (o := .cells #[.int .i64 t321, .slice Ao62 t322.length co62] 45 (0, 0)) (zb BK325.out)) : gb325 ≠ gb359))
     have n22_ := Aside0.mk ((by rw [hg]; exact Nat.ne_of_gt (blk_lt (g := gb325) (o := .cells #[.int .i64 t321, .slice Ao62 t322.length co62] 45 (0, 0)) (zb BK325.out)) : gb359 ≠ gb325))
     have n23_ := Aside0.mk ((by rw [hg]; exact Nat.ne_of_lt (blk_lt (g := gb334) (o := .cells #[.int .i64 t329, .slice Ao70 t330.length co70] 45 (0, 0)) (zb BK334.out)) : gb334 ≠ gb359))
     have n24_ := Aside0.mk ((by rw [hg]; exact Nat.ne_of_gt (blk_lt (g := gb334) (o := .cells #[.int .i64 t329, .slice Ao70 t330.length co70] 45 (0, 0)) (zb BK334.out)) : gb359 ≠ gb334))
     clear HO311
     clear HO318
     clear HO324
     clear HO332
     clear HO339
     clear HO350
     clear BK305
     clear BK306
     clear BK320
     clear BK325
     clear BK334
     clear HB
     have HO311 := n0_
     have HO318 := n1_
     have HO324 := n2_
     have HO332 := n3_
     have HO339 := n4_
     have HO350 := n5_
     have BK305 := n6_
     have BK306 := n7_
     have BK320 := n8_
     have BK325 := n9_
     have BK334 := n10_
     have HB := n11_
     have BK359 := n12_
     have GW359 := n13_
     have GE359 := n14_
     have NB305_359 := n15_
     have NB359_305 := n16_
     have NB306_359 := n17_
     have NB359_306 := n18_
     have NB320_359 := n19_
     have NB359_320 := n20_
     have NB325_359 := n21_
     have NB359_325 := n22_
     have NB334_359 := n23_
     have NB359_334 := n24_
     clear n0_ n1_ n2_ n3_ n4_ n5_ n6_ n7_ n8_ n9_ n10_ n11_ n12_ n13_ n14_ n15_ n16_ n17_ n18_ n19_ n20_ n21_ n22_ n23_ n24_
     clear hb hbox hg
     obtain ⟨Ao97, co97, eo97⟩ := Kd.R_slice HO350.out
     (first | subst eo97 | (injection eo97 with f1_ f2_ f3_; have f4_ := f1_.symm; have f5_ := f3_.symm; clear f1_ f2_ f3_; subst f4_; subst f5_))
     refine hK.out _ _ ⟨(blk_cell BK305.out 0).trans rfl, (blk_cell BK305.out 1).trans rfl, (blk_cell BK306.out 0).trans rfl, (blk_cell BK306.out 1).trans rfl, (blk_cell BK306.out 2).trans rfl⟩ (fun hHeld => ?_)
     clear hK K
     refine norm_ (a' := ?_) ?_ ?_
     rotate_left
     ·show Act.put _ (some 14) _ = _
      simp only [Act.put, List.setIfInBounds_toArray, List.set_cons_zero, List.set_cons_succ, i64_w, i32_w]
      rfl
     refine one_ (i := 4) (N := some 84) #[true, true, true, true, true, false, false, false, true, false, false] rfl rfl (one_of HT_.out (by kernel_rfl)) (by decide) (fun K hK => ?_)
     refine goes_ Try.func26 (by kernel_rfl) rfl #[.agg #[.int .i64 t347, .slice Ao97 t348.length co97], .agg #[.int .i64 t351, .int .i64 t352, .int .i64 t353]] (by rfl) rfl rfl (by (try simp only [List.map_toArray, List.map_cons, List.map_nil]); first | done | rfl | (simp only [List.length_drop, List.length_take]; rfl)) ?_
     with_reducible refine (impl_AddClue.calls t347 _ _ t348 t351 t352 t353 t354 t355 t358 _ ?side1 ?side2 A32.out).mono ?_
     (case side1 => repeat (first | exact (Kd.R_reads' HO350.out).2.2 | (with_reducible refine Kd.C_alloc ?_ _) | (with_reducible refine Kd.C_drewN ?_ _) | (with_reducible refine Kd.C_drew ?_)))
     (case side2 => exact (Kd.R_reads' HO350.out).2.1)
     rintro e w98 ⟨v356, rfl, ho0, hb⟩
     refine ⟨_, rfl, ?_⟩
     have n0_ := Aside0.mk (Kd.R_elder' (zr HO311.out) (Kd.R_base ho0) hb)
     have n1_ := Aside0.mk (Kd.R_elder' (zr HO318.out) (Kd.R_base ho0) hb)
     have n2_ := Aside0.mk (Kd.R_elder' (zr HO324.out) (Kd.R_base ho0) hb)
     have n3_ := Aside0.mk (Kd.R_elder' (zr HO332.out) (Kd.R_base ho0) hb)
     have n4_ := Aside0.mk (Kd.R_elder' (zr HO339.out) (Kd.R_base ho0) hb)
     have n5_ := Aside0.mk (Kd.R_elder' (zr HO350.out) (Kd.R_base ho0) hb)
     have n6_ := Aside0.mk (Kd.R_lower (Kd.R_new' (Kd.R_new' (Kd.R_new' (Kd.R_new' (Kd.R_new' (Kd.R_new' ho0 (Kd.R_lt (zr HO311.out))) (Kd.R_lt (zr HO318.out))) (Kd.R_lt (zr HO324.out))) (Kd.R_lt (zr HO332.out))) (Kd.R_lt (zr HO339.out))) (Kd.R_lt (zr HO350.out))) (below_size (zh HB.out)))
     have n7_ := Aside0.mk (blk_below (g := gb305) (o := .cells #[.int .i64 a0_0, .slice A0_1 l0_1.length c0_1] 40 (0, 0)) (zb BK305.out) hb)
     have n8_ := Aside0.mk (blk_below (g := gb306) (o := .cells #[.int .i64 a1_0, .int .i64 a1_1, .int .i64 a1_2] 23 (0, 0)) (zb BK306.out) hb)
     have n9_ := Aside0.mk (blk_below (g := gb320) (o := .cells #[.int .i64 t315, .slice Ao52 t316.length co52] 45 (0, 0)) (zb BK320.out) hb)
     have n10_ := Aside0.mk (blk_below (g := gb325) (o := .cells #[.int .i64 t321, .slice Ao62 t322.length co62] 45 (0, 0)) (zb BK325.out) hb)
     have n11_ := Aside0.mk (blk_below (g := gb334) (o := .cells #[.int .i64 t329, .slice Ao70 t330.length co70] 45 (0, 0)) (zb BK334.out) hb)
     have n12_ := Aside0.mk (blk_below (g := gb359) (o := .cells #[.int .i64 0, .slice none 0 0] 45 (0, 0)) (zb BK359.out) hb)
     have n13_ := Aside0.mk (below_step (zh HB.out) hb)
     clear HO311
     clear HO318
     clear HO324
     clear HO332
     clear HO339
     clear HO350
     clear BK305
     clear BK306
     clear BK320
     clear BK325
     clear BK334
     clear BK359
     clear HB
     have HO311 := n0_
     have HO318 := n1_
     have HO324 := n2_
     have HO332 := n3_
     have HO339 := n4_
     have HO350 := n5_
     have HO357 := n6_
     have BK305 := n7_
     have BK306 := n8_
     have BK320 := n9_
     have BK325 := n10_
     have BK334 := n11_
     have BK359 := n12_
     have HB := n13_
     clear n0_ n1_ n2_ n3_ n4_ n5_ n6_ n7_ n8_ n9_ n10_ n11_ n12_ n13_
     (try clear hb)
     (try clear hb2)
     (try clear hk)
     (try clear hi)
     (try clear ho0)
     refine hK.out _ _ ⟨(blk_cell BK305.out 0).trans rfl, (blk_cell BK305.out 1).trans rfl, (blk_cell BK306.out 0).trans rfl, (blk_cell BK306.out 1).trans rfl, (blk_cell BK306.out 2).trans rfl⟩ (fun hHeld => ?_)
     clear hK K
     refine norm_ (a' := ?_) ?_ ?_
     rotate_left
     ·show Act.put _ (some 84) _ = _
      simp only [Act.put, List.setIfInBounds_toArray, List.set_cons_zero, List.set_cons_succ, i64_w, i32_w]
      rfl
     refine pure_ (i := 5) (N := some 79) (v := ?_) (a' := ?_) #[true, true, true, true, true, true, false, false, true, false, false] rfl rfl (any_of HT_.out (by kernel_rfl)) (fun _ _ _ h => h) (Or.inl ⟨by rfl, ?_⟩) ?_ ?_
     rotate_left
     ·intro w'
      go_simp
      with_reducible rfl
     rotate_left
     ·simp only [Act.put, List.setIfInBounds_toArray, List.set_cons_zero, List.set_cons_succ, i64_w, i32_w]
      rfl
     refine pure_ (i := 6) (N := some 85) (v := ?_) (a' := ?_) #[true, true, true, true, true, true, true, false, true, false, false] rfl rfl (any_of HT_.out (by kernel_rfl)) (fun _ _ _ h => h) (Or.inl ⟨by rfl, ?_⟩) ?_ ?_
     rotate_left
     ·intro w'
      go_simp
      with_reducible rfl
     rotate_left
     ·simp only [Act.put, List.setIfInBounds_toArray, List.set_cons_zero, List.set_cons_succ, i64_w, i32_w]
      rfl
     refine pure_ (i := 7) (N := some 86) (v := ?_) (a' := ?_) #[true, true, true, true, true, true, true, true, true, false, false] rfl rfl (any_of HT_.out (by kernel_rfl)) (fun _ _ _ h => h) (Or.inl ⟨by rfl, ?_⟩) ?_ ?_
     rotate_left
     ·intro w'
      go_simp
      with_reducible rfl
     rotate_left
     ·simp only [Act.put, List.setIfInBounds_toArray, List.set_cons_zero, List.set_cons_succ, i64_w, i32_w]
      rfl
     exact norm_ (by simp only [putAll, Act.put, List.setIfInBounds_toArray, List.set_cons_zero, List.set_cons_succ]) (hCont (.slice Ao97 t348.length co97, v356, gb359) _ ⟨hHeld, (by (with_reducible repeat (first | apply Kd.R_alloc | apply Kd.R_drewN | apply Kd.R_drew)); exact Kd.R_mono HO311.out (fun _ hk => ⟨hk.1.1.1, ⟨hk.1.1.2.1, ⟨hk.1.1.2.2.1, ⟨hk.1.1.2.2.2, ⟨hk.1.2, hk.2⟩⟩⟩⟩⟩)), (by (with_reducible repeat (first | apply Kd.R_alloc | apply Kd.R_drewN | apply Kd.R_drew)); exact Kd.R_mono HO318.out (fun _ hk => ⟨hk.1.1.1, ⟨hk.1.1.2.1, ⟨hk.1.1.2.2.1, ⟨hk.1.1.2.2.2, ⟨hk.1.2, hk.2⟩⟩⟩⟩⟩)), (by (with_reducible repeat (first | apply Kd.R_alloc | apply Kd.R_drewN | apply Kd.R_drew)); exact Kd.R_mono HO324.out (fun _ hk => ⟨hk.1.1.1, ⟨hk.1.1.2.1, ⟨hk.1.1.2.2.1, ⟨hk.1.1.2.2.2, ⟨hk.1.2, hk.2⟩⟩⟩⟩⟩)), (by (with_reducible repeat (first | apply Kd.R_alloc | apply Kd.R_drewN | apply Kd.R_drew)); exact Kd.R_mono HO332.out (fun _ hk => ⟨hk.1.1.1, ⟨hk.1.1.2.1, ⟨hk.1.1.2.2.1, ⟨hk.1.1.2.2.2, ⟨hk.1.2, hk.2⟩⟩⟩⟩⟩)), (by (with_reducible repeat (first | apply Kd.R_alloc | apply Kd.R_drewN | apply Kd.R_drew)); exact Kd.R_mono HO339.out (fun _ hk => ⟨hk.1.1.1, ⟨hk.1.1.2.1, ⟨hk.1.1.2.2.1, ⟨hk.1.1.2.2.2, ⟨hk.1.2, hk.2⟩⟩⟩⟩⟩)), (by (with_reducible repeat (first | apply Kd.R_alloc | apply Kd.R_drewN | apply Kd.R_drew)); exact Kd.R_mono HO350.out (fun _ hk => ⟨hk.1.1.1.1.1.2, ⟨hk.1.1.1.1.2, ⟨hk.1.1.1.2, ⟨hk.1.1.2, ⟨hk.1.2, hk.2⟩⟩⟩⟩⟩)), (by (with_reducible repeat (first | apply Kd.R_alloc | apply Kd.R_drewN | apply Kd.R_drew)); exact Kd.R_mono HO357.out (fun _ hk => ⟨hk.1.1.1.1.1.2, ⟨hk.1.1.1.1.2, ⟨hk.1.1.1.2, ⟨hk.1.1.2, ⟨hk.1.2, hk.2⟩⟩⟩⟩⟩)), (zb BK305.out), (zb BK306.out), (zb BK320.out), (zb BK325.out), (zb BK334.out), (zb BK359.out), GW359.out, GE359.out, NB305_359.out, NB359_305.out, NB306_359.out, NB359_306.out, NB320_359.out, NB359_320.out, NB325_359.out, NB359_325.out, NB334_359.out, NB359_334.out, (zh HB.out)⟩)
   ·skip
    refine box_step ?hg (N := 14) ?hd (cs := #[.int .i64 0, .slice none 0 0]) (t := 45) ?hr ?_; (case hd => rfl); (case hg => rfl); (case hr => first | (go_simp; done) | (go_simp; rfl))
    intro gb359 hg w95 hbox hb
    have n0_ := Aside0.mk (Kd.R_below (zr HO311.out) hb)
    have n1_ := Aside0.mk (Kd.R_below (zr HO318.out) hb)
    have n2_ := Aside0.mk (Kd.R_below (zr HO324.out) hb)
    have n3_ := Aside0.mk (Kd.R_below (zr HO332.out) hb)
    have n4_ := Aside0.mk (Kd.R_below (zr HO339.out) hb)
    have n5_ := Aside0.mk (Kd.R_below (zr HO350.out) hb)
    have n6_ := Aside0.mk (blk_below (g := gb305) (o := .cells #[.int .i64 a0_0, .slice A0_1 l0_1.length c0_1] 40 (0, 0)) (zb BK305.out) hb)
    have n7_ := Aside0.mk (blk_below (g := gb306) (o := .cells #[.int .i64 a1_0, .int .i64 a1_1, .int .i64 a1_2] 23 (0, 0)) (zb BK306.out) hb)
    have n8_ := Aside0.mk (blk_below (g := gb320) (o := .cells #[.int .i64 t315, .slice Ao52 t316.length co52] 45 (0, 0)) (zb BK320.out) hb)
    have n9_ := Aside0.mk (blk_below (g := gb325) (o := .cells #[.int .i64 t321, .slice Ao62 t322.length co62] 45 (0, 0)) (zb BK325.out) hb)
    have n10_ := Aside0.mk (blk_below (g := gb334) (o := .cells #[.int .i64 t329, .slice Ao70 t330.length co70] 45 (0, 0)) (zb BK334.out) hb)
    have n11_ := Aside0.mk (below_step (zh HB.out) hb)
    have n12_ := Aside0.mk (hbox)
    have n13_ := Aside0.mk ((by rw [hg]; exact (below_size (zh HB.out)) : w.heap.size ≤ gb359))
    have n14_ := Aside0.mk ((by rw [hg]; exact (below_size (zh HB.out)) : w.heap.size ≤ gb359))
    have n15_ := Aside0.mk ((by rw [hg]; exact Nat.ne_of_lt (blk_lt (g := gb305) (o := .cells #[.int .i64 a0_0, .slice A0_1 l0_1.length c0_1] 40 (0, 0)) (zb BK305.out)) : gb305 ≠ gb359))
    have n16_ := Aside0.mk ((by rw [hg]; exact Nat.ne_of_gt (blk_lt (g := gb305) (o := .cells #[.int .i64 a0_0, .slice A0_1 l0_1.length c0_1] 40 (0, 0)) (zb BK305.out)) : gb359 ≠ gb305))
    have n17_ := Aside0.mk ((by rw [hg]; exact Nat.ne_of_lt (blk_lt (g := gb306) (o := .cells #[.int .i64 a1_0, .int .i64 a1_1, .int .i64 a1_2] 23 (0, 0)) (zb BK306.out)) : gb306 ≠ gb359))
    have n18_ := Aside0.mk ((by rw [hg]; exact Nat.ne_of_gt (blk_lt (g := gb306) (o := .cells #[.int .i64 a1_0, .int .i64 a1_1, .int .i64 a1_2] 23 (0, 0)) (zb BK306.out)) : gb359 ≠ gb306))
    have n19_ := Aside0.mk ((by rw [hg]; exact Nat.ne_of_lt (blk_lt (g := gb320) (o := .cells #[.int .i64 t315, .slice Ao52 t316.length co52] 45 (0, 0)) (zb BK320.out)) : gb320 ≠ gb359))
    have n20_ := Aside0.mk ((by rw [hg]; exact Nat.ne_of_gt (blk_lt (g := gb320) (o := .cells #[.int .i64 t315, .slice Ao52 t316.length co52] 45 (0, 0)) (zb BK320.out)) : gb359 ≠ gb320))
    have n21_ := Aside0.mk ((by rw [hg]; exact Nat.ne_of_lt (blk_lt (g := gb325) (o := .cells #[.int .i64 t321, .slice Ao62 t322.length co62] 45 (0, 0)) (zb BK325.out)) : gb325 ≠ gb359))
    have n22_ := Aside0.mk ((by rw [hg]; exact Nat.ne_of_gt (blk_lt (g := gb325) (o := .cells #[.int .i64 t321, .slice Ao62 t322.length co62] 45 (0, 0)) (zb BK325.out)) : gb359 ≠ gb325))
    have n23_ := Aside0.mk ((by rw [hg]; exact Nat.ne_of_lt (blk_lt (g := gb334) (o := .cells #[.int .i64 t329, .slice Ao70 t330.length co70] 45 (0, 0)) (zb BK334.out)) : gb334 ≠ gb359))
    have n24_ := Aside0.mk ((by rw [hg]; exact Nat.ne_of_gt (blk_lt (g := gb334) (o := .cells #[.int .i64 t329, .slice Ao70 t330.length co70] 45 (0, 0)) (zb BK334.out)) : gb359 ≠ gb334))
    clear HO311
    clear HO318
    clear HO324
    clear HO332
    clear HO339
    clear HO350
    clear BK305
    clear BK306
    clear BK320
    clear BK325
    clear BK334
    clear HB
    have HO311 := n0_
    have HO318 := n1_
    have HO324 := n2_
    have HO332 := n3_
    have HO339 := n4_
    have HO350 := n5_
    have BK305 := n6_
    have BK306 := n7_
    have BK320 := n8_
    have BK325 := n9_
    have BK334 := n10_
    have HB := n11_
    have BK359 := n12_
    have GW359 := n13_
    have GE359 := n14_
    have NB305_359 := n15_
    have NB359_305 := n16_
    have NB306_359 := n17_
    have NB359_306 := n18_
    have NB320_359 := n19_
    have NB359_320 := n20_
    have NB325_359 := n21_
    have NB359_325 := n22_
    have NB334_359 := n23_
    have NB359_334 := n24_
    clear n0_ n1_ n2_ n3_ n4_ n5_ n6_ n7_ n8_ n9_ n10_ n11_ n12_ n13_ n14_ n15_ n16_ n17_ n18_ n19_ n20_ n21_ n22_ n23_ n24_
    clear hb hbox hg
    refine hK.out _ _ ⟨(blk_cell BK305.out 0).trans rfl, (blk_cell BK305.out 1).trans rfl, (blk_cell BK306.out 0).trans rfl, (blk_cell BK306.out 1).trans rfl, (blk_cell BK306.out 2).trans rfl⟩ (fun hHeld => ?_)
    clear hK K
    refine norm_ (a' := ?_) ?_ ?_
    rotate_left
    ·show Act.put _ (some 14) _ = _
     simp only [Act.put, List.setIfInBounds_toArray, List.set_cons_zero, List.set_cons_succ, i64_w, i32_w]
     rfl
    refine one_ (i := 3) (N := some 83) #[true, true, true, true, false, false, false, false, true, false, false] rfl rfl (one_of HT_.out (by kernel_rfl)) (by decide) (fun K hK => ?_)
    refine goes_ Try.func10 (by kernel_rfl) rfl #[.agg #[.int .i64 a1_0, .int .i64 a1_1, .int .i64 a1_2]] (by rfl) rfl rfl (by (try simp only [List.map_toArray, List.map_cons, List.map_nil]); first | done | rfl | (simp only [List.length_drop, List.length_take]; rfl)) ?_
    with_reducible refine (laws_toClue.calls a1_0 a1_1 a1_2 t351 t352 t353 _ A31.out).mono ?_
    rintro e w96 ⟨rfl, hb⟩
    refine ⟨_, rfl, ?_⟩
    have n0_ := Aside0.mk (Kd.R_below (zr HO311.out) hb)
    have n1_ := Aside0.mk (Kd.R_below (zr HO318.out) hb)
    have n2_ := Aside0.mk (Kd.R_below (zr HO324.out) hb)
    have n3_ := Aside0.mk (Kd.R_below (zr HO332.out) hb)
    have n4_ := Aside0.mk (Kd.R_below (zr HO339.out) hb)
    have n5_ := Aside0.mk (Kd.R_below (zr HO350.out) hb)
    have n6_ := Aside0.mk (blk_below (g := gb305) (o := .cells #[.int .i64 a0_0, .slice A0_1 l0_1.length c0_1] 40 (0, 0)) (zb BK305.out) hb)
    have n7_ := Aside0.mk (blk_below (g := gb306) (o := .cells #[.int .i64 a1_0, .int .i64 a1_1, .int .i64 a1_2] 23 (0, 0)) (zb BK306.out) hb)
    have n8_ := Aside0.mk (blk_below (g := gb320) (o := .cells #[.int .i64 t315, .slice Ao52 t316.length co52] 45 (0, 0)) (zb BK320.out) hb)
    have n9_ := Aside0.mk (blk_below (g := gb325) (o := .cells #[.int .i64 t321, .slice Ao62 t322.length co62] 45 (0, 0)) (zb BK325.out) hb)
    have n10_ := Aside0.mk (blk_below (g := gb334) (o := .cells #[.int .i64 t329, .slice Ao70 t330.length co70] 45 (0, 0)) (zb BK334.out) hb)
    have n11_ := Aside0.mk (blk_below (g := gb359) (o := .cells #[.int .i64 0, .slice none 0 0] 45 (0, 0)) (zb BK359.out) hb)
    have n12_ := Aside0.mk (below_step (zh HB.out) hb)
    clear HO311
    clear HO318
    clear HO324
    clear HO332
    clear HO339
    clear HO350
    clear BK305
    clear BK306
    clear BK320
    clear BK325
    clear BK334
    clear BK359
    clear HB
    have HO311 := n0_
    have HO318 := n1_
    have HO324 := n2_
    have HO332 := n3_
    have HO339 := n4_
    have HO350 := n5_
    have BK305 := n6_
    have BK306 := n7_
    have BK320 := n8_
    have BK325 := n9_
    have BK334 := n10_
    have BK359 := n11_
    have HB := n12_
    clear n0_ n1_ n2_ n3_ n4_ n5_ n6_ n7_ n8_ n9_ n10_ n11_ n12_
    (try clear hb)
    (try clear hb2)
    (try clear hk)
    (try clear hi)
    obtain ⟨Ao97, co97, eo97⟩ := Kd.R_slice HO350.out
    (first | subst eo97 | (injection eo97 with f1_ f2_ f3_; have f4_ := f1_.symm; have f5_ := f3_.symm; clear f1_ f2_ f3_; subst f4_; subst f5_))
    refine hK.out _ _ ⟨(blk_cell BK305.out 0).trans rfl, (blk_cell BK305.out 1).trans rfl, (blk_cell BK306.out 0).trans rfl, (blk_cell BK306.out 1).trans rfl, (blk_cell BK306.out 2).trans rfl⟩ (fun hHeld => ?_)
    clear hK K
    refine norm_ (a' := ?_) ?_ ?_
    rotate_left
    ·show Act.put _ (some 83) _ = _
     simp only [Act.put, List.setIfInBounds_toArray, List.set_cons_zero, List.set_cons_succ, i64_w, i32_w]
     rfl
    refine one_ (i := 4) (N := some 84) #[true, true, true, true, true, false, false, false, true, false, false] rfl rfl (one_of HT_.out (by kernel_rfl)) (by decide) (fun K hK => ?_)
    refine goes_ Try.func26 (by kernel_rfl) rfl #[.agg #[.int .i64 t347, .slice Ao97 t348.length co97], .agg #[.int .i64 t351, .int .i64 t352, .int .i64 t353]] (by rfl) rfl rfl (by (try simp only [List.map_toArray, List.map_cons, List.map_nil]); first | done | rfl | (simp only [List.length_drop, List.length_take]; rfl)) ?_
    with_reducible refine (impl_AddClue.calls t347 _ _ t348 t351 t352 t353 t354 t355 t358 _ ?side1 ?side2 A32.out).mono ?_
    (case side1 => repeat (first | exact (Kd.R_reads' HO350.out).2.2 | (with_reducible refine Kd.C_alloc ?_ _) | (with_reducible refine Kd.C_drewN ?_ _) | (with_reducible refine Kd.C_drew ?_)))
    (case side2 => exact (Kd.R_reads' HO350.out).2.1)
    rintro e w98 ⟨v356, rfl, ho0, hb⟩
    refine ⟨_, rfl, ?_⟩
    have n0_ := Aside0.mk (Kd.R_elder' (zr HO311.out) (Kd.R_base ho0) hb)
    have n1_ := Aside0.mk (Kd.R_elder' (zr HO318.out) (Kd.R_base ho0) hb)
    have n2_ := Aside0.mk (Kd.R_elder' (zr HO324.out) (Kd.R_base ho0) hb)
    have n3_ := Aside0.mk (Kd.R_elder' (zr HO332.out) (Kd.R_base ho0) hb)
    have n4_ := Aside0.mk (Kd.R_elder' (zr HO339.out) (Kd.R_base ho0) hb)
    have n5_ := Aside0.mk (Kd.R_elder' (zr HO350.out) (Kd.R_base ho0) hb)
    have n6_ := Aside0.mk (Kd.R_lower (Kd.R_new' (Kd.R_new' (Kd.R_new' (Kd.R_new' (Kd.R_new' (Kd.R_new' ho0 (Kd.R_lt (zr HO311.out))) (Kd.R_lt (zr HO318.out))) (Kd.R_lt (zr HO324.out))) (Kd.R_lt (zr HO332.out))) (Kd.R_lt (zr HO339.out))) (Kd.R_lt (zr HO350.out))) (below_size (zh HB.out)))
    have n7_ := Aside0.mk (blk_below (g := gb305) (o := .cells #[.int .i64 a0_0, .slice A0_1 l0_1.length c0_1] 40 (0, 0)) (zb BK305.out) hb)
    have n8_ := Aside0.mk (blk_below (g := gb306) (o := .cells #[.int .i64 a1_0, .int .i64 a1_1, .int .i64 a1_2] 23 (0, 0)) (zb BK306.out) hb)
    have n9_ := Aside0.mk (blk_below (g := gb320) (o := .cells #[.int .i64 t315, .slice Ao52 t316.length co52] 45 (0, 0)) (zb BK320.out) hb)
    have n10_ := Aside0.mk (blk_below (g := gb325) (o := .cells #[.int .i64 t321, .slice Ao62 t322.length co62] 45 (0, 0)) (zb BK325.out) hb)
    have n11_ := Aside0.mk (blk_below (g := gb334) (o := .cells #[.int .i64 t329, .slice Ao70 t330.length co70] 45 (0, 0)) (zb BK334.out) hb)
    have n12_ := Aside0.mk (blk_below (g := gb359) (o := .cells #[.int .i64 0, .slice none 0 0] 45 (0, 0)) (zb BK359.out) hb)
    have n13_ := Aside0.mk (below_step (zh HB.out) hb)
    clear HO311
    clear HO318
    clear HO324
    clear HO332
    clear HO339
    clear HO350
    clear BK305
    clear BK306
    clear BK320
    clear BK325
    clear BK334
    clear BK359
    clear HB
    have HO311 := n0_
    have HO318 := n1_
    have HO324 := n2_
    have HO332 := n3_
    have HO339 := n4_
    have HO350 := n5_
    have HO357 := n6_
    have BK305 := n7_
    have BK306 := n8_
    have BK320 := n9_
    have BK325 := n10_
    have BK334 := n11_
    have BK359 := n12_
    have HB := n13_
    clear n0_ n1_ n2_ n3_ n4_ n5_ n6_ n7_ n8_ n9_ n10_ n11_ n12_ n13_
    (try clear hb)
    (try clear hb2)
    (try clear hk)
    (try clear hi)
    (try clear ho0)
    refine hK.out _ _ ⟨(blk_cell BK305.out 0).trans rfl, (blk_cell BK305.out 1).trans rfl, (blk_cell BK306.out 0).trans rfl, (blk_cell BK306.out 1).trans rfl, (blk_cell BK306.out 2).trans rfl⟩ (fun hHeld => ?_)
    clear hK K
    refine norm_ (a' := ?_) ?_ ?_
    rotate_left
    ·show Act.put _ (some 84) _ = _
     simp only [Act.put, List.setIfInBounds_toArray, List.set_cons_zero, List.set_cons_succ, i64_w, i32_w]
     rfl
    refine pure_ (i := 5) (N := some 79) (v := ?_) (a' := ?_) #[true, true, true, true, true, true, false, false, true, false, false] rfl rfl (any_of HT_.out (by kernel_rfl)) (fun _ _ _ h => h) (Or.inl ⟨by rfl, ?_⟩) ?_ ?_
    rotate_left
    ·intro w'
     go_simp
     with_reducible rfl
    rotate_left
    ·simp only [Act.put, List.setIfInBounds_toArray, List.set_cons_zero, List.set_cons_succ, i64_w, i32_w]
     rfl
    refine pure_ (i := 6) (N := some 85) (v := ?_) (a' := ?_) #[true, true, true, true, true, true, true, false, true, false, false] rfl rfl (any_of HT_.out (by kernel_rfl)) (fun _ _ _ h => h) (Or.inl ⟨by rfl, ?_⟩) ?_ ?_
    rotate_left
    ·intro w'
     go_simp
     with_reducible rfl
    rotate_left
    ·simp only [Act.put, List.setIfInBounds_toArray, List.set_cons_zero, List.set_cons_succ, i64_w, i32_w]
     rfl
    refine pure_ (i := 7) (N := some 86) (v := ?_) (a' := ?_) #[true, true, true, true, true, true, true, true, true, false, false] rfl rfl (any_of HT_.out (by kernel_rfl)) (fun _ _ _ h => h) (Or.inl ⟨by rfl, ?_⟩) ?_ ?_
    rotate_left
    ·intro w'
     go_simp
     with_reducible rfl
    rotate_left
    ·simp only [Act.put, List.setIfInBounds_toArray, List.set_cons_zero, List.set_cons_succ, i64_w, i32_w]
     rfl
    exact norm_ (by simp only [putAll, Act.put, List.setIfInBounds_toArray, List.set_cons_zero, List.set_cons_succ]) (hCont (.slice Ao97 t348.length co97, v356, gb359) _ ⟨hHeld, (by (with_reducible repeat (first | apply Kd.R_alloc | apply Kd.R_drewN | apply Kd.R_drew)); exact Kd.R_mono HO311.out (fun _ hk => ⟨hk.1.1.1, ⟨hk.1.1.2.1, ⟨hk.1.1.2.2.1, ⟨hk.1.1.2.2.2, ⟨hk.1.2, hk.2⟩⟩⟩⟩⟩)), (by (with_reducible repeat (first | apply Kd.R_alloc | apply Kd.R_drewN | apply Kd.R_drew)); exact Kd.R_mono HO318.out (fun _ hk => ⟨hk.1.1.1, ⟨hk.1.1.2.1, ⟨hk.1.1.2.2.1, ⟨hk.1.1.2.2.2, ⟨hk.1.2, hk.2⟩⟩⟩⟩⟩)), (by (with_reducible repeat (first | apply Kd.R_alloc | apply Kd.R_drewN | apply Kd.R_drew)); exact Kd.R_mono HO324.out (fun _ hk => ⟨hk.1.1.1, ⟨hk.1.1.2.1, ⟨hk.1.1.2.2.1, ⟨hk.1.1.2.2.2, ⟨hk.1.2, hk.2⟩⟩⟩⟩⟩)), (by (with_reducible repeat (first | apply Kd.R_alloc | apply Kd.R_drewN | apply Kd.R_drew)); exact Kd.R_mono HO332.out (fun _ hk => ⟨hk.1.1.1, ⟨hk.1.1.2.1, ⟨hk.1.1.2.2.1, ⟨hk.1.1.2.2.2, ⟨hk.1.2, hk.2⟩⟩⟩⟩⟩)), (by (with_reducible repeat (first | apply Kd.R_alloc | apply Kd.R_drewN | apply Kd.R_drew)); exact Kd.R_mono HO339.out (fun _ hk => ⟨hk.1.1.1, ⟨hk.1.1.2.1, ⟨hk.1.1.2.2.1, ⟨hk.1.1.2.2.2, ⟨hk.1.2, hk.2⟩⟩⟩⟩⟩)), (by (with_reducible repeat (first | apply Kd.R_alloc | apply Kd.R_drewN | apply Kd.R_drew)); exact Kd.R_mono HO350.out (fun _ hk => ⟨hk.1.1.1.1.1.2, ⟨hk.1.1.1.1.2, ⟨hk.1.1.1.2, ⟨hk.1.1.2, ⟨hk.1.2, hk.2⟩⟩⟩⟩⟩)), (by (with_reducible repeat (first | apply Kd.R_alloc | apply Kd.R_drewN | apply Kd.R_drew)); exact Kd.R_mono HO357.out (fun _ hk => ⟨hk.1.1.1.1.1.2, ⟨hk.1.1.1.1.2, ⟨hk.1.1.1.2, ⟨hk.1.1.2, ⟨hk.1.2, hk.2⟩⟩⟩⟩⟩)), (zb BK305.out), (zb BK306.out), (zb BK320.out), (zb BK325.out), (zb BK334.out), (zb BK359.out), GW359.out, GE359.out, NB305_359.out, NB359_305.out, NB306_359.out, NB359_306.out, NB320_359.out, NB359_320.out, NB325_359.out, NB359_325.out, NB334_359.out, NB359_334.out, (zh HB.out)⟩)
  ·skip
   refine box_step ?hg (N := 14) ?hd (cs := #[.int .i64 0, .slice none 0 0]) (t := 45) ?hr ?_; (case hd => rfl); (case hg => rfl); (case hr => first | (go_simp; done) | (go_simp; rfl))
   intro gb359 hg w94 hbox hb
   have n0_ := Aside0.mk (Kd.R_below (zr HO311.out) hb)
   have n1_ := Aside0.mk (Kd.R_below (zr HO318.out) hb)
   have n2_ := Aside0.mk (Kd.R_below (zr HO324.out) hb)
   have n3_ := Aside0.mk (Kd.R_below (zr HO332.out) hb)
   have n4_ := Aside0.mk (Kd.R_below (zr HO339.out) hb)
   have n5_ := Aside0.mk (blk_below (g := gb305) (o := .cells #[.int .i64 a0_0, .slice A0_1 l0_1.length c0_1] 40 (0, 0)) (zb BK305.out) hb)
   have n6_ := Aside0.mk (blk_below (g := gb306) (o := .cells #[.int .i64 a1_0, .int .i64 a1_1, .int .i64 a1_2] 23 (0, 0)) (zb BK306.out) hb)
   have n7_ := Aside0.mk (blk_below (g := gb320) (o := .cells #[.int .i64 t315, .slice Ao52 t316.length co52] 45 (0, 0)) (zb BK320.out) hb)
   have n8_ := Aside0.mk (blk_below (g := gb325) (o := .cells #[.int .i64 t321, .slice Ao62 t322.length co62] 45 (0, 0)) (zb BK325.out) hb)
   have n9_ := Aside0.mk (blk_below (g := gb334) (o := .cells #[.int .i64 t329, .slice Ao70 t330.length co70] 45 (0, 0)) (zb BK334.out) hb)
   have n10_ := Aside0.mk (below_step (zh HB.out) hb)
   have n11_ := Aside0.mk (hbox)
   have n12_ := Aside0.mk ((by rw [hg]; exact (below_size (zh HB.out)) : w.heap.size ≤ gb359))
   have n13_ := Aside0.mk ((by rw [hg]; exact (below_size (zh HB.out)) : w.heap.size ≤ gb359))
   have n14_ := Aside0.mk ((by rw [hg]; exact Nat.ne_of_lt (blk_lt (g := gb305) (o := .cells #[.int .i64 a0_0, .slice A0_1 l0_1.length c0_1] 40 (0, 0)) (zb BK305.out)) : gb305 ≠ gb359))
   have n15_ := Aside0.mk ((by rw [hg]; exact Nat.ne_of_gt (blk_lt (g := gb305) (o := .cells #[.int .i64 a0_0, .slice A0_1 l0_1.length c0_1] 40 (0, 0)) (zb BK305.out)) : gb359 ≠ gb305))
   have n16_ := Aside0.mk ((by rw [hg]; exact Nat.ne_of_lt (blk_lt (g := gb306) (o := .cells #[.int .i64 a1_0, .int .i64 a1_1, .int .i64 a1_2] 23 (0, 0)) (zb BK306.out)) : gb306 ≠ gb359))
   have n17_ := Aside0.mk ((by rw [hg]; exact Nat.ne_of_gt (blk_lt (g := gb306) (o := .cells #[.int .i64 a1_0, .int .i64 a1_1, .int .i64 a1_2] 23 (0, 0)) (zb BK306.out)) : gb359 ≠ gb306))
   have n18_ := Aside0.mk ((by rw [hg]; exact Nat.ne_of_lt (blk_lt (g := gb320) (o := .cells #[.int .i64 t315, .slice Ao52 t316.length co52] 45 (0, 0)) (zb BK320.out)) : gb320 ≠ gb359))
   have n19_ := Aside0.mk ((by rw [hg]; exact Nat.ne_of_gt (blk_lt (g := gb320) (o := .cells #[.int .i64 t315, .slice Ao52 t316.length co52] 45 (0, 0)) (zb BK320.out)) : gb359 ≠ gb320))
   have n20_ := Aside0.mk ((by rw [hg]; exact Nat.ne_of_lt (blk_lt (g := gb325) (o := .cells #[.int .i64 t321, .slice Ao62 t322.length co62] 45 (0, 0)) (zb BK325.out)) : gb325 ≠ gb359))
   have n21_ := Aside0.mk ((by rw [hg]; exact Nat.ne_of_gt (blk_lt (g := gb325) (o := .cells #[.int .i64 t321, .slice Ao62 t322.length co62] 45 (0, 0)) (zb BK325.out)) : gb359 ≠ gb325))
   have n22_ := Aside0.mk ((by rw [hg]; exact Nat.ne_of_lt (blk_lt (g := gb334) (o := .cells #[.int .i64 t329, .slice Ao70 t330.length co70] 45 (0, 0)) (zb BK334.out)) : gb334 ≠ gb359))
   have n23_ := Aside0.mk ((by rw [hg]; exact Nat.ne_of_gt (blk_lt (g := gb334) (o := .cells #[.int .i64 t329, .slice Ao70 t330.length co70] 45 (0, 0)) (zb BK334.out)) : gb359 ≠ gb334))
   clear HO311
   clear HO318
   clear HO324
   clear HO332
   clear HO339
   clear BK305
   clear BK306
   clear BK320
   clear BK325
   clear BK334
   clear HB
   have HO311 := n0_
   have HO318 := n1_
   have HO324 := n2_
   have HO332 := n3_
   have HO339 := n4_
   have BK305 := n5_
   have BK306 := n6_
   have BK320 := n7_
   have BK325 := n8_
   have BK334 := n9_
   have HB := n10_
   have BK359 := n11_
   have GW359 := n12_
   have GE359 := n13_
   have NB305_359 := n14_
   have NB359_305 := n15_
   have NB306_359 := n16_
   have NB359_306 := n17_
   have NB320_359 := n18_
   have NB359_320 := n19_
   have NB325_359 := n20_
   have NB359_325 := n21_
   have NB334_359 := n22_
   have NB359_334 := n23_
   clear n0_ n1_ n2_ n3_ n4_ n5_ n6_ n7_ n8_ n9_ n10_ n11_ n12_ n13_ n14_ n15_ n16_ n17_ n18_ n19_ n20_ n21_ n22_ n23_
   clear hb hbox hg
   refine hK.out _ _ ⟨(blk_cell BK305.out 0).trans rfl, (blk_cell BK305.out 1).trans rfl, (blk_cell BK306.out 0).trans rfl, (blk_cell BK306.out 1).trans rfl, (blk_cell BK306.out 2).trans rfl⟩ (fun hHeld => ?_)
   clear hK K
   refine norm_ (a' := ?_) ?_ ?_
   rotate_left
   ·show Act.put _ (some 14) _ = _
    simp only [Act.put, List.setIfInBounds_toArray, List.set_cons_zero, List.set_cons_succ, i64_w, i32_w]
    rfl
   refine one_ (i := 1) (N := some 81) #[true, true, true, false, false, false, false, false, true, false, false] rfl rfl (one_of HT_.out (by kernel_rfl)) (by decide) (fun K hK => ?_)
   refine goes_ Try.func22 (by kernel_rfl) rfl #[.agg #[.int .i64 a0_0, .slice A0_1 l0_1.length c0_1]] (by rfl) rfl rfl (by (try simp only [List.map_toArray, List.map_cons, List.map_nil]); first | done | rfl | (simp only [List.length_drop, List.length_take]; rfl)) ?_
   with_reducible refine (laws_toPuzzle.calls k a0_0 _ _ l0_1 t347 t348 _ ?side1 ?side2 A30.out).mono ?_
   (case side1 => repeat (first | exact (Kd.C_below HR0_1.out HB.out) | (with_reducible refine Kd.C_alloc ?_ _) | (with_reducible refine Kd.C_drewN ?_ _) | (with_reducible refine Kd.C_drew ?_)))
   (case side2 => exact HC0_1.out)
   rintro e w95 ⟨v349, rfl, ho0, hb⟩
   refine ⟨_, rfl, ?_⟩
   have n0_ := Aside0.mk (Kd.R_elder' (zr HO311.out) (Kd.R_base ho0) hb)
   have n1_ := Aside0.mk (Kd.R_elder' (zr HO318.out) (Kd.R_base ho0) hb)
   have n2_ := Aside0.mk (Kd.R_elder' (zr HO324.out) (Kd.R_base ho0) hb)
   have n3_ := Aside0.mk (Kd.R_elder' (zr HO332.out) (Kd.R_base ho0) hb)
   have n4_ := Aside0.mk (Kd.R_elder' (zr HO339.out) (Kd.R_base ho0) hb)
   have n5_ := Aside0.mk (Kd.R_lower (Kd.R_new' (Kd.R_new' (Kd.R_new' (Kd.R_new' (Kd.R_new' ho0 (Kd.R_lt (zr HO311.out))) (Kd.R_lt (zr HO318.out))) (Kd.R_lt (zr HO324.out))) (Kd.R_lt (zr HO332.out))) (Kd.R_lt (zr HO339.out))) (below_size (zh HB.out)))
   have n6_ := Aside0.mk (blk_below (g := gb305) (o := .cells #[.int .i64 a0_0, .slice A0_1 l0_1.length c0_1] 40 (0, 0)) (zb BK305.out) hb)
   have n7_ := Aside0.mk (blk_below (g := gb306) (o := .cells #[.int .i64 a1_0, .int .i64 a1_1, .int .i64 a1_2] 23 (0, 0)) (zb BK306.out) hb)
   have n8_ := Aside0.mk (blk_below (g := gb320) (o := .cells #[.int .i64 t315, .slice Ao52 t316.length co52] 45 (0, 0)) (zb BK320.out) hb)
   have n9_ := Aside0.mk (blk_below (g := gb325) (o := .cells #[.int .i64 t321, .slice Ao62 t322.length co62] 45 (0, 0)) (zb BK325.out) hb)
   have n10_ := Aside0.mk (blk_below (g := gb334) (o := .cells #[.int .i64 t329, .slice Ao70 t330.length co70] 45 (0, 0)) (zb BK334.out) hb)
   have n11_ := Aside0.mk (blk_below (g := gb359) (o := .cells #[.int .i64 0, .slice none 0 0] 45 (0, 0)) (zb BK359.out) hb)
   have n12_ := Aside0.mk (below_step (zh HB.out) hb)
   clear HO311
   clear HO318
   clear HO324
   clear HO332
   clear HO339
   clear BK305
   clear BK306
   clear BK320
   clear BK325
   clear BK334
   clear BK359
   clear HB
   have HO311 := n0_
   have HO318 := n1_
   have HO324 := n2_
   have HO332 := n3_
   have HO339 := n4_
   have HO350 := n5_
   have BK305 := n6_
   have BK306 := n7_
   have BK320 := n8_
   have BK325 := n9_
   have BK334 := n10_
   have BK359 := n11_
   have HB := n12_
   clear n0_ n1_ n2_ n3_ n4_ n5_ n6_ n7_ n8_ n9_ n10_ n11_ n12_
   (try clear hb)
   (try clear hb2)
   (try clear hk)
   (try clear hi)
   (try clear ho0)
   refine hK.out _ _ ⟨(blk_cell BK305.out 0).trans rfl, (blk_cell BK305.out 1).trans rfl, (blk_cell BK306.out 0).trans rfl, (blk_cell BK306.out 1).trans rfl, (blk_cell BK306.out 2).trans rfl⟩ (fun hHeld => ?_)
   clear hK K
   refine norm_ (a' := ?_) ?_ ?_
   rotate_left
   ·show Act.put _ (some 81) _ = _
    simp only [Act.put, List.setIfInBounds_toArray, List.set_cons_zero, List.set_cons_succ, i64_w, i32_w]
    rfl
   refine one_ (i := 3) (N := some 83) #[true, true, true, true, false, false, false, false, true, false, false] rfl rfl (one_of HT_.out (by kernel_rfl)) (by decide) (fun K hK => ?_)
   refine goes_ Try.func10 (by kernel_rfl) rfl #[.agg #[.int .i64 a1_0, .int .i64 a1_1, .int .i64 a1_2]] (by rfl) rfl rfl (by (try simp only [List.map_toArray, List.map_cons, List.map_nil]); first | done | rfl | (simp only [List.length_drop, List.length_take]; rfl)) ?_
   with_reducible refine (laws_toClue.calls a1_0 a1_1 a1_2 t351 t352 t353 _ A31.out).mono ?_
   rintro e w96 ⟨rfl, hb⟩
   refine ⟨_, rfl, ?_⟩
   have n0_ := Aside0.mk (Kd.R_below (zr HO311.out) hb)
   have n1_ := Aside0.mk (Kd.R_below (zr HO318.out) hb)
   have n2_ := Aside0.mk (Kd.R_below (zr HO324.out) hb)
   have n3_ := Aside0.mk (Kd.R_below (zr HO332.out) hb)
   have n4_ := Aside0.mk (Kd.R_below (zr HO339.out) hb)
   have n5_ := Aside0.mk (Kd.R_below (zr HO350.out) hb)
   have n6_ := Aside0.mk (blk_below (g := gb305) (o := .cells #[.int .i64 a0_0, .slice A0_1 l0_1.length c0_1] 40 (0, 0)) (zb BK305.out) hb)
   have n7_ := Aside0.mk (blk_below (g := gb306) (o := .cells #[.int .i64 a1_0, .int .i64 a1_1, .int .i64 a1_2] 23 (0, 0)) (zb BK306.out) hb)
   have n8_ := Aside0.mk (blk_below (g := gb320) (o := .cells #[.int .i64 t315, .slice Ao52 t316.length co52] 45 (0, 0)) (zb BK320.out) hb)
   have n9_ := Aside0.mk (blk_below (g := gb325) (o := .cells #[.int .i64 t321, .slice Ao62 t322.length co62] 45 (0, 0)) (zb BK325.out) hb)
   have n10_ := Aside0.mk (blk_below (g := gb334) (o := .cells #[.int .i64 t329, .slice Ao70 t330.length co70] 45 (0, 0)) (zb BK334.out) hb)
   have n11_ := Aside0.mk (blk_below (g := gb359) (o := .cells #[.int .i64 0, .slice none 0 0] 45 (0, 0)) (zb BK359.out) hb)
   have n12_ := Aside0.mk (below_step (zh HB.out) hb)
   clear HO311
   clear HO318
   clear HO324
   clear HO332
   clear HO339
   clear HO350
   clear BK305
   clear BK306
   clear BK320
   clear BK325
   clear BK334
   clear BK359
   clear HB
   have HO311 := n0_
   have HO318 := n1_
   have HO324 := n2_
   have HO332 := n3_
   have HO339 := n4_
   have HO350 := n5_
   have BK305 := n6_
   have BK306 := n7_
   have BK320 := n8_
   have BK325 := n9_
   have BK334 := n10_
   have BK359 := n11_
   have HB := n12_
   clear n0_ n1_ n2_ n3_ n4_ n5_ n6_ n7_ n8_ n9_ n10_ n11_ n12_
   (try clear hb)
   (try clear hb2)
   (try clear hk)
   (try clear hi)
   obtain ⟨Ao97, co97, eo97⟩ := Kd.R_slice HO350.out
   (first | subst eo97 | (injection eo97 with f1_ f2_ f3_; have f4_ := f1_.symm; have f5_ := f3_.symm; clear f1_ f2_ f3_; subst f4_; subst f5_))
   refine hK.out _ _ ⟨(blk_cell BK305.out 0).trans rfl, (blk_cell BK305.out 1).trans rfl, (blk_cell BK306.out 0).trans rfl, (blk_cell BK306.out 1).trans rfl, (blk_cell BK306.out 2).trans rfl⟩ (fun hHeld => ?_)
   clear hK K
   refine norm_ (a' := ?_) ?_ ?_
   rotate_left
   ·show Act.put _ (some 83) _ = _
    simp only [Act.put, List.setIfInBounds_toArray, List.set_cons_zero, List.set_cons_succ, i64_w, i32_w]
    rfl
   refine one_ (i := 4) (N := some 84) #[true, true, true, true, true, false, false, false, true, false, false] rfl rfl (one_of HT_.out (by kernel_rfl)) (by decide) (fun K hK => ?_)
   refine goes_ Try.func26 (by kernel_rfl) rfl #[.agg #[.int .i64 t347, .slice Ao97 t348.length co97], .agg #[.int .i64 t351, .int .i64 t352, .int .i64 t353]] (by rfl) rfl rfl (by (try simp only [List.map_toArray, List.map_cons, List.map_nil]); first | done | rfl | (simp only [List.length_drop, List.length_take]; rfl)) ?_
   with_reducible refine (impl_AddClue.calls t347 _ _ t348 t351 t352 t353 t354 t355 t358 _ ?side1 ?side2 A32.out).mono ?_
   (case side1 => repeat (first | exact (Kd.R_reads' HO350.out).2.2 | (with_reducible refine Kd.C_alloc ?_ _) | (with_reducible refine Kd.C_drewN ?_ _) | (with_reducible refine Kd.C_drew ?_)))
   (case side2 => exact (Kd.R_reads' HO350.out).2.1)
   rintro e w98 ⟨v356, rfl, ho0, hb⟩
   refine ⟨_, rfl, ?_⟩
   have n0_ := Aside0.mk (Kd.R_elder' (zr HO311.out) (Kd.R_base ho0) hb)
   have n1_ := Aside0.mk (Kd.R_elder' (zr HO318.out) (Kd.R_base ho0) hb)
   have n2_ := Aside0.mk (Kd.R_elder' (zr HO324.out) (Kd.R_base ho0) hb)
   have n3_ := Aside0.mk (Kd.R_elder' (zr HO332.out) (Kd.R_base ho0) hb)
   have n4_ := Aside0.mk (Kd.R_elder' (zr HO339.out) (Kd.R_base ho0) hb)
   have n5_ := Aside0.mk (Kd.R_elder' (zr HO350.out) (Kd.R_base ho0) hb)
   have n6_ := Aside0.mk (Kd.R_lower (Kd.R_new' (Kd.R_new' (Kd.R_new' (Kd.R_new' (Kd.R_new' (Kd.R_new' ho0 (Kd.R_lt (zr HO311.out))) (Kd.R_lt (zr HO318.out))) (Kd.R_lt (zr HO324.out))) (Kd.R_lt (zr HO332.out))) (Kd.R_lt (zr HO339.out))) (Kd.R_lt (zr HO350.out))) (below_size (zh HB.out)))
   have n7_ := Aside0.mk (blk_below (g := gb305) (o := .cells #[.int .i64 a0_0, .slice A0_1 l0_1.length c0_1] 40 (0, 0)) (zb BK305.out) hb)
   have n8_ := Aside0.mk (blk_below (g := gb306) (o := .cells #[.int .i64 a1_0, .int .i64 a1_1, .int .i64 a1_2] 23 (0, 0)) (zb BK306.out) hb)
   have n9_ := Aside0.mk (blk_below (g := gb320) (o := .cells #[.int .i64 t315, .slice Ao52 t316.length co52] 45 (0, 0)) (zb BK320.out) hb)
   have n10_ := Aside0.mk (blk_below (g := gb325) (o := .cells #[.int .i64 t321, .slice Ao62 t322.length co62] 45 (0, 0)) (zb BK325.out) hb)
   have n11_ := Aside0.mk (blk_below (g := gb334) (o := .cells #[.int .i64 t329, .slice Ao70 t330.length co70] 45 (0, 0)) (zb BK334.out) hb)
   have n12_ := Aside0.mk (blk_below (g := gb359) (o := .cells #[.int .i64 0, .slice none 0 0] 45 (0, 0)) (zb BK359.out) hb)
   have n13_ := Aside0.mk (below_step (zh HB.out) hb)
   clear HO311
   clear HO318
   clear HO324
   clear HO332
   clear HO339
   clear HO350
   clear BK305
   clear BK306
   clear BK320
   clear BK325
   clear BK334
   clear BK359
   clear HB
   have HO311 := n0_
   have HO318 := n1_
   have HO324 := n2_
   have HO332 := n3_
   have HO339 := n4_
   have HO350 := n5_
   have HO357 := n6_
   have BK305 := n7_
   have BK306 := n8_
   have BK320 := n9_
   have BK325 := n10_
   have BK334 := n11_
   have BK359 := n12_
   have HB := n13_
   clear n0_ n1_ n2_ n3_ n4_ n5_ n6_ n7_ n8_ n9_ n10_ n11_ n12_ n13_
   (try clear hb)
   (try clear hb2)
   (try clear hk)
   (try clear hi)
   (try clear ho0)
   refine hK.out _ _ ⟨(blk_cell BK305.out 0).trans rfl, (blk_cell BK305.out 1).trans rfl, (blk_cell BK306.out 0).trans rfl, (blk_cell BK306.out 1).trans rfl, (blk_cell BK306.out 2).trans rfl⟩ (fun hHeld => ?_)
   clear hK K
   refine norm_ (a' := ?_) ?_ ?_
   rotate_left
   ·show Act.put _ (some 84) _ = _
    simp only [Act.put, List.setIfInBounds_toArray, List.set_cons_zero, List.set_cons_succ, i64_w, i32_w]
    rfl
   refine pure_ (i := 5) (N := some 79) (v := ?_) (a' := ?_) #[true, true, true, true, true, true, false, false, true, false, false] rfl rfl (any_of HT_.out (by kernel_rfl)) (fun _ _ _ h => h) (Or.inl ⟨by rfl, ?_⟩) ?_ ?_
   rotate_left
   ·intro w'
    go_simp
    with_reducible rfl
   rotate_left
   ·simp only [Act.put, List.setIfInBounds_toArray, List.set_cons_zero, List.set_cons_succ, i64_w, i32_w]
    rfl
   refine pure_ (i := 6) (N := some 85) (v := ?_) (a' := ?_) #[true, true, true, true, true, true, true, false, true, false, false] rfl rfl (any_of HT_.out (by kernel_rfl)) (fun _ _ _ h => h) (Or.inl ⟨by rfl, ?_⟩) ?_ ?_
   rotate_left
   ·intro w'
    go_simp
    with_reducible rfl
   rotate_left
   ·simp only [Act.put, List.setIfInBounds_toArray, List.set_cons_zero, List.set_cons_succ, i64_w, i32_w]
    rfl
   refine pure_ (i := 7) (N := some 86) (v := ?_) (a' := ?_) #[true, true, true, true, true, true, true, true, true, false, false] rfl rfl (any_of HT_.out (by kernel_rfl)) (fun _ _ _ h => h) (Or.inl ⟨by rfl, ?_⟩) ?_ ?_
   rotate_left
   ·intro w'
    go_simp
    with_reducible rfl
   rotate_left
   ·simp only [Act.put, List.setIfInBounds_toArray, List.set_cons_zero, List.set_cons_succ, i64_w, i32_w]
    rfl
   exact norm_ (by simp only [putAll, Act.put, List.setIfInBounds_toArray, List.set_cons_zero, List.set_cons_succ]) (hCont (.slice Ao97 t348.length co97, v356, gb359) _ ⟨hHeld, (by (with_reducible repeat (first | apply Kd.R_alloc | apply Kd.R_drewN | apply Kd.R_drew)); exact Kd.R_mono HO311.out (fun _ hk => ⟨hk.1.1.1, ⟨hk.1.1.2.1, ⟨hk.1.1.2.2.1, ⟨hk.1.1.2.2.2, ⟨hk.1.2, hk.2⟩⟩⟩⟩⟩)), (by (with_reducible repeat (first | apply Kd.R_alloc | apply Kd.R_drewN | apply Kd.R_drew)); exact Kd.R_mono HO318.out (fun _ hk => ⟨hk.1.1.1, ⟨hk.1.1.2.1, ⟨hk.1.1.2.2.1, ⟨hk.1.1.2.2.2, ⟨hk.1.2, hk.2⟩⟩⟩⟩⟩)), (by (with_reducible repeat (first | apply Kd.R_alloc | apply Kd.R_drewN | apply Kd.R_drew)); exact Kd.R_mono HO324.out (fun _ hk => ⟨hk.1.1.1, ⟨hk.1.1.2.1, ⟨hk.1.1.2.2.1, ⟨hk.1.1.2.2.2, ⟨hk.1.2, hk.2⟩⟩⟩⟩⟩)), (by (with_reducible repeat (first | apply Kd.R_alloc | apply Kd.R_drewN | apply Kd.R_drew)); exact Kd.R_mono HO332.out (fun _ hk => ⟨hk.1.1.1, ⟨hk.1.1.2.1, ⟨hk.1.1.2.2.1, ⟨hk.1.1.2.2.2, ⟨hk.1.2, hk.2⟩⟩⟩⟩⟩)), (by (with_reducible repeat (first | apply Kd.R_alloc | apply Kd.R_drewN | apply Kd.R_drew)); exact Kd.R_mono HO339.out (fun _ hk => ⟨hk.1.1.1, ⟨hk.1.1.2.1, ⟨hk.1.1.2.2.1, ⟨hk.1.1.2.2.2, ⟨hk.1.2, hk.2⟩⟩⟩⟩⟩)), (by (with_reducible repeat (first | apply Kd.R_alloc | apply Kd.R_drewN | apply Kd.R_drew)); exact Kd.R_mono HO350.out (fun _ hk => ⟨hk.1.1.1.1.1.2, ⟨hk.1.1.1.1.2, ⟨hk.1.1.1.2, ⟨hk.1.1.2, ⟨hk.1.2, hk.2⟩⟩⟩⟩⟩)), (by (with_reducible repeat (first | apply Kd.R_alloc | apply Kd.R_drewN | apply Kd.R_drew)); exact Kd.R_mono HO357.out (fun _ hk => ⟨hk.1.1.1.1.1.2, ⟨hk.1.1.1.1.2, ⟨hk.1.1.1.2, ⟨hk.1.1.2, ⟨hk.1.2, hk.2⟩⟩⟩⟩⟩)), (zb BK305.out), (zb BK306.out), (zb BK320.out), (zb BK325.out), (zb BK334.out), (zb BK359.out), GW359.out, GE359.out, NB305_359.out, NB359_305.out, NB306_359.out, NB359_306.out, NB320_359.out, NB359_320.out, NB325_359.out, NB359_325.out, NB334_359.out, NB359_334.out, (zh HB.out)⟩)
 rintro ⟨v349, v356, gb359⟩ w99 ⟨hS_, h0_, h1_, h2_, h3_, h4_, h5_, h6_, h7_, h8_, h9_, h10_, h11_, h12_, h13_, h14_, h15_, h16_, h17_, h18_, h19_, h20_, h21_, h22_, h23_, h24_, h25_⟩
 have n0_ : Aside0 (Kd.R k25 25 w99 w.heap.size (fun k_ => some k_ ≠ (.slice Ao52 t316.length co52 : Value).ownBlock ∧ some k_ ≠ (.slice Ao62 t322.length co62 : Value).ownBlock ∧ some k_ ≠ (.slice Ao70 t330.length co70 : Value).ownBlock ∧ some k_ ≠ (.slice Ao82 t337.length co82 : Value).ownBlock ∧ some k_ ≠ (v349 : Value).ownBlock ∧ some k_ ≠ (v356 : Value).ownBlock) v310 t309) := ⟨h0_⟩
 have n1_ : Aside0 (Kd.R k25 25 w99 w.heap.size (fun k_ => some k_ ≠ (v310 : Value).ownBlock ∧ some k_ ≠ (.slice Ao62 t322.length co62 : Value).ownBlock ∧ some k_ ≠ (.slice Ao70 t330.length co70 : Value).ownBlock ∧ some k_ ≠ (.slice Ao82 t337.length co82 : Value).ownBlock ∧ some k_ ≠ (v349 : Value).ownBlock ∧ some k_ ≠ (v356 : Value).ownBlock) (.slice Ao52 t316.length co52) t316) := ⟨h1_⟩
 have n2_ : Aside0 (Kd.R k25 25 w99 w.heap.size (fun k_ => some k_ ≠ (v310 : Value).ownBlock ∧ some k_ ≠ (.slice Ao52 t316.length co52 : Value).ownBlock ∧ some k_ ≠ (.slice Ao70 t330.length co70 : Value).ownBlock ∧ some k_ ≠ (.slice Ao82 t337.length co82 : Value).ownBlock ∧ some k_ ≠ (v349 : Value).ownBlock ∧ some k_ ≠ (v356 : Value).ownBlock) (.slice Ao62 t322.length co62) t342) := ⟨h2_⟩
 have n3_ : Aside0 (Kd.R k25 25 w99 w.heap.size (fun k_ => some k_ ≠ (v310 : Value).ownBlock ∧ some k_ ≠ (.slice Ao52 t316.length co52 : Value).ownBlock ∧ some k_ ≠ (.slice Ao62 t322.length co62 : Value).ownBlock ∧ some k_ ≠ (.slice Ao82 t337.length co82 : Value).ownBlock ∧ some k_ ≠ (v349 : Value).ownBlock ∧ some k_ ≠ (v356 : Value).ownBlock) (.slice Ao70 t330.length co70) t345) := ⟨h3_⟩
 have n4_ : Aside0 (Kd.R k25 25 w99 w.heap.size (fun k_ => some k_ ≠ (v310 : Value).ownBlock ∧ some k_ ≠ (.slice Ao52 t316.length co52 : Value).ownBlock ∧ some k_ ≠ (.slice Ao62 t322.length co62 : Value).ownBlock ∧ some k_ ≠ (.slice Ao70 t330.length co70 : Value).ownBlock ∧ some k_ ≠ (v349 : Value).ownBlock ∧ some k_ ≠ (v356 : Value).ownBlock) (.slice Ao82 t337.length co82) t337) := ⟨h4_⟩
 have n5_ : Aside0 (Kd.R k25 25 w99 w.heap.size (fun k_ => some k_ ≠ (v310 : Value).ownBlock ∧ some k_ ≠ (.slice Ao52 t316.length co52 : Value).ownBlock ∧ some k_ ≠ (.slice Ao62 t322.length co62 : Value).ownBlock ∧ some k_ ≠ (.slice Ao70 t330.length co70 : Value).ownBlock ∧ some k_ ≠ (.slice Ao82 t337.length co82 : Value).ownBlock ∧ some k_ ≠ (v356 : Value).ownBlock) v349 t348) := ⟨h5_⟩
 have n6_ : Aside0 (Kd.R k25 25 w99 w.heap.size (fun k_ => some k_ ≠ (v310 : Value).ownBlock ∧ some k_ ≠ (.slice Ao52 t316.length co52 : Value).ownBlock ∧ some k_ ≠ (.slice Ao62 t322.length co62 : Value).ownBlock ∧ some k_ ≠ (.slice Ao70 t330.length co70 : Value).ownBlock ∧ some k_ ≠ (.slice Ao82 t337.length co82 : Value).ownBlock ∧ some k_ ≠ (v349 : Value).ownBlock) v356 t355) := ⟨h6_⟩
 have n7_ : Aside0 (w99.heap[gb305]? = some (.cells #[.int .i64 a0_0, .slice A0_1 l0_1.length c0_1] 40 (0, 0))) := ⟨h7_⟩
 have n8_ : Aside0 (w99.heap[gb306]? = some (.cells #[.int .i64 a1_0, .int .i64 a1_1, .int .i64 a1_2] 23 (0, 0))) := ⟨h8_⟩
 have n9_ : Aside0 (w99.heap[gb320]? = some (.cells #[.int .i64 t315, .slice Ao52 t316.length co52] 45 (0, 0))) := ⟨h9_⟩
 have n10_ : Aside0 (w99.heap[gb325]? = some (.cells #[.int .i64 t321, .slice Ao62 t322.length co62] 45 (0, 0))) := ⟨h10_⟩
 have n11_ : Aside0 (w99.heap[gb334]? = some (.cells #[.int .i64 t329, .slice Ao70 t330.length co70] 45 (0, 0))) := ⟨h11_⟩
 have n12_ : Aside0 (w99.heap[gb359]? = some (.cells #[.int .i64 0, .slice none 0 0] 45 (0, 0))) := ⟨h12_⟩
 have n13_ : Aside0 (w.heap.size ≤ gb359) := ⟨h13_⟩
 have n14_ : Aside0 (w.heap.size ≤ gb359) := ⟨h14_⟩
 have n15_ : Aside0 (gb305 ≠ gb359) := ⟨h15_⟩
 have n16_ : Aside0 (gb359 ≠ gb305) := ⟨h16_⟩
 have n17_ : Aside0 (gb306 ≠ gb359) := ⟨h17_⟩
 have n18_ : Aside0 (gb359 ≠ gb306) := ⟨h18_⟩
 have n19_ : Aside0 (gb320 ≠ gb359) := ⟨h19_⟩
 have n20_ : Aside0 (gb359 ≠ gb320) := ⟨h20_⟩
 have n21_ : Aside0 (gb325 ≠ gb359) := ⟨h21_⟩
 have n22_ : Aside0 (gb359 ≠ gb325) := ⟨h22_⟩
 have n23_ : Aside0 (gb334 ≠ gb359) := ⟨h23_⟩
 have n24_ : Aside0 (gb359 ≠ gb334) := ⟨h24_⟩
 have n25_ : Aside0 (Below w.heap.size w w99) := ⟨h25_⟩
 clear HO311
 clear HO318
 clear HO324
 clear HO332
 clear HO339
 clear BK305
 clear BK306
 clear BK320
 clear BK325
 clear BK334
 clear HB
 clear h0_ h1_ h2_ h3_ h4_ h5_ h6_ h7_ h8_ h9_ h10_ h11_ h12_ h13_ h14_ h15_ h16_ h17_ h18_ h19_ h20_ h21_ h22_ h23_ h24_ h25_
 have HO311 := n0_
 have HO318 := n1_
 have HO324 := n2_
 have HO332 := n3_
 have HO339 := n4_
 have HO350 := n5_
 have HO357 := n6_
 have BK305 := n7_
 have BK306 := n8_
 have BK320 := n9_
 have BK325 := n10_
 have BK334 := n11_
 have BK359 := n12_
 have GW359 := n13_
 have GE359 := n14_
 have NB305_359 := n15_
 have NB359_305 := n16_
 have NB306_359 := n17_
 have NB359_306 := n18_
 have NB320_359 := n19_
 have NB359_320 := n20_
 have NB325_359 := n21_
 have NB359_325 := n22_
 have NB334_359 := n23_
 have NB359_334 := n24_
 have HB := n25_
 clear n0_ n1_ n2_ n3_ n4_ n5_ n6_ n7_ n8_ n9_ n10_ n11_ n12_ n13_ n14_ n15_ n16_ n17_ n18_ n19_ n20_ n21_ n22_ n23_ n24_ n25_
 have hHeld : w99.cell? ⟨gb305, 0, none⟩ = some (.int .i64 a0_0) ∧ w99.cell? ⟨gb305, 1, none⟩ = some (.slice A0_1 l0_1.length c0_1) ∧ w99.cell? ⟨gb306, 0, none⟩ = some (.int .i64 a1_0) ∧ w99.cell? ⟨gb306, 1, none⟩ = some (.int .i64 a1_1) ∧ w99.cell? ⟨gb306, 2, none⟩ = some (.int .i64 a1_2) := hS_
 obtain ⟨Ao101, co101, eo101⟩ := Kd.R_slice HO357.out
 (first | subst eo101 | (injection eo101 with f1_ f2_ f3_; have f4_ := f1_.symm; have f5_ := f3_.symm; clear f1_ f2_ f3_; subst f4_; subst f5_))
 refine norm_ (a' := ?_) ?_ ?_
 rotate_left
 ·simp only [putAll, Act.put, List.setIfInBounds_toArray, List.set_cons_zero, List.set_cons_succ]
  rfl
 refine one_ (i := 9) (N := none) #[true, true, true, true, true, true, true, true, true, true, false] rfl rfl (one_of HT_.out (by kernel_rfl)) (by decide) (fun K hK => ?_)
 have hs100 : w99.cell? ⟨gb359, 0, none⟩ = some (.int .i64 0) := (blk_cell BK359.out 0).trans rfl
 have hfs100 := blk_frozen BK359.out 0
 have hns100_0 := NB305_359.out
 have hns100_1 := NB306_359.out
 have hns100_2 := NB320_359.out
 have hns100_3 := NB325_359.out
 have hns100_4 := NB334_359.out
 have hms100_0 := NB359_305.out
 have hms100_1 := NB359_306.out
 have hms100_2 := NB359_320.out
 have hms100_3 := NB359_325.out
 have hms100_4 := NB359_334.out
 have hs102 : w99.cell? ⟨gb359, 1, none⟩ = some (.slice none 0 0) := (blk_cell BK359.out 1).trans rfl
 have hfs102 := blk_frozen BK359.out 1
 have hns102_0 := NB305_359.out
 have hns102_1 := NB306_359.out
 have hns102_2 := NB320_359.out
 have hns102_3 := NB325_359.out
 have hns102_4 := NB334_359.out
 have hms102_0 := NB359_305.out
 have hms102_1 := NB359_306.out
 have hms102_2 := NB359_320.out
 have hms102_3 := NB359_325.out
 have hms102_4 := NB359_334.out
 refine skip_ (w1 := ?_) (by rfl) rfl ?_ ?_
 rotate_left
 ·go_simp
  rfl
 refine hK.out _ _ ⟨((cell_far (p := ⟨gb359, _, none⟩) NB305_359.out _).trans (((cell_far (p := ⟨gb359, _, none⟩) NB305_359.out _).trans (hHeld.1)))), ((cell_far (p := ⟨gb359, _, none⟩) NB305_359.out _).trans (((cell_far (p := ⟨gb359, _, none⟩) NB305_359.out _).trans (hHeld.2.1)))), ((cell_far (p := ⟨gb359, _, none⟩) NB306_359.out _).trans (((cell_far (p := ⟨gb359, _, none⟩) NB306_359.out _).trans (hHeld.2.2.1)))), ((cell_far (p := ⟨gb359, _, none⟩) NB306_359.out _).trans (((cell_far (p := ⟨gb359, _, none⟩) NB306_359.out _).trans (hHeld.2.2.2.1)))), ((cell_far (p := ⟨gb359, _, none⟩) NB306_359.out _).trans (((cell_far (p := ⟨gb359, _, none⟩) NB306_359.out _).trans (hHeld.2.2.2.2))))⟩ (fun hHeld => ?_)
 clear hK K
 refine pure_ (i := 10) (N := some 15) (v := ?_) (a' := ?_) #[true, true, true, true, true, true, true, true, true, true, true] rfl rfl (any_of HT_.out (by kernel_rfl)) (fun _ _ _ h => h) (Or.inl ⟨by rfl, ?_⟩) ?_ ?_
 rotate_left
 ·intro w'
  go_simp
  with_reducible rfl
 rotate_left
 ·simp only [Act.put, List.setIfInBounds_toArray, List.set_cons_zero, List.set_cons_succ, i64_w, i32_w]
  rfl
 refine done_ (done_of HT_.out (by kernel_rfl)) ?_
 have hnb103 := NB359_305.out
 have hnc103 := NB305_359.out
 have hnb104 := NB359_306.out
 have hnc104 := NB306_359.out
 have hnb105 := NB359_320.out
 have hnc105 := NB320_359.out
 have hnb106 := NB359_325.out
 have hnc106 := NB325_359.out
 have hnb107 := NB359_334.out
 have hnc107 := NB334_359.out
 have hcz108_0 : w99.cell? ⟨gb359, 0, none⟩ = some (.int .i64 0) := (blk_cell BK359.out 0).trans rfl
 have hcz108_1 : w99.cell? ⟨gb359, 1, none⟩ = some (.slice none 0 0) := (blk_cell BK359.out 1).trans rfl
 have hfz108_0 := blk_frozen BK359.out 0
 have hfz108_1 := blk_frozen BK359.out 1
 have hcz109_0 : w99.cell? ⟨gb320, 0, none⟩ = some (.int .i64 t315) := (blk_cell BK320.out 0).trans rfl
 have hcz109_1 : w99.cell? ⟨gb320, 1, none⟩ = some (.slice Ao52 t316.length co52) := (blk_cell BK320.out 1).trans rfl
 have hfz109_0 := blk_frozen BK320.out 0
 have hfz109_1 := blk_frozen BK320.out 1
 try go_wp2_with (first | ((with_reducible refine gate_callee (f := 24) rfl ?_); refine goesL_ (some 89) rfl rfl Try.func24 (by kernel_rfl) rfl #[.agg #[.int .i64 t354, .slice Ao101 t355.length co101], .agg #[.int .i64 t315, .slice Ao52 t316.length co52]] rfl (by (try simp only [List.map_toArray, List.map_cons, List.map_nil]); first | done | rfl | (simp only [List.length_drop, List.length_take]; rfl)) ?_; (with_reducible refine (laws_eqPuzzle.calls k t354 _ _ t355 t315 _ _ t316 true _ ?side1 ?side2 ?side3 ?side4 A33.out).mono ?_); (case side1 => refine (Kd.R_reads' (e := 25) (base := w.heap.size) (ok := fun k_ => (some k_ ≠ (v310 : Value).ownBlock ∧ (some k_ ≠ (.slice Ao52 t316.length co52 : Value).ownBlock ∧ (some k_ ≠ (.slice Ao62 t322.length co62 : Value).ownBlock ∧ (some k_ ≠ (.slice Ao70 t330.length co70 : Value).ownBlock ∧ (some k_ ≠ (.slice Ao82 t337.length co82 : Value).ownBlock ∧ some k_ ≠ (v349 : Value).ownBlock)))))) (n := t355.length) (c := co101) ?_).2.2; exact (by (with_reducible repeat (first | apply Kd.R_alloc | apply Kd.R_drewN | apply Kd.R_drew)); exact (Kd.R_mono (Kd.R_far (p := ⟨gb359, 1, none⟩) (Kd.R_far (p := ⟨gb359, 0, none⟩) (Kd.R_types HO357.out BK359.out (by decide)) (fun _ hk => hk.2) (.int .i64 t354)) (fun _ hk => hk.2) (.slice Ao101 t355.length co101)) (fun _ h_ => h_.1)))); (case side2 => exact (Kd.R_reads' HO357.out).2.1); (case side3 => refine (Kd.R_reads' (e := 25) (base := w.heap.size) (ok := fun k_ => (some k_ ≠ (v310 : Value).ownBlock ∧ (some k_ ≠ (.slice Ao62 t322.length co62 : Value).ownBlock ∧ (some k_ ≠ (.slice Ao70 t330.length co70 : Value).ownBlock ∧ (some k_ ≠ (.slice Ao82 t337.length co82 : Value).ownBlock ∧ (some k_ ≠ (v349 : Value).ownBlock ∧ some k_ ≠ (.slice Ao101 t355.length co101 : Value).ownBlock)))))) (n := t316.length) (c := co52) ?_).2.2; exact (by (with_reducible repeat (first | apply Kd.R_alloc | apply Kd.R_drewN | apply Kd.R_drew)); exact (Kd.R_mono (Kd.R_far (p := ⟨gb359, 1, none⟩) (Kd.R_far (p := ⟨gb359, 0, none⟩) (Kd.R_types HO318.out BK359.out (by decide)) (fun _ hk => hk.2) (.int .i64 t354)) (fun _ hk => hk.2) (.slice Ao101 t355.length co101)) (fun _ h_ => h_.1)))); (case side4 => exact (Kd.R_reads' HO318.out).2.1); rintro e w110 ⟨rfl, hb⟩; refine ⟨_, rfl, ?_⟩; have n0_ := Aside0.mk (Kd.R_below (by (with_reducible repeat (first | apply Kd.R_alloc | apply Kd.R_drewN | apply Kd.R_drew)); exact (Kd.R_mono (Kd.R_far (p := ⟨gb359, 1, none⟩) (Kd.R_far (p := ⟨gb359, 0, none⟩) (Kd.R_types HO311.out BK359.out (by decide)) (fun _ hk => hk.2) (.int .i64 t354)) (fun _ hk => hk.2) (.slice Ao101 t355.length co101)) (fun _ h_ => h_.1))) hb); have n1_ := Aside0.mk (Kd.R_below (by (with_reducible repeat (first | apply Kd.R_alloc | apply Kd.R_drewN | apply Kd.R_drew)); exact (Kd.R_mono (Kd.R_far (p := ⟨gb359, 1, none⟩) (Kd.R_far (p := ⟨gb359, 0, none⟩) (Kd.R_types HO318.out BK359.out (by decide)) (fun _ hk => hk.2) (.int .i64 t354)) (fun _ hk => hk.2) (.slice Ao101 t355.length co101)) (fun _ h_ => h_.1))) hb); have n2_ := Aside0.mk (Kd.R_below (by (with_reducible repeat (first | apply Kd.R_alloc | apply Kd.R_drewN | apply Kd.R_drew)); exact (Kd.R_mono (Kd.R_far (p := ⟨gb359, 1, none⟩) (Kd.R_far (p := ⟨gb359, 0, none⟩) (Kd.R_types HO324.out BK359.out (by decide)) (fun _ hk => hk.2) (.int .i64 t354)) (fun _ hk => hk.2) (.slice Ao101 t355.length co101)) (fun _ h_ => h_.1))) hb); have n3_ := Aside0.mk (Kd.R_below (by (with_reducible repeat (first | apply Kd.R_alloc | apply Kd.R_drewN | apply Kd.R_drew)); exact (Kd.R_mono (Kd.R_far (p := ⟨gb359, 1, none⟩) (Kd.R_far (p := ⟨gb359, 0, none⟩) (Kd.R_types HO332.out BK359.out (by decide)) (fun _ hk => hk.2) (.int .i64 t354)) (fun _ hk => hk.2) (.slice Ao101 t355.length co101)) (fun _ h_ => h_.1))) hb); have n4_ := Aside0.mk (Kd.R_below (by (with_reducible repeat (first | apply Kd.R_alloc | apply Kd.R_drewN | apply Kd.R_drew)); exact (Kd.R_mono (Kd.R_far (p := ⟨gb359, 1, none⟩) (Kd.R_far (p := ⟨gb359, 0, none⟩) (Kd.R_types HO339.out BK359.out (by decide)) (fun _ hk => hk.2) (.int .i64 t354)) (fun _ hk => hk.2) (.slice Ao101 t355.length co101)) (fun _ h_ => h_.1))) hb); have n5_ := Aside0.mk (Kd.R_below (by (with_reducible repeat (first | apply Kd.R_alloc | apply Kd.R_drewN | apply Kd.R_drew)); exact (Kd.R_mono (Kd.R_far (p := ⟨gb359, 1, none⟩) (Kd.R_far (p := ⟨gb359, 0, none⟩) (Kd.R_types HO350.out BK359.out (by decide)) (fun _ hk => hk.2) (.int .i64 t354)) (fun _ hk => hk.2) (.slice Ao101 t355.length co101)) (fun _ h_ => h_.1))) hb); have n6_ := Aside0.mk (Kd.R_below (by (with_reducible repeat (first | apply Kd.R_alloc | apply Kd.R_drewN | apply Kd.R_drew)); exact (Kd.R_mono (Kd.R_far (p := ⟨gb359, 1, none⟩) (Kd.R_far (p := ⟨gb359, 0, none⟩) (Kd.R_types HO357.out BK359.out (by decide)) (fun _ hk => hk.2) (.int .i64 t354)) (fun _ hk => hk.2) (.slice Ao101 t355.length co101)) (fun _ h_ => h_.1))) hb); have n7_ := Aside0.mk (blk_below (g := gb305) (o := .cells #[.int .i64 a0_0, .slice A0_1 l0_1.length c0_1] 40 (0, 0)) (by (with_reducible repeat (first | refine blk_drewN ?_ _ | refine blk_drew ?_ | refine blk_alloc ?_ _)); refine blk_far ?_ NB305_359.out _; (with_reducible repeat (first | refine blk_drewN ?_ _ | refine blk_drew ?_ | refine blk_alloc ?_ _)); refine blk_far ?_ NB305_359.out _; (with_reducible repeat (first | refine blk_drewN ?_ _ | refine blk_drew ?_ | refine blk_alloc ?_ _)); exact BK305.out) hb); have n8_ := Aside0.mk (blk_below (g := gb306) (o := .cells #[.int .i64 a1_0, .int .i64 a1_1, .int .i64 a1_2] 23 (0, 0)) (by (with_reducible repeat (first | refine blk_drewN ?_ _ | refine blk_drew ?_ | refine blk_alloc ?_ _)); refine blk_far ?_ NB306_359.out _; (with_reducible repeat (first | refine blk_drewN ?_ _ | refine blk_drew ?_ | refine blk_alloc ?_ _)); refine blk_far ?_ NB306_359.out _; (with_reducible repeat (first | refine blk_drewN ?_ _ | refine blk_drew ?_ | refine blk_alloc ?_ _)); exact BK306.out) hb); have n9_ := Aside0.mk (blk_below (g := gb320) (o := .cells #[.int .i64 t315, .slice Ao52 t316.length co52] 45 (0, 0)) (by (with_reducible repeat (first | refine blk_drewN ?_ _ | refine blk_drew ?_ | refine blk_alloc ?_ _)); refine blk_far ?_ NB320_359.out _; (with_reducible repeat (first | refine blk_drewN ?_ _ | refine blk_drew ?_ | refine blk_alloc ?_ _)); refine blk_far ?_ NB320_359.out _; (with_reducible repeat (first | refine blk_drewN ?_ _ | refine blk_drew ?_ | refine blk_alloc ?_ _)); exact BK320.out) hb); have n10_ := Aside0.mk (blk_below (g := gb325) (o := .cells #[.int .i64 t321, .slice Ao62 t322.length co62] 45 (0, 0)) (by (with_reducible repeat (first | refine blk_drewN ?_ _ | refine blk_drew ?_ | refine blk_alloc ?_ _)); refine blk_far ?_ NB325_359.out _; (with_reducible repeat (first | refine blk_drewN ?_ _ | refine blk_drew ?_ | refine blk_alloc ?_ _)); refine blk_far ?_ NB325_359.out _; (with_reducible repeat (first | refine blk_drewN ?_ _ | refine blk_drew ?_ | refine blk_alloc ?_ _)); exact BK325.out) hb); have n11_ := Aside0.mk (blk_below (g := gb334) (o := .cells #[.int .i64 t329, .slice Ao70 t330.length co70] 45 (0, 0)) (by (with_reducible repeat (first | refine blk_drewN ?_ _ | refine blk_drew ?_ | refine blk_alloc ?_ _)); refine blk_far ?_ NB334_359.out _; (with_reducible repeat (first | refine blk_drewN ?_ _ | refine blk_drew ?_ | refine blk_alloc ?_ _)); refine blk_far ?_ NB334_359.out _; (with_reducible repeat (first | refine blk_drewN ?_ _ | refine blk_drew ?_ | refine blk_alloc ?_ _)); exact BK334.out) hb); have n12_ := Aside0.mk (blk_below (g := gb359) (o := .cells #[.int .i64 t354, .slice Ao101 t355.length co101] 45 (0, 0)) (by (with_reducible repeat (first | refine blk_drewN ?_ _ | refine blk_drew ?_ | refine blk_alloc ?_ _)); refine blk_put (cs := #[.int .i64 t354, .slice none 0 0]) ?_ 1 _ rfl; (with_reducible repeat (first | refine blk_drewN ?_ _ | refine blk_drew ?_ | refine blk_alloc ?_ _)); refine blk_put (cs := #[.int .i64 0, .slice none 0 0]) ?_ 0 _ rfl; (with_reducible repeat (first | refine blk_drewN ?_ _ | refine blk_drew ?_ | refine blk_alloc ?_ _)); exact BK359.out) hb); have n13_ := Aside0.mk (below_step (zh HB.out) hb); clear HO311; clear HO318; clear HO324; clear HO332; clear HO339; clear HO350; clear HO357; clear BK305; clear BK306; clear BK320; clear BK325; clear BK334; clear BK359; clear HB; have HO311 := n0_; have HO318 := n1_; have HO324 := n2_; have HO332 := n3_; have HO339 := n4_; have HO350 := n5_; have HO357 := n6_; have BK305 := n7_; have BK306 := n8_; have BK320 := n9_; have BK325 := n10_; have BK334 := n11_; have BK359 := n12_; have HB := n13_; clear n0_ n1_ n2_ n3_ n4_ n5_ n6_ n7_ n8_ n9_ n10_ n11_ n12_ n13_; (try clear hb); (try clear hb2); (try clear hk); (try clear hi); have hcz111_0 : w110.cell? ⟨gb334, 0, none⟩ = some (.int .i64 t329) := (blk_cell BK334.out 0).trans rfl; have hcz111_1 : w110.cell? ⟨gb334, 1, none⟩ = some (.slice Ao70 t330.length co70) := (blk_cell BK334.out 1).trans rfl; have hfz111_0 := blk_frozen BK334.out 0; have hfz111_1 := blk_frozen BK334.out 1) | ((with_reducible refine gate_callee (f := 28) rfl ?_); refine goesL_ (some 98) rfl rfl Try.func28 (by kernel_rfl) rfl #[.agg #[.int .i64 t329, .slice Ao70 t345.length co70], .int .i64 1] rfl (by (try simp only [List.map_toArray, List.map_cons, List.map_nil]); first | done | (rw [show t345.length = t330.length from (Kd.R_reads' HO332.out).1.symm] <;> rfl) | rfl | (simp only [List.length_drop, List.length_take]; rfl)) ?_; (with_reducible refine (laws_heldPuzzle.calls k t329 _ _ t345 1 t361 _ ?side1 ?side2 A36.out).mono ?_); (case side1 => repeat (first | exact (Kd.R_reads' HO332.out).2.2 | (with_reducible refine Kd.C_alloc ?_ _) | (with_reducible refine Kd.C_drewN ?_ _) | (with_reducible refine Kd.C_drew ?_))); (case side2 => rw [show t345.length = t330.length from (Kd.R_reads' HO332.out).1.symm]; exact (Kd.R_reads' HO332.out).2.1); rintro e w112 ⟨rfl, hb⟩; refine ⟨_, rfl, ?_⟩; have n0_ := Aside0.mk (Kd.R_below (zr HO311.out) hb); have n1_ := Aside0.mk (Kd.R_below (zr HO318.out) hb); have n2_ := Aside0.mk (Kd.R_below (zr HO324.out) hb); have n3_ := Aside0.mk (Kd.R_below (zr HO332.out) hb); have n4_ := Aside0.mk (Kd.R_below (zr HO339.out) hb); have n5_ := Aside0.mk (Kd.R_below (zr HO350.out) hb); have n6_ := Aside0.mk (Kd.R_below (zr HO357.out) hb); have n7_ := Aside0.mk (blk_below (g := gb305) (o := .cells #[.int .i64 a0_0, .slice A0_1 l0_1.length c0_1] 40 (0, 0)) (zb BK305.out) hb); have n8_ := Aside0.mk (blk_below (g := gb306) (o := .cells #[.int .i64 a1_0, .int .i64 a1_1, .int .i64 a1_2] 23 (0, 0)) (zb BK306.out) hb); have n9_ := Aside0.mk (blk_below (g := gb320) (o := .cells #[.int .i64 t315, .slice Ao52 t316.length co52] 45 (0, 0)) (zb BK320.out) hb); have n10_ := Aside0.mk (blk_below (g := gb325) (o := .cells #[.int .i64 t321, .slice Ao62 t322.length co62] 45 (0, 0)) (zb BK325.out) hb); have n11_ := Aside0.mk (blk_below (g := gb334) (o := .cells #[.int .i64 t329, .slice Ao70 t330.length co70] 45 (0, 0)) (zb BK334.out) hb); have n12_ := Aside0.mk (blk_below (g := gb359) (o := .cells #[.int .i64 t354, .slice Ao101 t355.length co101] 45 (0, 0)) (zb BK359.out) hb); have n13_ := Aside0.mk (below_step (zh HB.out) hb); clear HO311; clear HO318; clear HO324; clear HO332; clear HO339; clear HO350; clear HO357; clear BK305; clear BK306; clear BK320; clear BK325; clear BK334; clear BK359; clear HB; have HO311 := n0_; have HO318 := n1_; have HO324 := n2_; have HO332 := n3_; have HO339 := n4_; have HO350 := n5_; have HO357 := n6_; have BK305 := n7_; have BK306 := n8_; have BK320 := n9_; have BK325 := n10_; have BK334 := n11_; have BK359 := n12_; have HB := n13_; clear n0_ n1_ n2_ n3_ n4_ n5_ n6_ n7_ n8_ n9_ n10_ n11_ n12_ n13_; (try clear hb); (try clear hb2); (try clear hk); (try clear hi)))
 go_ret
 exact ⟨by first | rfl | (simp [errW_none, errW_some] <;> rfl) | (simp [*, errW_none, errW_some] <;> rfl), by repeat (first | (with_reducible first | exact HB.out | apply below_alloc | apply pw_below_drewN | apply below_drew1 | refine below_set ?_ GE305.out | refine below_set ?_ GE306.out | refine below_set ?_ GE320.out | refine below_set ?_ GE325.out | refine below_set ?_ GE334.out | refine below_set ?_ GE359.out) | exact HB.out)⟩
end Go.Proofs.Ytgbdliccdbccbaa.Q
end
section
namespace Go.Proofs.Ytgbdliccdbccbaa.Q
open Go.RowKit Go.Proofs.YtgbdliccdbccbaaW.PrintWords Go.Proofs.YtgbdliccdbccbaaW.PrintLast Go.Proofs.YtgbdliccdbccbaaW.PrintMore
set_option linter.unusedVariables false
set_option linter.unusedSimpArgs false
open Go.ChangeShapes Go.WideShapes Go.ChangeAt Go.Deep
section
variable {H : Type} {enc : TypeId × Value → H} {P : Program} {W : World} {α β γ : Type}
def Opens (enc : TypeId × Value → H) (P : Program) (W : World) (t : TypeId) (d : Kd α) (G : α → Prop) : Prop :=
  ∀ (fuel : Nat) (cs : List Value) (y : DataW H × List MemPlace), DataW.trod enc P W 0 (fun _ => true) true fuel t cs = some y → ∃ x, d.K W x cs ∧ G x
def I64 (x : Int) : Prop := -9223372036854775808 ≤ x ∧ x ≤ 9223372036854775807
theorem opens_int {t : TypeId} (ht : P.underlying t = some (.int .i64)) : Opens enc P W t (Kd.int .i64) I64 := by
  intro fuel cs y h
  obtain ⟨n, rfl, _, hw⟩ := DataW.trod_int ht h
  exact ⟨n, rfl, Go.bounds_i64 hw⟩
theorem opens_slice [Inhabited α] {t e : TypeId} {d : Kd α} {G : α → Prop} (ht : P.underlying t = some (.slice e)) (he : P.cellsOf e = d.sz) (h : Opens enc P W e d G) :
    Opens enc P W t (Kd.slice e d) (fun xs => ∀ x ∈ xs, G x) := by
  intro fuel cs y hr
  rcases Deep.open_slice ht hr with ⟨rfl, _⟩ | ⟨a, len, cap, m, n, D, Pl, rfl, _, hlc, hcm, hm, _, hel⟩
  · exact ⟨[], ⟨none, 0, rfl, Nat.le_refl _, rfl, by simp, fun hp => absurd hp (by simp)⟩, fun x hx => by cases hx⟩
  · have hm' : len ≤ m := by rw [hm]; simp; omega
    have key : ∀ i, i < len → ∃ x, (∃ cs', d.K W x cs' ∧ ∀ j u, cs'[j]? = some u → W.cell? (a.add (i * d.sz + j)) = some u) ∧ G x := by
      intro i hi
      obtain ⟨cs', h1, h2⟩ := hel i (by omega)
      obtain ⟨x, hx, hG⟩ := h _ _ _ h2
      obtain ⟨_, hl, hc⟩ := World.cells?_some h1
      refine ⟨x, ⟨cs', hx, fun j u hu => ?_⟩, hG⟩
      have hj : j < P.cellsOf e := by rw [← hl]; exact (List.getElem?_eq_some_iff.1 hu).1
      have h3 := hc j hj
      rw [Deep.add_add, he] at h3
      rw [h3, hu]
    obtain ⟨f, hf⟩ := Deep.choose_lt key
    have hlen : ((List.range len).map f).length = len := by simp
    refine ⟨(List.range len).map f, ⟨some a, cap, by rw [hlen], by rw [hlen]; exact hlc, rfl, ?_, fun _ => ⟨a, rfl, fun j p hj => ?_⟩⟩, fun x hx => ?_⟩
    · rw [hlen]; unfold maxLen at hcm; omega
    · obtain ⟨hj1, hj2⟩ := List.getElem?_eq_some_iff.1 hj
      have hjl : j < len := by rw [hlen] at hj1; exact hj1
      have : p = f j := by rw [← hj2]; simp
      subst this
      obtain ⟨⟨cs', hK, hc⟩, _⟩ := hf j hjl
      exact ⟨cs', d.K_len hK, hK, hc⟩
    · obtain ⟨i, hi, rfl⟩ := List.mem_map.1 hx
      exact (hf i (List.mem_range.1 hi)).2
theorem opens_pair {t : TypeId} {f0 f1 : Field} {d0 : Kd α} {d1 : Kd β} {G0 : α → Prop} {G1 : β → Prop} (ht : P.underlying t = some (.struct #[f0, f1])) (hC : P.cellsOf t = d0.sz + d1.sz)
    (o0 : f0.offset = 0) (o1 : f1.offset = d0.sz) (c0 : P.cellsOf f0.type = d0.sz) (c1 : P.cellsOf f1.type = d1.sz) (h0 : Opens enc P W f0.type d0 G0) (h1 : Opens enc P W f1.type d1 G1) :
    Opens enc P W t (Kd.pair d0 d1) (fun x => G0 x.1 ∧ G1 x.2) := by
  intro fuel cs y hr
  obtain ⟨y0, y1, n, _, hl, r0, r1⟩ := trod_struct2 ht hr
  rw [o0, c0] at r0
  rw [o1, c1] at r1
  obtain ⟨x0, k0, g0⟩ := h0 _ _ _ r0
  obtain ⟨x1, k1, g1⟩ := h1 _ _ _ r1
  refine ⟨(x0, x1), ⟨_, _, ?_, k0, k1⟩, g0, g1⟩
  rw [List.drop_zero, List.take_of_length_le (l := cs.drop d0.sz) (by rw [List.length_drop, hl, hC]; omega), List.take_append_drop]
theorem opens_triple {t : TypeId} {f0 f1 f2 : Field} {d0 : Kd α} {d1 : Kd β} {d2 : Kd γ} {G0 : α → Prop} {G1 : β → Prop} {G2 : γ → Prop} (ht : P.underlying t = some (.struct #[f0, f1, f2])) (hC : P.cellsOf t = d0.sz + (d1.sz + d2.sz))
    (o0 : f0.offset = 0) (o1 : f1.offset = d0.sz) (o2 : f2.offset = d0.sz + d1.sz) (c0 : P.cellsOf f0.type = d0.sz) (c1 : P.cellsOf f1.type = d1.sz) (c2 : P.cellsOf f2.type = d2.sz)
    (h0 : Opens enc P W f0.type d0 G0) (h1 : Opens enc P W f1.type d1 G1) (h2 : Opens enc P W f2.type d2 G2) :
    Opens enc P W t (Kd.pair d0 (Kd.pair d1 d2)) (fun x => G0 x.1 ∧ G1 x.2.1 ∧ G2 x.2.2) := by
  intro fuel cs y hr
  obtain ⟨y0, y1, y2, n, _, hl, r0, r1, r2⟩ := trod_struct3 ht hr
  rw [o0, c0] at r0
  rw [o1, c1] at r1
  rw [o2, c2] at r2
  obtain ⟨x0, k0, g0⟩ := h0 _ _ _ r0
  obtain ⟨x1, k1, g1⟩ := h1 _ _ _ r1
  obtain ⟨x2, k2, g2⟩ := h2 _ _ _ r2
  refine ⟨(x0, x1, x2), ⟨_, _, ?_, k0, _, _, rfl, k1, k2⟩, g0, g1, g2⟩
  rw [List.drop_zero, List.take_of_length_le (l := cs.drop (d0.sz + d1.sz)) (by rw [List.length_drop, hl, hC]; omega), ← List.drop_drop, List.take_append_drop, List.take_append_drop]
theorem opens_iso {t : TypeId} {d : Kd α} {G : α → Prop} (f : β → α) (g : α → β) (hfg : ∀ x, f (g x) = x) (h : Opens enc P W t d G) : Opens enc P W t (Kd.iso d f) (fun y => G (f y)) := by
  intro fuel cs y hr
  obtain ⟨x, k, gx⟩ := h _ _ _ hr
  exact ⟨g x, by show d.K W (f (g x)) cs; rw [hfg]; exact k, by show G (f (g x)); rw [hfg]; exact gx⟩
theorem open_struct {r : Reach} {b0 : Nat} {t : TypeId} {fs : Array Field} {d : Kd α} {G : α → Prop} {v : Value} {y : DataW H} {p : List MemPlace} (ht : P.underlying t = some (.struct fs)) (hv : Value.okWide P W r b0 t v)
    (hr : DataW.Trod enc P W 0 (fun _ => true) true t v y p) (h : Opens enc P W t d G) : ∃ x cs, v = .agg cs ∧ d.K W x cs.toList ∧ G x := by
  obtain ⟨cs, rfl, _⟩ := okWide_struct ht hv
  obtain ⟨fuel, hf⟩ := hr
  obtain ⟨x, k, g⟩ := h _ _ _ hf
  exact ⟨x, cs, rfl, k, g⟩
end
end Go.Proofs.Ytgbdliccdbccbaa.Q
end

/- The row of the law FnExactChambersNeeded: for every input it returns true, and its arguments read afterwards as before. No condition: FnExactChambersNeeded_pure says that its pure form answers true at every input, and laws_FnExactChambersNeeded.calls that the machine comes to just that. -/
import Derived.Test.YtmbkmabpebjboaaGreatKFnExactChambersNeeded5
import Derived.Test.YtmbkmabpebjboaaGreatRows
import Derived.Laws.StructEq
import Derived.ProofKit
import Derived.OpenShut
import Derived.ShutString
import Derived.ChangeOld
import Derived.SizedLaws
import Derived.Deep.Slices
import Derived.Deep.Strs
import Derived.Lib.LazyBuf
import Derived.Laws.CopyOwn
import Derived.Laws.Tables
import Derived.Lib.SliceRun
section
namespace Go.Proofs.YtmbkmabpebjboaaGreat.Q
open Go.RowKit Go.Proofs.YtmbkmabpebjboaaGreatW.PrintWords Go.Proofs.YtmbkmabpebjboaaGreatW.PrintLast Go.Proofs.YtmbkmabpebjboaaGreatW.PrintMore
attribute [local go_sem] max2_int min2_int max_two min_two max_three min_three max_four min_four
set_option linter.unusedVariables false
set_option linter.unusedSimpArgs false
def impl_ChambersNeeded.f (k : Nat) (a0_0 : Int) (l0_1 : List (List Int)) : Option (Int × Bool) := (impl_isNeededGame.f k a0_0 l0_1).bind fun t440 => (if t440 = true then ((impl_Game_votes.f k a0_0 l0_1).bind fun bt441 => ((impl_votes_chambers.f k bt441.1 bt441.2).bind fun t445 => (some ((t445.length : Int), true)))) else (some (0, false)))
set_option maxHeartbeats 8000000 in
set_option maxRecDepth 100000 in
theorem impl_ChambersNeeded.calls (k : Nat) (a0_0 : Int) (A0_1 : Option Addr) (c0_1 : Nat) (l0_1 : List (List Int)) (r1 : Int) (r2 : Bool) (w : World) (hr0_1 : Kd.C (Kd.slice 3 (Kd.int .i64)) w A0_1 l0_1.length l0_1) (hc0_1 : l0_1.length ≤ c0_1) (h : impl_ChambersNeeded.f k a0_0 l0_1 = some (r1, r2)) :
  Calls Tryz.prog 9 #[.agg #[.int .i64 a0_0, .slice A0_1 l0_1.length c0_1]] w fun e w' => e = .returned (.tuple #[.int .i64 r1, .bool r2]) ∧ Below w.heap.size w w' := by
 have hu28 := Tryz.underlying28
 have HR0_1 := Aside0.mk hr0_1
 have HC0_1 := Aside0.mk hc0_1
 clear hr0_1 hc0_1
 have HB := Aside0.mk (Below.refl w.heap.size w)
 have H : ((impl_isNeededGame.f k a0_0 l0_1).bind fun t440 => (if t440 = true then ((impl_Game_votes.f k a0_0 l0_1).bind fun bt441 => ((impl_votes_chambers.f k bt441.1 bt441.2).bind fun t445 => (some ((t445.length : Int), true)))) else (some (0, false)))) = some (r1, r2) := h
 clear h
 replace H := Option.bind_eq_some_iff.mp H
 obtain ⟨t440, A20, H⟩ := H
 replace H : (if t440 = true then ((impl_Game_votes.f k a0_0 l0_1).bind fun bt441 => ((impl_votes_chambers.f k bt441.1 bt441.2).bind fun t445 => (some ((t445.length : Int), true)))) else (some (0, false))) = some (r1, r2) := H
 have A2 := Aside0.mk A20
 clear A20
 by_cases c3 : t440 = true
 rotate_left
 ·replace c3 := Bool.eq_false_iff.mpr c3
  subst c3
  have H1 : (some (0, false)) = some (r1, r2) := by rw [if_neg (show ¬ (false = true) by decide)] at H; exact H
  clear H
  have H := H1
  clear H1
  simp only [Option.some.injEq, Prod.mk.injEq] at H
  obtain ⟨rfl, rfl⟩ := H
  go_enter Tryz.func9, Tryz.ntmps9
  go_wp2_with (first | ((with_reducible refine gate_dst (N := 1) rfl ?_); refine zq 1 #[.int .i64 a0_0, .slice A0_1 l0_1.length c0_1] 28 ?_; intro gb439 hg w14 hbox hb; have n2_ := Aside0.mk ((by rw [hg]; exact (below_size (zh HB.out)) : w.heap.size ≤ gb439)); replace HB := Aside0.mk (below_step (zh HB.out) hb); have BK439 := Aside0.mk hbox; have GW439 := n2_; have GE439 := n2_; clear n2_ hb hbox hg; have hcz15_0 : w14.cell? ⟨gb439, 0, none⟩ = some (.int .i64 a0_0) := (blk_cell BK439.out 0).trans rfl; have hcz15_1 : w14.cell? ⟨gb439, 1, none⟩ = some (.slice A0_1 l0_1.length c0_1) := (blk_cell BK439.out 1).trans rfl; have hfz15_0 := blk_frozen BK439.out 0; have hfz15_1 := blk_frozen BK439.out 1) | ((with_reducible refine gate_callee (f := 30) rfl ?_); refine zl 5 Tryz.func30 #[.agg #[.int .i64 a0_0, .slice A0_1 l0_1.length c0_1]] ?_; (with_reducible refine (impl_isNeededGame.calls k a0_0 _ _ l0_1 false _ ?side1 ?side2 A2.out).mono ?_); (case side1 => repeat (first | exact (Kd.C_below HR0_1.out HB.out) | (with_reducible refine Kd.C_alloc ?_ _) | (with_reducible refine Kd.C_drewN ?_ _) | (with_reducible refine Kd.C_drew ?_))); (case side2 => exact HC0_1.out); rintro e w16 ⟨rfl, hb⟩; refine ⟨_, rfl, ?_⟩; have n0_ := Aside0.mk (blk_below (g := gb439) (o := .cells #[.int .i64 a0_0, .slice A0_1 l0_1.length c0_1] 28 (0, 0)) (zb BK439.out) hb); have n1_ := Aside0.mk (below_step (zh HB.out) hb); clear BK439; clear HB; have BK439 := n0_; have HB := n1_; clear n0_ n1_; (try clear hb); (try clear hb2); (try clear hk); (try clear hi)))
  go_ret2
  exact ⟨by first | rfl | (simp [*, errW_none, errW_some] <;> rfl), zh HB.out⟩
 subst c3
 have H1 : ((impl_Game_votes.f k a0_0 l0_1).bind fun bt441 => ((impl_votes_chambers.f k bt441.1 bt441.2).bind fun t445 => (some ((t445.length : Int), true)))) = some (r1, r2) := by rw [if_pos rfl] at H; exact H
 clear H
 have H := H1
 clear H1
 replace H := Option.bind_eq_some_iff.mp H
 obtain ⟨⟨t441, t442⟩, A40, H⟩ := H
 replace H : ((impl_votes_chambers.f k t441 t442).bind fun t445 => (some ((t445.length : Int), true))) = some (r1, r2) := H
 have A4 := Aside0.mk A40
 clear A40
 replace H := Option.bind_eq_some_iff.mp H
 obtain ⟨t445, A50, H⟩ := H
 replace H : (some ((t445.length : Int), true)) = some (r1, r2) := H
 have A5 := Aside0.mk A50
 clear A50
 simp only [Option.some.injEq, Prod.mk.injEq] at H
 obtain ⟨rfl, rfl⟩ := H
 go_enter Tryz.func9, Tryz.ntmps9
 go_wp2_with (first | ((with_reducible refine gate_dst (N := 1) rfl ?_); refine zq 1 #[.int .i64 a0_0, .slice A0_1 l0_1.length c0_1] 28 ?_; intro gb439 hg w6 hbox hb; have n2_ := Aside0.mk ((by rw [hg]; exact (below_size (zh HB.out)) : w.heap.size ≤ gb439)); replace HB := Aside0.mk (below_step (zh HB.out) hb); have BK439 := Aside0.mk hbox; have GW439 := n2_; have GE439 := n2_; clear n2_ hb hbox hg; have hcz7_0 : w6.cell? ⟨gb439, 0, none⟩ = some (.int .i64 a0_0) := (blk_cell BK439.out 0).trans rfl; have hcz7_1 : w6.cell? ⟨gb439, 1, none⟩ = some (.slice A0_1 l0_1.length c0_1) := (blk_cell BK439.out 1).trans rfl; have hfz7_0 := blk_frozen BK439.out 0; have hfz7_1 := blk_frozen BK439.out 1) | ((with_reducible refine gate_callee (f := 30) rfl ?_); refine zl 5 Tryz.func30 #[.agg #[.int .i64 a0_0, .slice A0_1 l0_1.length c0_1]] ?_; (with_reducible refine (impl_isNeededGame.calls k a0_0 _ _ l0_1 true _ ?side1 ?side2 A2.out).mono ?_); (case side1 => repeat (first | exact (Kd.C_below HR0_1.out HB.out) | (with_reducible refine Kd.C_alloc ?_ _) | (with_reducible refine Kd.C_drewN ?_ _) | (with_reducible refine Kd.C_drew ?_))); (case side2 => exact HC0_1.out); rintro e w8 ⟨rfl, hb⟩; refine ⟨_, rfl, ?_⟩; have n0_ := Aside0.mk (blk_below (g := gb439) (o := .cells #[.int .i64 a0_0, .slice A0_1 l0_1.length c0_1] 28 (0, 0)) (zb BK439.out) hb); have n1_ := Aside0.mk (below_step (zh HB.out) hb); clear BK439; clear HB; have BK439 := n0_; have HB := n1_; clear n0_ n1_; (try clear hb); (try clear hb2); (try clear hk); (try clear hi); have hcz9_0 : w8.cell? ⟨gb439, 0, none⟩ = some (.int .i64 a0_0) := (blk_cell BK439.out 0).trans rfl; have hcz9_1 : w8.cell? ⟨gb439, 1, none⟩ = some (.slice A0_1 l0_1.length c0_1) := (blk_cell BK439.out 1).trans rfl; have hfz9_0 := blk_frozen BK439.out 0; have hfz9_1 := blk_frozen BK439.out 1) | ((with_reducible refine gate_callee (f := 31) rfl ?_); refine zl 8 Tryz.func31 #[.agg #[.int .i64 a0_0, .slice A0_1 l0_1.length c0_1]] ?_; (with_reducible refine (impl_Game_votes.calls k a0_0 _ _ l0_1 t441 t442 _ ?side1 ?side2 A4.out).mono ?_); (case side1 => repeat (first | exact (Kd.C_below HR0_1.out HB.out) | (with_reducible refine Kd.C_alloc ?_ _) | (with_reducible refine Kd.C_drewN ?_ _) | (with_reducible refine Kd.C_drew ?_))); (case side2 => exact HC0_1.out); rintro e w10 ⟨v443, rfl, ho0, hb⟩; refine ⟨_, rfl, ?_⟩; have n0_ := Aside0.mk (Kd.R_lower ho0 (below_size (zh HB.out))); have n1_ := Aside0.mk (blk_below (g := gb439) (o := .cells #[.int .i64 a0_0, .slice A0_1 l0_1.length c0_1] 28 (0, 0)) (zb BK439.out) hb); have n2_ := Aside0.mk (below_step (zh HB.out) hb); clear BK439; clear HB; have HO444 := n0_; have BK439 := n1_; have HB := n2_; clear n0_ n1_ n2_; (try clear hb); (try clear hb2); (try clear hk); (try clear hi); (try clear ho0); obtain ⟨Ao11, co11, eo11⟩ := Kd.R_slice HO444.out; subst eo11) | ((with_reducible refine gate_callee (f := 32) rfl ?_); refine zl 9 Tryz.func32 #[.agg #[.int .i64 t441, .slice Ao11 t442.length co11]] ?_; (with_reducible refine (impl_votes_chambers.calls k t441 _ _ t442 t445 _ ?side1 ?side2 A5.out).mono ?_); (case side1 => repeat (first | exact (Kd.R_reads' HO444.out).2.2 | (with_reducible refine Kd.C_alloc ?_ _) | (with_reducible refine Kd.C_drewN ?_ _) | (with_reducible refine Kd.C_drew ?_))); (case side2 => exact (Kd.R_reads' HO444.out).2.1); rintro e w12 ⟨v446, rfl, ho0, hb⟩; refine ⟨_, rfl, ?_⟩; have n0_ := Aside0.mk (Kd.R_below (zr HO444.out) hb); have n1_ := Aside0.mk (Kd.V_lower (Kd.V_mono (ok' := fun k_ => some k_ ≠ (.slice Ao11 t442.length co11 : Value).ownBlock ∧ k_ ≠ gb439) ho0 (fun k_ hk_ => ⟨(Kd.fresh' (Kd.R_lt (zr HO444.out)) k_ hk_), (Kd.freshB (g := gb439) (o := .cells #[.int .i64 a0_0, .slice A0_1 l0_1.length c0_1] 28 (0, 0)) (zb BK439.out) k_ hk_)⟩)) (below_size (zh HB.out))); have n2_ := Aside0.mk (blk_below (g := gb439) (o := .cells #[.int .i64 a0_0, .slice A0_1 l0_1.length c0_1] 28 (0, 0)) (zb BK439.out) hb); have n3_ := Aside0.mk (below_step (zh HB.out) hb); clear HO444; clear BK439; clear HB; have HO444 := n0_; have HO447 := n1_; have BK439 := n2_; have HB := n3_; clear n0_ n1_ n2_ n3_; (try clear hb); (try clear hb2); (try clear hk); (try clear hi); (try clear ho0); obtain ⟨Ao13, co13, eo13⟩ := Kd.V_slice HO447.out; subst eo13))
 go_ret2
 exact ⟨by first | rfl | (simp [*, errW_none, errW_some] <;> rfl), zh HB.out⟩
def laws_FnExactChambersNeeded.f (k : Nat) (a0_0 : Int) (l0_1 : List (List Int)) : Option (Bool) := (laws_szGame.f k a0_0 l0_1 1048576).bind fun t457 => (if t457 < 0 then (some true) else ((laws_toGame.f k a0_0 l0_1).bind fun bt458 => ((spec_ChambersNeeded.f k bt458.1 bt458.2).bind fun bt462 => ((laws_toGame.f k a0_0 l0_1).bind fun bt464 => ((impl_ChambersNeeded.f k bt464.1 bt464.2).bind fun bt469 => (if bt469.1 = bt462.1 then (if (bt469.2 != bt462.2) = true then (none) else ((laws_toGame.f k a0_0 l0_1).bind fun bt471 => ((laws_eqGame.f k bt464.1 bt464.2 bt471.1 bt471.2).bind fun t475 => (if t475 = true then (some true) else (none))))) else (none)))))))
set_option maxHeartbeats 8000000 in
set_option maxRecDepth 100000 in
theorem laws_FnExactChambersNeeded.calls (k : Nat) (a0_0 : Int) (A0_1 : Option Addr) (c0_1 : Nat) (l0_1 : List (List Int)) (r : Bool) (w : World) (hr0_1 : Kd.C (Kd.slice 3 (Kd.int .i64)) w A0_1 l0_1.length l0_1) (hc0_1 : l0_1.length ≤ c0_1) (h : laws_FnExactChambersNeeded.f k a0_0 l0_1 = some r) :
  Calls Tryz.prog 3 #[.agg #[.int .i64 a0_0, .slice A0_1 l0_1.length c0_1]] w fun e w' => e = .returned (.bool r) ∧ Below w.heap.size w w' := by
 have hu24 := Tryz.underlying24
 have hu28 := Tryz.underlying28
 have HR0_1 := Aside0.mk hr0_1
 have HC0_1 := Aside0.mk hc0_1
 clear hr0_1 hc0_1
 have HB := Aside0.mk (Below.refl w.heap.size w)
 have H : ((laws_szGame.f k a0_0 l0_1 1048576).bind fun t457 => (if t457 < 0 then (some true) else ((laws_toGame.f k a0_0 l0_1).bind fun bt458 => ((spec_ChambersNeeded.f k bt458.1 bt458.2).bind fun bt462 => ((laws_toGame.f k a0_0 l0_1).bind fun bt464 => ((impl_ChambersNeeded.f k bt464.1 bt464.2).bind fun bt469 => (if bt469.1 = bt462.1 then (if (bt469.2 != bt462.2) = true then (none) else ((laws_toGame.f k a0_0 l0_1).bind fun bt471 => ((laws_eqGame.f k bt464.1 bt464.2 bt471.1 bt471.2).bind fun t475 => (if t475 = true then (some true) else (none))))) else (none)))))))) = some r := h
 clear h
 replace H := Option.bind_eq_some_iff.mp H
 obtain ⟨t457, A20, H⟩ := H
 replace H : (if t457 < 0 then (some true) else ((laws_toGame.f k a0_0 l0_1).bind fun bt458 => ((spec_ChambersNeeded.f k bt458.1 bt458.2).bind fun bt462 => ((laws_toGame.f k a0_0 l0_1).bind fun bt464 => ((impl_ChambersNeeded.f k bt464.1 bt464.2).bind fun bt469 => (if bt469.1 = bt462.1 then (if (bt469.2 != bt462.2) = true then (none) else ((laws_toGame.f k a0_0 l0_1).bind fun bt471 => ((laws_eqGame.f k bt464.1 bt464.2 bt471.1 bt471.2).bind fun t475 => (if t475 = true then (some true) else (none))))) else (none))))))) = some r := H
 have A2 := Aside0.mk A20
 clear A20
 by_cases c3 : t457 < 0
 ·rw [if_pos c3] at H
  have c3b0 : decide (t457 < 0) = true := decide_eq_true c3
  clear c3
  obtain rfl := Option.some.inj H
  go_enter Tryz.func3, Tryz.ntmps3
  go_wp2_with (first | ((with_reducible refine gate_dst (N := 1) rfl ?_); refine zq 1 #[.int .i64 a0_0, .slice A0_1 l0_1.length c0_1] 24 ?_; intro gb456 hg w4 hbox hb; have n2_ := Aside0.mk ((by rw [hg]; exact (below_size (zh HB.out)) : w.heap.size ≤ gb456)); replace HB := Aside0.mk (below_step (zh HB.out) hb); have BK456 := Aside0.mk hbox; have GW456 := n2_; have GE456 := n2_; clear n2_ hb hbox hg; have hcz5_0 : w4.cell? ⟨gb456, 0, none⟩ = some (.int .i64 a0_0) := (blk_cell BK456.out 0).trans rfl; have hcz5_1 : w4.cell? ⟨gb456, 1, none⟩ = some (.slice A0_1 l0_1.length c0_1) := (blk_cell BK456.out 1).trans rfl; have hfz5_0 := blk_frozen BK456.out 0; have hfz5_1 := blk_frozen BK456.out 1) | ((with_reducible refine gate_callee (f := 6) rfl ?_); refine zl 11 Tryz.func6 #[.agg #[.int .i64 a0_0, .slice A0_1 l0_1.length c0_1], .int .i64 1048576] ?_; (with_reducible refine (laws_szGame.calls k a0_0 _ _ l0_1 1048576 t457 _ ?side1 ?side2 A2.out).mono ?_); (case side1 => repeat (first | exact (Kd.C_below HR0_1.out HB.out) | (with_reducible refine Kd.C_alloc ?_ _) | (with_reducible refine Kd.C_drewN ?_ _) | (with_reducible refine Kd.C_drew ?_))); (case side2 => exact HC0_1.out); rintro e w6 ⟨rfl, hb⟩; refine ⟨_, rfl, ?_⟩; have n0_ := Aside0.mk (blk_below (g := gb456) (o := .cells #[.int .i64 a0_0, .slice A0_1 l0_1.length c0_1] 24 (0, 0)) (zb BK456.out) hb); have n1_ := Aside0.mk (below_step (zh HB.out) hb); clear BK456; clear HB; have BK456 := n0_; have HB := n1_; clear n0_ n1_; (try clear hb); (try clear hb2); (try clear hk); (try clear hi)))
  go_ret
  exact ⟨by first | rfl | (simp [*, errW_none, errW_some] <;> rfl), zh HB.out⟩
 rw [if_neg c3] at H
 have c3b0 : decide (t457 < 0) = false := decide_eq_false c3
 clear c3
 replace H := Option.bind_eq_some_iff.mp H
 obtain ⟨⟨t458, t459⟩, A70, H⟩ := H
 replace H : ((spec_ChambersNeeded.f k t458 t459).bind fun bt462 => ((laws_toGame.f k a0_0 l0_1).bind fun bt464 => ((impl_ChambersNeeded.f k bt464.1 bt464.2).bind fun bt469 => (if bt469.1 = bt462.1 then (if (bt469.2 != bt462.2) = true then (none) else ((laws_toGame.f k a0_0 l0_1).bind fun bt471 => ((laws_eqGame.f k bt464.1 bt464.2 bt471.1 bt471.2).bind fun t475 => (if t475 = true then (some true) else (none))))) else (none))))) = some r := H
 have A7 := Aside0.mk A70
 clear A70
 replace H := Option.bind_eq_some_iff.mp H
 obtain ⟨⟨t462, t463⟩, A80, H⟩ := H
 replace H : ((laws_toGame.f k a0_0 l0_1).bind fun bt464 => ((impl_ChambersNeeded.f k bt464.1 bt464.2).bind fun bt469 => (if bt469.1 = t462 then (if (bt469.2 != t463) = true then (none) else ((laws_toGame.f k a0_0 l0_1).bind fun bt471 => ((laws_eqGame.f k bt464.1 bt464.2 bt471.1 bt471.2).bind fun t475 => (if t475 = true then (some true) else (none))))) else (none)))) = some r := H
 have A8 := Aside0.mk A80
 clear A80
 replace H := Option.bind_eq_some_iff.mp H
 obtain ⟨⟨t464, t465⟩, A90, H⟩ := H
 replace H : ((impl_ChambersNeeded.f k t464 t465).bind fun bt469 => (if bt469.1 = t462 then (if (bt469.2 != t463) = true then (none) else ((laws_toGame.f k a0_0 l0_1).bind fun bt471 => ((laws_eqGame.f k t464 t465 bt471.1 bt471.2).bind fun t475 => (if t475 = true then (some true) else (none))))) else (none))) = some r := H
 have A9 := Aside0.mk A90
 clear A90
 replace H := Option.bind_eq_some_iff.mp H
 obtain ⟨⟨t469, t470⟩, A100, H⟩ := H
 replace H : (if t469 = t462 then (if (t470 != t463) = true then (none) else ((laws_toGame.f k a0_0 l0_1).bind fun bt471 => ((laws_eqGame.f k t464 t465 bt471.1 bt471.2).bind fun t475 => (if t475 = true then (some true) else (none))))) else (none)) = some r := H
 have A10 := Aside0.mk A100
 clear A100
 by_cases c11 : t469 = t462
 rotate_left
 ·rw [if_neg c11] at H
  exact absurd H (by simp)
 rw [if_pos c11] at H
 have c11b0 : (t469 == t462) = true := beq_iff_eq.mpr c11
 have c11b1 : (t469 != t462) = false := bne_eq_false_iff_eq.mpr c11
 clear c11
 by_cases c12 : (t470 != t463) = true
 ·rw [if_pos c12] at H
  exact absurd H (by simp)
 rw [if_neg c12] at H
 have c12b0 : (t470 != t463) = false := by simpa using c12
 (try (have c12b1 : decide (t470 = t463) = true := by simpa using c12))
 (try (have c12b2 : (t470 == t463) = true := by simpa using c12))
 clear c12
 replace H := Option.bind_eq_some_iff.mp H
 obtain ⟨⟨t471, t472⟩, A130, H⟩ := H
 replace H : ((laws_eqGame.f k t464 t465 t471 t472).bind fun t475 => (if t475 = true then (some true) else (none))) = some r := H
 have A13 := Aside0.mk A130
 clear A130
 replace H := Option.bind_eq_some_iff.mp H
 obtain ⟨t475, A140, H⟩ := H
 replace H : (if t475 = true then (some true) else (none)) = some r := H
 have A14 := Aside0.mk A140
 clear A140
 by_cases c15 : t475 = true
 rotate_left
 ·replace c15 := Bool.eq_false_iff.mpr c15
  subst c15
  have H1 : (none) = some r := by rw [if_neg (show ¬ (false = true) by decide)] at H; exact H
  clear H
  have H := H1
  clear H1
  exact absurd H (by simp)
 subst c15
 have H1 : (some true) = some r := by rw [if_pos rfl] at H; exact H
 clear H
 have H := H1
 clear H1
 obtain rfl := Option.some.inj H
 go_enter Tryz.func3, Tryz.ntmps3
 try go_wp2_with (first | ((with_reducible refine gate_dst (N := 1) rfl ?_); refine zq 1 #[.int .i64 a0_0, .slice A0_1 l0_1.length c0_1] 24 ?_; intro gb456 hg w16 hbox hb; have n2_ := Aside0.mk ((by rw [hg]; exact (below_size (zh HB.out)) : w.heap.size ≤ gb456)); replace HB := Aside0.mk (below_step (zh HB.out) hb); have BK456 := Aside0.mk hbox; have GW456 := n2_; have GE456 := n2_; clear n2_ hb hbox hg; have hcz17_0 : w16.cell? ⟨gb456, 0, none⟩ = some (.int .i64 a0_0) := (blk_cell BK456.out 0).trans rfl; have hcz17_1 : w16.cell? ⟨gb456, 1, none⟩ = some (.slice A0_1 l0_1.length c0_1) := (blk_cell BK456.out 1).trans rfl; have hfz17_0 := blk_frozen BK456.out 0; have hfz17_1 := blk_frozen BK456.out 1) | ((with_reducible refine gate_callee (f := 6) rfl ?_); refine zl 11 Tryz.func6 #[.agg #[.int .i64 a0_0, .slice A0_1 l0_1.length c0_1], .int .i64 1048576] ?_; (with_reducible refine (laws_szGame.calls k a0_0 _ _ l0_1 1048576 t457 _ ?side1 ?side2 A2.out).mono ?_); (case side1 => repeat (first | exact (Kd.C_below HR0_1.out HB.out) | (with_reducible refine Kd.C_alloc ?_ _) | (with_reducible refine Kd.C_drewN ?_ _) | (with_reducible refine Kd.C_drew ?_))); (case side2 => exact HC0_1.out); rintro e w18 ⟨rfl, hb⟩; refine ⟨_, rfl, ?_⟩; have n0_ := Aside0.mk (blk_below (g := gb456) (o := .cells #[.int .i64 a0_0, .slice A0_1 l0_1.length c0_1] 24 (0, 0)) (zb BK456.out) hb); have n1_ := Aside0.mk (below_step (zh HB.out) hb); clear BK456; clear HB; have BK456 := n0_; have HB := n1_; clear n0_ n1_; (try clear hb); (try clear hb2); (try clear hk); (try clear hi); have hcz19_0 : w18.cell? ⟨gb456, 0, none⟩ = some (.int .i64 a0_0) := (blk_cell BK456.out 0).trans rfl; have hcz19_1 : w18.cell? ⟨gb456, 1, none⟩ = some (.slice A0_1 l0_1.length c0_1) := (blk_cell BK456.out 1).trans rfl; have hfz19_0 := blk_frozen BK456.out 0; have hfz19_1 := blk_frozen BK456.out 1) | ((with_reducible refine gate_callee (f := 8) rfl ?_); refine zl 16 Tryz.func8 #[.agg #[.int .i64 a0_0, .slice A0_1 l0_1.length c0_1]] ?_; (with_reducible refine (laws_toGame.calls k a0_0 _ _ l0_1 t458 t459 _ ?side1 ?side2 A7.out).mono ?_); (case side1 => repeat (first | exact (Kd.C_below HR0_1.out HB.out) | (with_reducible refine Kd.C_alloc ?_ _) | (with_reducible refine Kd.C_drewN ?_ _) | (with_reducible refine Kd.C_drew ?_))); (case side2 => exact HC0_1.out); rintro e w20 ⟨v460, rfl, ho0, hb⟩; refine ⟨_, rfl, ?_⟩; have n0_ := Aside0.mk (Kd.S_lower ho0 (below_size (zh HB.out))); have n1_ := Aside0.mk (blk_below (g := gb456) (o := .cells #[.int .i64 a0_0, .slice A0_1 l0_1.length c0_1] 24 (0, 0)) (zb BK456.out) hb); have n2_ := Aside0.mk (below_step (zh HB.out) hb); clear BK456; clear HB; have HO461 := n0_; have BK456 := n1_; have HB := n2_; clear n0_ n1_ n2_; (try clear hb); (try clear hb2); (try clear hk); (try clear hi); (try clear ho0); obtain ⟨Ao21, co21, eo21⟩ := Kd.S_slice HO461.out; subst eo21) | ((with_reducible refine gate_callee (f := 7) rfl ?_); refine zl 17 Tryz.func7 #[.agg #[.int .i64 t458, .slice Ao21 t459.length co21]] ?_; (with_reducible refine (spec_ChambersNeeded.calls k t458 _ _ t459 t462 t463 _ ?side1 ?side2 A8.out).mono ?_); (case side1 => repeat (first | exact (Kd.S_reads' HO461.out).2.2 | (with_reducible refine Kd.C_alloc ?_ _) | (with_reducible refine Kd.C_drewN ?_ _) | (with_reducible refine Kd.C_drew ?_))); (case side2 => exact (Kd.S_reads' HO461.out).2.1); rintro e w22 ⟨rfl, hb⟩; refine ⟨_, rfl, ?_⟩; have n0_ := Aside0.mk (Kd.S_below (by (with_reducible repeat (first | apply Kd.S_alloc | apply Kd.S_drewN | apply Kd.S_drew)); exact HO461.out) hb); have n1_ := Aside0.mk (blk_below (g := gb456) (o := .cells #[.int .i64 a0_0, .slice A0_1 l0_1.length c0_1] 24 (0, 0)) (zb BK456.out) hb); have n2_ := Aside0.mk (below_step (zh HB.out) hb); clear HO461; clear BK456; clear HB; have HO461 := n0_; have BK456 := n1_; have HB := n2_; clear n0_ n1_ n2_; (try clear hb); (try clear hb2); (try clear hk); (try clear hi); have hcz23_0 : w22.cell? ⟨gb456, 0, none⟩ = some (.int .i64 a0_0) := (blk_cell BK456.out 0).trans rfl; have hcz23_1 : w22.cell? ⟨gb456, 1, none⟩ = some (.slice A0_1 l0_1.length c0_1) := (blk_cell BK456.out 1).trans rfl; have hfz23_0 := blk_frozen BK456.out 0; have hfz23_1 := blk_frozen BK456.out 1) | ((with_reducible refine gate_callee (f := 8) rfl ?_); refine zl 21 Tryz.func8 #[.agg #[.int .i64 a0_0, .slice A0_1 l0_1.length c0_1]] ?_; (with_reducible refine (laws_toGame.calls k a0_0 _ _ l0_1 t464 t465 _ ?side1 ?side2 A9.out).mono ?_); (case side1 => repeat (first | exact (Kd.C_below HR0_1.out HB.out) | (with_reducible refine Kd.C_alloc ?_ _) | (with_reducible refine Kd.C_drewN ?_ _) | (with_reducible refine Kd.C_drew ?_))); (case side2 => exact HC0_1.out); rintro e w24 ⟨v466, rfl, ho0, hb⟩; refine ⟨_, rfl, ?_⟩; have n0_ := Aside0.mk (Kd.S_elder' (by (with_reducible repeat (first | apply Kd.S_alloc | apply Kd.S_drewN | apply Kd.S_drew)); exact HO461.out) (Kd.S_base ho0) hb); have n1_ := Aside0.mk (Kd.S_lower (Kd.S_new' ho0 (Kd.S_lt (by (with_reducible repeat (first | apply Kd.S_alloc | apply Kd.S_drewN | apply Kd.S_drew)); exact HO461.out))) (below_size (zh HB.out))); have n2_ := Aside0.mk (blk_below (g := gb456) (o := .cells #[.int .i64 a0_0, .slice A0_1 l0_1.length c0_1] 24 (0, 0)) (zb BK456.out) hb); have n3_ := Aside0.mk (below_step (zh HB.out) hb); clear HO461; clear BK456; clear HB; have HO461 := n0_; have HO467 := n1_; have BK456 := n2_; have HB := n3_; clear n0_ n1_ n2_ n3_; (try clear hb); (try clear hb2); (try clear hk); (try clear hi); (try clear ho0)) | ((with_reducible refine gate_dst (N := 6) rfl ?_); refine zq 6 #[.int .i64 0, .slice none 0 0] 28 ?_; intro gb468 hg w25 hbox hb; have n0_ := Aside0.mk (Kd.S_below (by (with_reducible repeat (first | apply Kd.S_alloc | apply Kd.S_drewN | apply Kd.S_drew)); exact HO461.out) hb); have n1_ := Aside0.mk (Kd.S_below (by (with_reducible repeat (first | apply Kd.S_alloc | apply Kd.S_drewN | apply Kd.S_drew)); exact HO467.out) hb); have n2_ := Aside0.mk (blk_below (g := gb456) (o := .cells #[.int .i64 a0_0, .slice A0_1 l0_1.length c0_1] 24 (0, 0)) (zb BK456.out) hb); have n3_ := Aside0.mk (below_step (zh HB.out) hb); have n4_ := Aside0.mk (hbox); have n5_ := Aside0.mk ((by rw [hg]; exact (below_size (zh HB.out)) : w.heap.size ≤ gb468)); have n6_ := Aside0.mk ((by rw [hg]; exact (below_size (zh HB.out)) : w.heap.size ≤ gb468)); have n7_ := Aside0.mk ((by rw [hg]; exact Nat.ne_of_lt (blk_lt (g := gb456) (o := .cells #[.int .i64 a0_0, .slice A0_1 l0_1.length c0_1] 24 (0, 0)) (zb BK456.out)) : gb456 ≠ gb468)); have n8_ := Aside0.mk ((by rw [hg]; exact Nat.ne_of_gt (blk_lt (g := gb456) (o := .cells #[.int .i64 a0_0, .slice A0_1 l0_1.length c0_1] 24 (0, 0)) (zb BK456.out)) : gb468 ≠ gb456)); clear HO461; clear HO467; clear BK456; clear HB; have HO461 := n0_; have HO467 := n1_; have BK456 := n2_; have HB := n3_; have BK468 := n4_; have GW468 := n5_; have GE468 := n6_; have NB456_468 := n7_; have NB468_456 := n8_; clear n0_ n1_ n2_ n3_ n4_ n5_ n6_ n7_ n8_; clear hb hbox hg; have hnb26 := NB468_456.out; have hnc26 := NB456_468.out; have hcz27_0 : w25.cell? ⟨gb468, 0, none⟩ = some (.int .i64 0) := (blk_cell BK468.out 0).trans rfl; have hcz27_1 : w25.cell? ⟨gb468, 1, none⟩ = some (.slice none 0 0) := (blk_cell BK468.out 1).trans rfl; have hfz27_0 := blk_frozen BK468.out 0; have hfz27_1 := blk_frozen BK468.out 1; obtain ⟨Ao28, co28, eo28⟩ := Kd.S_slice HO467.out; subst eo28) | ((with_reducible refine gate_callee (f := 9) rfl ?_); refine zl 24 Tryz.func9 #[.agg #[.int .i64 t464, .slice Ao28 t465.length co28]] ?_; (with_reducible refine (impl_ChambersNeeded.calls k t464 _ _ t465 t469 t470 _ ?side1 ?side2 A10.out).mono ?_); (case side1 => refine (Kd.S_reads' (e := 65) (base := w.heap.size) (ok := fun k_ => (True ∧ some k_ ≠ (.slice Ao21 t459.length co21 : Value).ownBlock)) (n := t465.length) (c := co28) ?_).2.2; exact (by (with_reducible repeat (first | apply Kd.S_alloc | apply Kd.S_drewN | apply Kd.S_drew)); exact (Kd.S_mono (Kd.S_far (p := ⟨gb468, 1, none⟩) (Kd.S_far (p := ⟨gb468, 0, none⟩) (Kd.S_types HO467.out BK468.out (by decide)) (fun _ hk => hk.2) (.int .i64 t464)) (fun _ hk => hk.2) (.slice Ao28 t465.length co28)) (fun _ h_ => h_.1)))); (case side2 => exact (Kd.S_reads' HO467.out).2.1); rintro e w29 ⟨rfl, hb⟩; refine ⟨_, rfl, ?_⟩; have n0_ := Aside0.mk (Kd.S_below (by (with_reducible repeat (first | apply Kd.S_alloc | apply Kd.S_drewN | apply Kd.S_drew)); exact (Kd.S_mono (Kd.S_far (p := ⟨gb468, 1, none⟩) (Kd.S_far (p := ⟨gb468, 0, none⟩) (Kd.S_types HO461.out BK468.out (by decide)) (fun _ hk => hk.2) (.int .i64 t464)) (fun _ hk => hk.2) (.slice Ao28 t465.length co28)) (fun _ h_ => h_.1))) hb); have n1_ := Aside0.mk (Kd.S_below (by (with_reducible repeat (first | apply Kd.S_alloc | apply Kd.S_drewN | apply Kd.S_drew)); exact (Kd.S_mono (Kd.S_far (p := ⟨gb468, 1, none⟩) (Kd.S_far (p := ⟨gb468, 0, none⟩) (Kd.S_types HO467.out BK468.out (by decide)) (fun _ hk => hk.2) (.int .i64 t464)) (fun _ hk => hk.2) (.slice Ao28 t465.length co28)) (fun _ h_ => h_.1))) hb); have n2_ := Aside0.mk (blk_below (g := gb456) (o := .cells #[.int .i64 a0_0, .slice A0_1 l0_1.length c0_1] 24 (0, 0)) (zf2 BK456.out NB456_468.out NB456_468.out) hb); have n3_ := Aside0.mk (blk_below (g := gb468) (o := .cells #[.int .i64 t464, .slice Ao28 t465.length co28] 28 (0, 0)) (by (with_reducible repeat (first | refine blk_drewN ?_ _ | refine blk_drew ?_ | refine blk_alloc ?_ _)); refine blk_put (cs := #[.int .i64 t464, .slice none 0 0]) ?_ 1 _ rfl; (with_reducible repeat (first | refine blk_drewN ?_ _ | refine blk_drew ?_ | refine blk_alloc ?_ _)); refine blk_put (cs := #[.int .i64 0, .slice none 0 0]) ?_ 0 _ rfl; (with_reducible repeat (first | refine blk_drewN ?_ _ | refine blk_drew ?_ | refine blk_alloc ?_ _)); exact BK468.out) hb); have n4_ := Aside0.mk (below_step (zh HB.out) hb); clear HO461; clear HO467; clear BK456; clear BK468; clear HB; have HO461 := n0_; have HO467 := n1_; have BK456 := n2_; have BK468 := n3_; have HB := n4_; clear n0_ n1_ n2_ n3_ n4_; (try clear hb); (try clear hb2); (try clear hk); (try clear hi)))
 have n0_ := Aside0.mk (Kd.S_drew HO461.out)
 have n1_ := Aside0.mk (Kd.S_drew HO467.out)
 have n2_ := Aside0.mk (blk_drew BK456.out)
 have n3_ := Aside0.mk (blk_drew BK468.out)
 have n4_ := Aside0.mk (below_drew1 HB.out)
 clear HO461
 clear HO467
 clear BK456
 clear BK468
 clear HB
 have HO461 := n0_
 have HO467 := n1_
 have BK456 := n2_
 have BK468 := n3_
 have HB := n4_
 clear n0_ n1_ n2_ n3_ n4_
 refine start_ (n := 5) (S := fun w' => w'.cell? ⟨gb468, 0, none⟩ = some (.int .i64 t464) ∧ w'.cell? ⟨gb468, 1, none⟩ = some (.slice Ao28 t465.length co28) ∧ w'.cell? ⟨gb456, 0, none⟩ = some (.int .i64 a0_0) ∧ w'.cell? ⟨gb456, 1, none⟩ = some (.slice A0_1 l0_1.length c0_1)) (ds := []) #[false, false, false, false, false] (by kernel_rfl) rfl rfl ⟨(blk_cell BK468.out 0).trans rfl, (blk_cell BK468.out 1).trans rfl, (blk_cell BK456.out 0).trans rfl, (blk_cell BK456.out 1).trans rfl⟩ (fun hHeld => ?_)
 generalize w29.drew = w30 at HO461 HO467 BK456 BK468 HB hHeld ⊢
 refine zt (i := 0) (N := some 35) #[true, false, false, false, false] rfl rfl (by kernel_rfl) hHeld ?_
 refine zt (i := 1) (N := some 36) #[true, true, false, false, false] rfl rfl (by kernel_rfl) hHeld ?_
 refine one_ (i := 2) (N := some 37) #[true, true, true, false, false] rfl rfl (by kernel_rfl) (by decide) (fun K hK => ?_)
 refine goes_ Tryz.func8 (by kernel_rfl) rfl #[.agg #[.int .i64 a0_0, .slice A0_1 l0_1.length c0_1]] (by rfl) rfl rfl (by (try simp only [List.map_toArray, List.map_cons, List.map_nil]); first | done | rfl | (simp only [List.length_drop, List.length_take]; rfl)) ?_
 with_reducible refine (laws_toGame.calls k a0_0 _ _ l0_1 t471 t472 _ ?side1 ?side2 A13.out).mono ?_
 (case side1 => repeat (first | exact (Kd.C_below HR0_1.out HB.out) | (with_reducible refine Kd.C_alloc ?_ _) | (with_reducible refine Kd.C_drewN ?_ _) | (with_reducible refine Kd.C_drew ?_)))
 (case side2 => exact HC0_1.out)
 rintro e w31 ⟨v473, rfl, ho0, hb⟩
 refine ⟨_, rfl, ?_⟩
 have n0_ := Aside0.mk (Kd.S_elder' (by (with_reducible repeat (first | apply Kd.S_alloc | apply Kd.S_drewN | apply Kd.S_drew)); exact HO461.out) (Kd.S_base ho0) hb)
 have n1_ := Aside0.mk (Kd.S_elder' (by (with_reducible repeat (first | apply Kd.S_alloc | apply Kd.S_drewN | apply Kd.S_drew)); exact HO467.out) (Kd.S_base ho0) hb)
 have n2_ := Aside0.mk (Kd.S_lower (Kd.S_new' (Kd.S_new' ho0 (Kd.S_lt (by (with_reducible repeat (first | apply Kd.S_alloc | apply Kd.S_drewN | apply Kd.S_drew)); exact HO461.out))) (Kd.S_lt (by (with_reducible repeat (first | apply Kd.S_alloc | apply Kd.S_drewN | apply Kd.S_drew)); exact HO467.out))) (below_size (zh HB.out)))
 have n3_ := Aside0.mk (blk_below (g := gb456) (o := .cells #[.int .i64 a0_0, .slice A0_1 l0_1.length c0_1] 24 (0, 0)) (zb BK456.out) hb)
 have n4_ := Aside0.mk (blk_below (g := gb468) (o := .cells #[.int .i64 t464, .slice Ao28 t465.length co28] 28 (0, 0)) (zb BK468.out) hb)
 have n5_ := Aside0.mk (below_step (zh HB.out) hb)
 clear HO461
 clear HO467
 clear BK456
 clear BK468
 clear HB
 have HO461 := n0_
 have HO467 := n1_
 have HO474 := n2_
 have BK456 := n3_
 have BK468 := n4_
 have HB := n5_
 clear n0_ n1_ n2_ n3_ n4_ n5_
 (try clear hb)
 (try clear hb2)
 (try clear hk)
 (try clear hi)
 (try clear ho0)
 obtain ⟨Ao32, co32, eo32⟩ := Kd.S_slice HO474.out
 (first | subst eo32 | (injection eo32 with f1_ f2_ f3_; have f4_ := f1_.symm; have f5_ := f3_.symm; clear f1_ f2_ f3_; subst f4_; subst f5_))
 refine hK.out _ _ ⟨(blk_cell BK468.out 0).trans rfl, (blk_cell BK468.out 1).trans rfl, (blk_cell BK456.out 0).trans rfl, (blk_cell BK456.out 1).trans rfl⟩ (fun hHeld => ?_)
 clear hK K
 refine zn1 ?_
 refine one_ (i := 3) (N := some 38) #[true, true, true, true, false] rfl rfl (by kernel_rfl) (by decide) (fun K hK => ?_)
 refine goes_ Tryz.func10 (by kernel_rfl) rfl #[.agg #[.int .i64 t464, .slice Ao28 t465.length co28], .agg #[.int .i64 t471, .slice Ao32 t472.length co32]] (by rfl) rfl rfl (by (try simp only [List.map_toArray, List.map_cons, List.map_nil]); first | done | rfl | (simp only [List.length_drop, List.length_take]; rfl)) ?_
 with_reducible refine (laws_eqGame.calls k t464 _ _ t465 t471 _ _ t472 true _ ?side1 ?side2 ?side3 ?side4 A14.out).mono ?_
 (case side1 => repeat (first | exact (Kd.S_reads' HO467.out).2.2 | (with_reducible refine Kd.C_alloc ?_ _) | (with_reducible refine Kd.C_drewN ?_ _) | (with_reducible refine Kd.C_drew ?_)))
 (case side2 => exact (Kd.S_reads' HO467.out).2.1)
 (case side3 => repeat (first | exact (Kd.S_reads' HO474.out).2.2 | (with_reducible refine Kd.C_alloc ?_ _) | (with_reducible refine Kd.C_drewN ?_ _) | (with_reducible refine Kd.C_drew ?_)))
 (case side4 => exact (Kd.S_reads' HO474.out).2.1)
 rintro e w33 ⟨rfl, hb⟩
 refine ⟨_, rfl, ?_⟩
 have n0_ := Aside0.mk (Kd.S_below (by (with_reducible repeat (first | apply Kd.S_alloc | apply Kd.S_drewN | apply Kd.S_drew)); exact HO461.out) hb)
 have n1_ := Aside0.mk (Kd.S_below (by (with_reducible repeat (first | apply Kd.S_alloc | apply Kd.S_drewN | apply Kd.S_drew)); exact HO467.out) hb)
 have n2_ := Aside0.mk (Kd.S_below (by (with_reducible repeat (first | apply Kd.S_alloc | apply Kd.S_drewN | apply Kd.S_drew)); exact HO474.out) hb)
 have n3_ := Aside0.mk (blk_below (g := gb456) (o := .cells #[.int .i64 a0_0, .slice A0_1 l0_1.length c0_1] 24 (0, 0)) (zb BK456.out) hb)
 have n4_ := Aside0.mk (blk_below (g := gb468) (o := .cells #[.int .i64 t464, .slice Ao28 t465.length co28] 28 (0, 0)) (zb BK468.out) hb)
 have n5_ := Aside0.mk (below_step (zh HB.out) hb)
 clear HO461
 clear HO467
 clear HO474
 clear BK456
 clear BK468
 clear HB
 have HO461 := n0_
 have HO467 := n1_
 have HO474 := n2_
 have BK456 := n3_
 have BK468 := n4_
 have HB := n5_
 clear n0_ n1_ n2_ n3_ n4_ n5_
 (try clear hb)
 (try clear hb2)
 (try clear hk)
 (try clear hi)
 refine hK.out _ _ ⟨(blk_cell BK468.out 0).trans rfl, (blk_cell BK468.out 1).trans rfl, (blk_cell BK456.out 0).trans rfl, (blk_cell BK456.out 1).trans rfl⟩ (fun hHeld => ?_)
 clear hK K
 refine zn1 ?_
 refine zp1 (i := 4) (N := some 39) #[true, true, true, true, true] rfl rfl (by kernel_rfl) ?_
 refine done_ (by kernel_rfl) ?_
 try go_wp2
 go_ret
 exact ⟨by first | rfl | (simp [*, errW_none, errW_some] <;> rfl), zh HB.out⟩
end Go.Proofs.YtmbkmabpebjboaaGreat.Q
end
section
namespace Go.Proofs.YtmbkmabpebjboaaGreat.Q
open Go.RowKit Go.Proofs.YtmbkmabpebjboaaGreatW.PrintWords Go.Proofs.YtmbkmabpebjboaaGreatW.PrintLast Go.Proofs.YtmbkmabpebjboaaGreatW.PrintMore
set_option linter.unusedVariables false
set_option linter.unusedSimpArgs false
open Go.ChangeShapes Go.WideShapes Go.ChangeAt Go.Deep
section
variable {H : Type} {enc : TypeId × Value → H} {P : Program} {W : World} {α β γ : Type}
def Opens (enc : TypeId × Value → H) (P : Program) (W : World) (t : TypeId) (d : Kd α) (G : α → Prop) : Prop :=
  ∀ (fuel : Nat) (cs : List Value) (y : DataW H × List MemPlace), DataW.trod enc P W 0 (fun _ => true) true fuel t cs = some y → ∃ x, d.K W x cs ∧ G x
def I64 (x : Int) : Prop := -9223372036854775808 ≤ x ∧ x ≤ 9223372036854775807
theorem opens_int {t : TypeId} (ht : P.underlying t = some (.int .i64)) : Opens enc P W t (Kd.int .i64) I64 := by
  intro fuel cs y h
  obtain ⟨n, rfl, _, hw⟩ := DataW.trod_int ht h
  exact ⟨n, rfl, Go.bounds_i64 hw⟩
theorem opens_slice [Inhabited α] {t e : TypeId} {d : Kd α} {G : α → Prop} (ht : P.underlying t = some (.slice e)) (he : P.cellsOf e = d.sz) (h : Opens enc P W e d G) :
    Opens enc P W t (Kd.slice e d) (fun xs => ∀ x ∈ xs, G x) := by
  intro fuel cs y hr
  rcases Deep.open_slice ht hr with ⟨rfl, _⟩ | ⟨a, len, cap, m, n, D, Pl, rfl, _, hlc, hcm, hm, _, hel⟩
  · exact ⟨[], ⟨none, 0, rfl, Nat.le_refl _, rfl, by simp, fun hp => absurd hp (by simp)⟩, fun x hx => by cases hx⟩
  · have hm' : len ≤ m := by rw [hm]; simp; omega
    have key : ∀ i, i < len → ∃ x, (∃ cs', d.K W x cs' ∧ ∀ j u, cs'[j]? = some u → W.cell? (a.add (i * d.sz + j)) = some u) ∧ G x := by
      intro i hi
      obtain ⟨cs', h1, h2⟩ := hel i (by omega)
      obtain ⟨x, hx, hG⟩ := h _ _ _ h2
      obtain ⟨_, hl, hc⟩ := World.cells?_some h1
      refine ⟨x, ⟨cs', hx, fun j u hu => ?_⟩, hG⟩
      have hj : j < P.cellsOf e := by rw [← hl]; exact (List.getElem?_eq_some_iff.1 hu).1
      have h3 := hc j hj
      rw [Deep.add_add, he] at h3
      rw [h3, hu]
    obtain ⟨f, hf⟩ := Deep.choose_lt key
    have hlen : ((List.range len).map f).length = len := by simp
    refine ⟨(List.range len).map f, ⟨some a, cap, by rw [hlen], by rw [hlen]; exact hlc, rfl, ?_, fun _ => ⟨a, rfl, fun j p hj => ?_⟩⟩, fun x hx => ?_⟩
    · rw [hlen]; unfold maxLen at hcm; omega
    · obtain ⟨hj1, hj2⟩ := List.getElem?_eq_some_iff.1 hj
      have hjl : j < len := by rw [hlen] at hj1; exact hj1
      have : p = f j := by rw [← hj2]; simp
      subst this
      obtain ⟨⟨cs', hK, hc⟩, _⟩ := hf j hjl
      exact ⟨cs', d.K_len hK, hK, hc⟩
    · obtain ⟨i, hi, rfl⟩ := List.mem_map.1 hx
      exact (hf i (List.mem_range.1 hi)).2
theorem opens_pair {t : TypeId} {f0 f1 : Field} {d0 : Kd α} {d1 : Kd β} {G0 : α → Prop} {G1 : β → Prop} (ht : P.underlying t = some (.struct #[f0, f1])) (hC : P.cellsOf t = d0.sz + d1.sz)
    (o0 : f0.offset = 0) (o1 : f1.offset = d0.sz) (c0 : P.cellsOf f0.type = d0.sz) (c1 : P.cellsOf f1.type = d1.sz) (h0 : Opens enc P W f0.type d0 G0) (h1 : Opens enc P W f1.type d1 G1) :
    Opens enc P W t (Kd.pair d0 d1) (fun x => G0 x.1 ∧ G1 x.2) := by
  intro fuel cs y hr
  obtain ⟨y0, y1, n, _, hl, r0, r1⟩ := trod_struct2 ht hr
  rw [o0, c0] at r0
  rw [o1, c1] at r1
  obtain ⟨x0, k0, g0⟩ := h0 _ _ _ r0
  obtain ⟨x1, k1, g1⟩ := h1 _ _ _ r1
  refine ⟨(x0, x1), ⟨_, _, ?_, k0, k1⟩, g0, g1⟩
  rw [List.drop_zero, List.take_of_length_le (l := cs.drop d0.sz) (by rw [List.length_drop, hl, hC]; omega), List.take_append_drop]
theorem open_struct {r : Reach} {b0 : Nat} {t : TypeId} {fs : Array Field} {d : Kd α} {G : α → Prop} {v : Value} {y : DataW H} {p : List MemPlace} (ht : P.underlying t = some (.struct fs)) (hv : Value.okWide P W r b0 t v)
    (hr : DataW.Trod enc P W 0 (fun _ => true) true t v y p) (h : Opens enc P W t d G) : ∃ x cs, v = .agg cs ∧ d.K W x cs.toList ∧ G x := by
  obtain ⟨cs, rfl, _⟩ := okWide_struct ht hv
  obtain ⟨fuel, hf⟩ := hr
  obtain ⟨x, k, g⟩ := h _ _ _ hf
  exact ⟨x, cs, rfl, k, g⟩
end
end Go.Proofs.YtmbkmabpebjboaaGreat.Q
end
section
namespace Go.Proofs.YtmbkmabpebjboaaGreat.Q
open Go.RowKit Go.Proofs.YtmbkmabpebjboaaGreatW.PrintWords Go.Proofs.YtmbkmabpebjboaaGreatW.PrintLast Go.Proofs.YtmbkmabpebjboaaGreatW.PrintMore
set_option linter.unusedVariables false
set_option linter.unusedSimpArgs false
theorem wraps_i64 (n : Int) (h0 : 0 ≤ n) (h1 : n < 2 ^ 62) : IntKind.i64.wrap n = n := by rw [IntKind.wrap_i64]; omega
theorem and_nat (a b : Nat) (ha : a < 2 ^ 62) (hb : b < 2 ^ 62) : Go.bits .and .i64 (a : Int) (b : Int) = ((a &&& b : Nat) : Int) := (Go.bits_nat .i64 62 (by decide) wraps_i64 a b ha hb).1
theorem or_nat (a b : Nat) (ha : a < 2 ^ 62) (hb : b < 2 ^ 62) : Go.bits .or .i64 (a : Int) (b : Int) = ((a ||| b : Nat) : Int) := (Go.bits_nat .i64 62 (by decide) wraps_i64 a b ha hb).2
theorem shr_nat (a n : Nat) (hn : n ≤ 64) : shr .i64 (a : Int) (n : Int) = ((a >>> n : Nat) : Int) := by
  unfold shr
  rw [Int.toNat_natCast, show min n IntKind.i64.bits = n from Nat.min_eq_left hn, Nat.shiftRight_eq_div_pow]
  simp
theorem shl_one_nat (n : Nat) (hn : n ≤ 16) : shl .i64 1 (n : Int) = ((2 ^ n : Nat) : Int) := by
  rw [shl_one (n : Int) ⟨by omega, by omega⟩, Int.toNat_natCast]; simp
theorem and_one_nat (a : Nat) (ha : a < 2 ^ 62) : Go.bits .and .i64 (a : Int) 1 = ((a % 2 : Nat) : Int) := by
  have := and_nat a 1 ha (by decide)
  rw [Nat.and_one_is_mod] at this
  exact this
theorem tmod_two (a : Nat) : Int.tmod (a : Int) 2 = ((a % 2 : Nat) : Int) := by
  rw [Int.tmod_eq_emod_of_nonneg (by omega)]; omega
theorem shr_lt (a i : Nat) (ha : a < 2 ^ 62) : a >>> i < 2 ^ 62 := by
  rw [Nat.shiftRight_eq_div_pow]
  exact Nat.lt_of_le_of_lt (Nat.div_le_self _ _) ha
def bitsL (m : Nat) : Nat → Nat → List Int
  | _, 0 => []
  | i, n + 1 => if m >>> i % 2 = 1 then (i : Int) :: bitsL m (i + 1) n else bitsL m (i + 1) n
def setL (m : Nat) : List Int := bitsL m 0 16
theorem bitsL_zero (m i n : Nat) (h : m >>> i = 0) : bitsL m i n = [] := by
  induction n generalizing i with
  | zero => rfl
  | succ n ih =>
    rw [bitsL, h, if_neg (by decide)]
    exact ih (i + 1) (by rw [Nat.shiftRight_succ, h])
theorem bitsL_len (m i n : Nat) : (bitsL m i n).length ≤ n := by
  induction n generalizing i with
  | zero => simp [bitsL]
  | succ n ih =>
    rw [bitsL]
    split
    · simp; exact ih _
    · exact Nat.le_succ_of_le (ih _)
theorem setOf_ev (m : Nat) (hm : m < 65536) : Ev (fun k => impl_setOf.f k (m : Int)) (setL m) := by
  unfold impl_setOf.f
  have key : ∀ (n i : Nat) (acc : List Int), i + n = 16 → acc.length ≤ i → Ev (fun k => impl_setOf.l0 k (m : Int) acc (i : Int)) (acc ++ bitsL m i n) := by
    intro n
    induction n with
    | zero =>
      intro i acc hi ha
      refine ev_succ ?_
      simp only [impl_setOf.l0, shr_nat m i (by omega)]
      refine ev_pos (by omega) (ev_neg ?_ (ev_eqv (Ev.now acc) (by simp [bitsL])))
      rw [show i = 16 by omega, Nat.shiftRight_eq_div_pow, Nat.div_eq_of_lt hm]; decide
    | succ n ih =>
      intro i acc hi ha
      refine ev_succ ?_
      simp only [impl_setOf.l0, shr_nat m i (by omega), and_one_nat _ (shr_lt m i (by omega))]
      refine ev_pos (by omega) ?_
      by_cases h0 : m >>> i = 0
      · exact ev_neg (by rw [h0]; decide) (ev_eqv (Ev.now acc) (by rw [bitsL_zero m i _ h0]; simp))
      · refine ev_pos (Int.ofNat_lt.2 (Nat.pos_of_ne_zero h0)) ?_
        rw [wrap_succ (n := 16) (by omega) (by decide), bitsL]
        by_cases h1 : m >>> i % 2 = 1
        · refine ev_pos (by omega) (ev_pos (by omega) (ev_eqv (ih (i + 1) (acc ++ [(i : Int)]) (by omega) (by simp; omega)) ?_))
          rw [if_pos h1]; simp
        · refine ev_neg (by omega) (ev_eqv (ih (i + 1) acc (by omega) (by omega)) ?_)
          rw [if_neg h1]
  exact key 16 0 [] (by omega) (by simp)
theorem toIntS_ev (l : List Int) (hl : l.length ≤ 1152921504606) : Ev (fun k => laws_toIntS.f k l) l := by
  unfold laws_toIntS.f
  refine ev_pos (by omega) (ev_pos (by omega) ?_)
  rw [Int.toNat_natCast]
  have key : ∀ (d i : Nat), i + d = l.length → Ev (fun k => laws_toIntS.l0 k l (l.take i ++ List.replicate (l.length - i) 0) (i : Int)) l := by
    intro d
    induction d with
    | zero =>
      intro i hi
      refine ev_succ ?_
      simp only [laws_toIntS.l0]
      refine ev_neg (by omega) (ev_eqv (Ev.now _) ?_)
      rw [show i = l.length by omega]; simp
    | succ d ih =>
      intro i hi
      have h1 : i < l.length := by omega
      refine ev_succ ?_
      simp only [laws_toIntS.l0]
      refine ev_pos (by omega) (ev_pos (by omega) (ev_pos (by rw [List.length_append, List.length_take, List.length_replicate]; omega) ?_))
      rw [wrap_succ h1 (by omega), Int.toNat_natCast, rd_get h1]
      have e : (l.take i ++ List.replicate (l.length - i) 0).set i l[i] = l.take (i + 1) ++ List.replicate (l.length - (i + 1)) 0 := by
        rw [List.set_append_right _ _ (by rw [List.length_take]; omega), List.length_take, Nat.min_eq_left (by omega), Nat.sub_self, show l.length - i = (l.length - (i + 1)) + 1 by omega, List.replicate_succ, List.set_cons_zero, List.take_succ_eq_append_getElem h1, List.append_assoc]
        rfl
      rw [e]
      exact ih (i + 1) (by omega)
  exact key l.length 0 (by omega)
def maskN (m : Nat) : List Int → Nat
  | [] => m
  | x :: l => maskN (m ||| 2 ^ x.toNat) l
theorem maskOf_ev (l : List Int) (hl : l.length ≤ 1152921504606) (h : ∀ x ∈ l, 0 ≤ x ∧ x ≤ 15) : Ev (fun k => impl_maskOf.f k l) (maskN 0 l : Int) ∧ Ev (fun k => spec_voBits.f k l) (maskN 0 l : Int) := by
  unfold impl_maskOf.f spec_voBits.f
  have key : ∀ (d i m : Nat), i + d = l.length → m < 65536 → Ev (fun k => impl_maskOf.l0 k (m : Int) l (l.length : Int) (i : Int)) (maskN m (l.drop i) : Int) ∧ Ev (fun k => spec_voBits.l0 k (m : Int) l (l.length : Int) (i : Int)) (maskN m (l.drop i) : Int) := by
    intro d
    induction d with
    | zero =>
      intro i m hi hm
      refine ⟨ev_succ ?_, ev_succ ?_⟩
      all_goals
        simp only [impl_maskOf.l0, spec_voBits.l0]
        refine ev_neg (by omega) (ev_eqv (Ev.now _) ?_)
        rw [List.drop_of_length_le (by omega)]; rfl
    | succ d ih =>
      intro i m hi hm
      have h1 : i < l.length := by omega
      have hx := h l[i] (List.getElem_mem h1)
      obtain ⟨q, hq⟩ := Int.eq_ofNat_of_zero_le hx.1
      have hq16 : q ≤ 15 := by omega
      have hp : 2 ^ q < 65536 := Nat.pow_lt_pow_right (n := 16) (by decide) (by omega)
      have ih' := ih (i + 1) (m ||| 2 ^ q) (by omega) (Nat.or_lt_two_pow (n := 16) hm hp)
      rw [List.drop_eq_getElem_cons h1, maskN, hq, Int.toNat_natCast]
      refine ⟨ev_succ ?_, ev_succ ?_⟩
      all_goals
        simp only [impl_maskOf.l0, spec_voBits.l0]
        refine ev_pos (by omega) (ev_pos (by omega) (ev_pos (by omega) (ev_pos (by rw [rd_get h1]; omega) ?_)))
        rw [rd_get h1, hq, shl_one_nat q (by omega), or_nat m (2 ^ q) (by omega) (by omega), wrap_succ h1 (by omega)]
      · exact ih'.1
      · exact ih'.2
  exact key l.length 0 0 (by omega) (by decide)
def incFrom : Option Int → List Int → Bool
  | _, [] => true
  | p, x :: l => (match p with | none => true | some y => decide (y < x)) && incFrom (some x) l
def incB (l : List Int) : Bool := incFrom none l
def isSetB (l : List Int) (n : Int) : Bool := l.all (inB · 0 (n - 1)) && incB l
def prev (l : List Int) : Nat → Option Int
  | 0 => none
  | i + 1 => l[i]?
theorem isIncreasing_ev (l : List Int) (hl : l.length ≤ 1152921504606) : Ev (fun k => impl_isIncreasing.f k l) (incB l) := by
  unfold impl_isIncreasing.f
  have key : ∀ (d i : Nat), i + d = l.length → Ev (fun k => impl_isIncreasing.l0 k l (l.length : Int) (i : Int)) (incFrom (prev l i) (l.drop i)) := by
    intro d
    induction d with
    | zero =>
      intro i hi
      refine ev_succ ?_
      simp only [impl_isIncreasing.l0]
      refine ev_neg (by omega) (ev_eqv (Ev.now _) ?_)
      rw [List.drop_of_length_le (by omega)]; rfl
    | succ d ih =>
      intro i hi
      have h1 : i < l.length := by omega
      have ih' := ih (i + 1) (by omega)
      have hp : prev l (i + 1) = some l[i] := by rw [prev, List.getElem?_eq_getElem h1]
      rw [hp] at ih'
      refine ev_succ ?_
      simp only [impl_isIncreasing.l0]
      refine ev_pos (by omega) ?_
      rw [wrap_succ h1 (by omega), List.drop_eq_getElem_cons h1]
      cases i with
      | zero => exact ev_neg (by omega) (ev_eqv ih' (by simp [incFrom, prev]))
      | succ i =>
        have h2 : i < l.length := by omega
        rw [wrap_pred h2 (by omega), rd_get h1, rd_get h2]
        refine ev_pos (by omega) (ev_pos (by omega) (ev_pos (by omega) (ev_pos (by omega) (ev_pos (by omega) ?_))))
        have e : prev l (i + 1) = some l[i] := by rw [prev, List.getElem?_eq_getElem h2]
        rw [e, incFrom]
        by_cases c : l[i + 1] ≤ l[i]
        · exact ev_pos c (ev_eqv (Ev.now _) (by rw [decide_eq_false (by omega)]; rfl))
        · exact ev_neg c (ev_eqv ih' (by rw [decide_eq_true (by omega)]; rfl))
  exact key l.length 0 (by omega)
theorem l1Rising_ev (l : List Int) (lo hi : Int) (hl : l.length ≤ 1152921504606) : Ev (fun k => spec_l1Rising.f k l lo hi) (l.all (inB · lo hi) && incB l) := by
  unfold spec_l1Rising.f
  have key : ∀ (d i : Nat), i + d = l.length → Ev (fun k => spec_l1Rising.l0 k l lo hi l (l.length : Int) (i : Int)) ((l.drop i).all (inB · lo hi) && incFrom (prev l i) (l.drop i)) := by
    intro d
    induction d with
    | zero =>
      intro i hi
      refine ev_succ ?_
      simp only [spec_l1Rising.l0]
      refine ev_neg (by omega) (ev_eqv (Ev.now _) ?_)
      rw [List.drop_of_length_le (by omega)]; rfl
    | succ d ih =>
      intro i hi
      have h1 : i < l.length := by omega
      have ih' := ih (i + 1) (by omega)
      have hp : prev l (i + 1) = some l[i] := by rw [prev, List.getElem?_eq_getElem h1]
      rw [hp] at ih'
      refine ev_succ ?_
      simp only [spec_l1Rising.l0, l1In_eq, Option.bind_some]
      refine ev_pos (by omega) (ev_pos (by omega) (ev_pos (by omega) ?_))
      rw [wrap_succ h1 (by omega), List.drop_eq_getElem_cons h1, rd_get h1, List.all_cons]
      refine ev_bool (fun hb => ?_) (fun hb => ev_eqv (Ev.now _) (by rw [hb]; rfl))
      rw [hb]
      cases i with
      | zero => exact ev_neg (by omega) (ev_eqv ih' (by simp [incFrom, prev]))
      | succ i =>
        have h2 : i < l.length := by omega
        rw [wrap_pred h2 (by omega), rd_get h2]
        refine ev_pos (by omega) (ev_pos (by omega) (ev_pos (by omega) ?_))
        have e : prev l (i + 1) = some l[i] := by rw [prev, List.getElem?_eq_getElem h2]
        rw [e, incFrom]
        by_cases c : l[i] ≥ l[i + 1]
        · exact ev_pos c (ev_eqv (Ev.now _) (by rw [decide_eq_false (by omega)]; simp))
        · exact ev_neg c (ev_eqv ih' (by rw [decide_eq_true (by omega)]; rfl))
  exact key l.length 0 (by omega)
theorem any_not_all {α : Type} (l : List α) (p : α → Bool) : (!l.any fun x => !p x) = l.all p := by
  induction l with
  | nil => rfl
  | cons x l ih => rw [List.any_cons, List.all_cons, ← ih]; cases p x <;> simp
theorem areIn_eq (l : List Int) (lo hi : Int) : impl_areIn.f l lo hi = some (l.all (inB · lo hi)) := by
  unfold impl_areIn.f
  rw [anyO_some (q := fun x => !inB x lo hi) (fun x _ => by unfold impl_areIn_1.f; rw [within_eq]; rfl)]
  rw [Option.bind_some, any_not_all]
theorem isSet_ev (l : List Int) (n : Int) (hn : -1000000 ≤ n ∧ n ≤ 1000000) (hl : l.length ≤ 1152921504606) : Ev (fun k => impl_isSet.f k l n) (isSetB l n) := by
  unfold impl_isSet.f isSetB
  rw [wrap64_id (by omega)]
  simp only [areIn_eq, Option.bind_some]
  refine ev_bool (fun hb => ?_) (fun hb => ev_eqv (Ev.now _) (by rw [hb]; rfl))
  rw [hb]
  exact Ev.bind (isIncreasing_ev l hl) (Ev.now _)
theorem voSet_ev (l : List Int) (n : Int) (hn : -1000000 ≤ n ∧ n ≤ 1000000) (hl : l.length ≤ 1152921504606) : Ev (fun k => spec_voSet.f k n l) (isSetB l n) := by
  unfold spec_voSet.f isSetB
  rw [wrap64_id (by omega)]
  exact Ev.bind (l1Rising_ev l 0 (n - 1) hl) (Ev.now _)
theorem isSetB_mem {l : List Int} {n : Int} (h : isSetB l n = true) : ∀ x ∈ l, 0 ≤ x ∧ x ≤ n - 1 := by
  intro x hx
  unfold isSetB at h
  rw [Bool.and_eq_true, List.all_eq_true] at h
  exact inB_iff.1 (h.1 x hx)
theorem ev_anyO {α : Type} (p : Nat → α → Option Bool) (q : α → Bool) : ∀ l : List α, (∀ x ∈ l, Ev (fun k => p k x) (q x)) → Ev (fun k => anyO (p k) l) (l.any q)
  | [], _ => Ev.now _
  | x :: xs, h => by
    simp only [anyO, List.any_cons]
    refine Ev.bind (h x (List.mem_cons_self ..)) (ev_bool (fun e => ?_) (fun e => ?_))
    · rw [e]; exact Ev.now _
    · rw [e]; exact ev_anyO p q xs (fun y hy => h y (List.mem_cons_of_mem _ hy))
def allR (P : Nat → Bool) (n i : Nat) : Bool := ((List.range n).drop i).all P
theorem allR_end (P : Nat → Bool) (n : Nat) : allR P n n = true := by
  unfold allR
  rw [List.drop_of_length_le (by simp)]; rfl
theorem allR_step (P : Nat → Bool) (n i : Nat) (h : i < n) : allR P n i = (P i && allR P n (i + 1)) := by
  unfold allR
  rw [all_drop P (List.range n) i (by simpa using h), List.getElem_range]
theorem allR_iff (P : Nat → Bool) (n : Nat) : allR P n 0 = true ↔ ∀ i, i < n → P i = true := by
  unfold allR
  rw [List.drop_zero, List.all_eq_true]
  exact ⟨fun h i hi => h i (List.mem_range.2 hi), fun h i hi => h i (List.mem_range.1 hi)⟩
def mk (l : List (List Int)) (i : Nat) : Nat := maskN 0 (l.getD i [])
def rises (l : List (List Int)) (i : Nat) : Bool := decide (i = 0) || lexB (l.getD (i - 1) []) (l.getD i [])
def apartS (l : List (List Int)) (i : Nat) : Bool := allR (fun h => !(mk l i &&& mk l h == mk l i) && !(mk l i &&& mk l h == mk l h)) i 0
def apartI (l : List (List Int)) (i : Nat) : Bool := allR (fun h => decide (h = i) || !(mk l i &&& mk l h == mk l h)) l.length 0
theorem maskN_lt2 (n : Nat) (l : List Int) : ∀ m, m < 2 ^ n → (∀ x ∈ l, 0 ≤ x ∧ x ≤ (n : Int) - 1) → maskN m l < 2 ^ n := by
  induction l with
  | nil => intro m hm _; exact hm
  | cons x l ih =>
    intro m hm h
    refine ih _ ?_ (fun y hy => h y (List.mem_cons_of_mem _ hy))
    have hx := h x (List.mem_cons_self ..)
    exact Nat.or_lt_two_pow hm (Nat.pow_lt_pow_right (by decide) (by omega))
def SetsOk (m : Int) (l : List (List Int)) : Prop := (1 ≤ m ∧ m ≤ 9) ∧ ∀ x ∈ l, isSetB x m = true ∧ x.length ≤ 1048576
theorem SetsOk.elem {m : Int} {l : List (List Int)} (h : SetsOk m l) {x : List Int} (hx : x ∈ l) : ∀ y ∈ x, 0 ≤ y ∧ y ≤ (9 : Nat) - 1 := fun y hy => by
  have := isSetB_mem (h.2 x hx).1 y hy
  have := h.1
  omega
theorem SetsOk.lt {m : Int} {l : List (List Int)} (h : SetsOk m l) {i : Nat} (hi : i < l.length) : mk l i < 512 := by
  unfold mk
  rw [getD_get hi]
  exact maskN_lt2 9 _ 0 (by decide) (h.elem (List.getElem_mem hi))
theorem SetsOk.masks {m : Int} {l : List (List Int)} (h : SetsOk m l) {i : Nat} (hi : i < l.length) : Ev (fun k => impl_maskOf.f k l[i]) (mk l i : Int) ∧ Ev (fun k => spec_voBits.f k l[i]) (mk l i : Int) := by
  have hx := List.getElem_mem hi
  have := maskOf_ev l[i] (Nat.le_trans (h.2 _ hx).2 (by decide)) (fun y hy => by have := h.elem hx y hy; omega)
  unfold mk
  rw [getD_get hi]
  exact this
theorem and_eq_nat {a b c : Nat} (ha : a < 512) (hb : b < 512) : (Go.bits .and .i64 (a : Int) (b : Int) = (c : Int)) ↔ ((a &&& b == c) = true) := by
  rw [and_nat a b (by omega) (by omega), beq_iff_eq]
  omega
theorem wrap_pred2 {i : Nat} (h : i < 1152921504606846976) (h0 : 0 < i) : wrap64 ((i : Int) - 1) = ((i - 1 : Nat) : Int) := by unfold wrap64; omega
def gmOk (m : Int) (l : List (List Int)) : Bool := inB m 1 9 && (decide (l ≠ []) && ((l.all fun s => decide (s ≠ []) && isSetB s m) && allR (fun i => rises l i && apartI l i) l.length 0))
theorem SetsOk.of {m : Int} {l : List (List Int)} (hm : inB m 1 9 = true) (hs : (l.all fun s => decide (s ≠ []) && isSetB s m) = true) (hb : ∀ x ∈ l, x.length ≤ 1048576) : SetsOk m l := by
  refine ⟨inB_iff.1 hm, fun x hx => ⟨?_, hb x hx⟩⟩
  have := List.all_eq_true.1 hs x hx
  rw [Bool.and_eq_true] at this
  exact this.2
theorem rdOf_get {xs : List Bool} {i : Nat} (h : i < xs.length) : rdOf false xs (i : Int) = xs[i] := by unfold rdOf; rw [Int.toNat_natCast]; exact getD_get h
def tabB (g : Nat → Bool) (n : Nat) : List Bool := (List.range n).map g
theorem tabB_len (g : Nat → Bool) (n : Nat) : (tabB g n).length = n := by simp [tabB]
theorem tabB_get (g : Nat → Bool) (n i : Nat) (h : i < (tabB g n).length) : (tabB g n)[i] = g i := by simp [tabB]
theorem tabB_succ (g : Nat → Bool) (n : Nat) : tabB g (n + 1) = tabB g n ++ [g n] := by simp [tabB, List.range_succ]
theorem tabB_set (g : Nat → Bool) (i : Nat) (b b' : Bool) (l : List Bool) : (tabB g i ++ b :: l).set i b' = tabB g i ++ b' :: l := by
  rw [List.set_append_right _ _ (by rw [tabB_len]; omega), tabB_len, Nat.sub_self]; rfl
theorem tabB_rd (g : Nat → Bool) (i : Nat) (b : Bool) (l : List Bool) : rdOf false (tabB g i ++ b :: l) (i : Int) = b := by
  rw [rdOf_get (by rw [List.length_append, tabB_len, List.length_cons]; omega), List.getElem_append_right (by rw [tabB_len]; omega)]
  simp [tabB_len]
theorem tabB_next (g : Nat → Bool) (i : Nat) (l : List Bool) : tabB g i ++ g i :: l = tabB g (i + 1) ++ l := by rw [tabB_succ, List.append_assoc]; rfl
def winB (l : List (List Int)) (i : Nat) : Bool := l.any fun s => i &&& maskN 0 s == maskN 0 s
def winT (m : Int) (l : List (List Int)) : List Bool := tabB (winB l) (2 ^ m.toNat)
theorem and_self_nat {a b : Nat} (ha : a < 512) (hb : b < 512) : (Go.bits .and .i64 (a : Int) (b : Int) == (b : Int)) = (a &&& b == b) := by
  rw [Bool.eq_iff_iff, ← and_eq_nat ha hb, beq_iff_eq]
theorem pow_le512 {m : Int} (h : 1 ≤ m ∧ m ≤ 9) : 2 ^ m.toNat ≤ 512 := Nat.pow_le_pow_right (n := 2) (by decide) (show m.toNat ≤ 9 by omega)
theorem voAll_nat {m : Int} (h : 1 ≤ m ∧ m ≤ 9) : spec_voAll.f m = some (((2 ^ m.toNat - 1 : Nat) : Int)) := by
  rw [voAll_eq m (by omega)]
  have : 1 ≤ 2 ^ m.toNat := Nat.one_le_two_pow
  congr 1
  rw [Int.ofNat_sub this]; simp
theorem gmWins_l1 (n i : Nat) (m : Int) (l : List (List Int)) (hl : l.length ≤ 1048576) (h : SetsOk m l) (hi : i < n) (hn : n ≤ 512) (r : List Bool) (ih : Ev (fun k => spec_gmWins.l0 k l (tabB (winB l) (i + 1) ++ List.replicate (n - (i + 1)) false) (n : Int) ((i + 1 : Nat) : Int)) r) :
    ∀ j, j ≤ l.length → Ev (fun k => spec_gmWins.l1 k l (tabB (winB l) i ++ ((l.take j).any fun s => i &&& maskN 0 s == maskN 0 s) :: List.replicate (n - (i + 1)) false) (i : Int) (n : Int) (i : Int) l (l.length : Int) (j : Int)) r := by
  have hlen : ∀ b : Bool, (tabB (winB l) i ++ b :: List.replicate (n - (i + 1)) false).length = n := fun b => by rw [List.length_append, tabB_len, List.length_cons, List.length_replicate]; omega
  refine ev_range l.length (fun k j => spec_gmWins.l1 k l (tabB (winB l) i ++ ((l.take j).any fun s => i &&& maskN 0 s == maskN 0 s) :: List.replicate (n - (i + 1)) false) (i : Int) (n : Int) (i : Int) l (l.length : Int) (j : Int)) (fun _ => r) ?_ ?_
  · refine ev_succ ?_
    simp only [spec_gmWins.l1]
    refine ev_neg (Int.lt_irrefl _) ?_
    rw [List.take_length, wrap_succ hi (Nat.le_trans hn (by decide))]
    have e : (l.any fun s => i &&& maskN 0 s == maskN 0 s) = winB l i := by unfold winB; rfl
    rw [e, tabB_next]
    exact ih
  · intro j hj ihj
    refine ev_succ ?_
    simp only [spec_gmWins.l1]
    refine ev_pos (by omega) (ev_pos (by omega) (ev_pos (by omega) ?_))
    rw [rdL1_get hj, wrap_succ hj (Nat.le_trans hl (by decide))]
    have hm := (h.masks hj).2
    have hk : mk l j = maskN 0 l[j] := by unfold mk; rw [getD_get hj]
    have hlt := h.lt hj
    rw [hk] at hm hlt
    refine Ev.bind hm (ev_pos (by omega) (ev_pos (by rw [hlen]; omega) ?_))
    rw [tabB_rd, Int.toNat_natCast, tabB_set, tabB_set, and_self_nat (by omega) hlt]
    rw [List.take_succ_eq_append_getElem hj, List.any_append] at ihj
    simp only [List.any_cons, List.any_nil, Bool.or_false] at ihj
    refine ev_bool (fun e => ?_) (fun e => ?_)
    · rw [e, Bool.true_or] at ihj; exact ihj
    · rw [e, Bool.false_or] at ihj; exact ihj
theorem gmWins_l0 (n : Nat) (m : Int) (l : List (List Int)) (hl : l.length ≤ 1048576) (h : SetsOk m l) (hn : n ≤ 512) :
    Ev (fun k => spec_gmWins.l0 k l (List.replicate n false) (n : Int) 0) (tabB (winB l) n) := by
  have := ev_range n (fun k i => spec_gmWins.l0 k l (tabB (winB l) i ++ List.replicate (n - i) false) (n : Int) (i : Int)) (fun _ => tabB (winB l) n) ?_ ?_ 0 (Nat.zero_le _)
  · simpa [tabB] using this
  · refine ev_succ ?_
    simp only [spec_gmWins.l0]
    exact ev_neg (Int.lt_irrefl _) (ev_eqv (Ev.now _) (by simp))
  · intro i hi ih
    refine ev_succ ?_
    simp only [spec_gmWins.l0]
    refine ev_pos (by omega) ?_
    have := gmWins_l1 n i m l hl h hi hn _ ih 0 (Nat.zero_le _)
    rw [show n - i = (n - (i + 1)) + 1 by omega, List.replicate_succ]
    simpa using this
theorem gmWins_ev (m : Int) (l : List (List Int)) (hl : l.length ≤ 1048576) (h : SetsOk m l) : Ev (fun k => spec_gmWins.f k m l) (winT m l) := by
  have hp := pow_le512 h.1
  have h1 : 1 ≤ 2 ^ m.toNat := Nat.one_le_two_pow
  have hw : wrap64 (((2 ^ m.toNat - 1 : Nat) : Int) + 1) = ((2 ^ m.toNat : Nat) : Int) := by
    generalize 2 ^ m.toNat = n at hp h1
    unfold wrap64; omega
  have hl0 := gmWins_l0 (2 ^ m.toNat) m l hl h hp
  unfold spec_gmWins.f winT
  refine ev_bindS (voAll_nat h.1) ?_
  generalize 2 ^ m.toNat = n at *
  rw [hw]
  have hn2 : (n : Int).toNat ≤ 281474976710656 := by rw [Int.toNat_natCast]; exact Nat.le_trans hp (by decide)
  refine ev_pos (Int.natCast_nonneg n) (ev_pos hn2 (ev_bindS rfl ?_))
  simp only [Int.toNat_natCast, List.length_replicate]
  exact hl0
theorem andNot_nat (a b : Nat) (ha : a < 2 ^ 62) (hb : b < 2 ^ 62) : Go.bits .andNot .i64 (a : Int) (b : Int) = ((a ^^^ (a &&& b) : Nat) : Int) := by
  have ha' : a % 2 ^ 64 = a := Nat.mod_eq_of_lt (by omega)
  have hb' : b % 2 ^ 64 = b := Nat.mod_eq_of_lt (by omega)
  have e : a &&& (2 ^ 64 - (b + 1)) = a ^^^ (a &&& b) := by
    refine Nat.eq_of_testBit_eq fun i => ?_
    rw [Nat.testBit_and, Nat.testBit_xor, Nat.testBit_and, Nat.testBit_two_pow_sub_succ (by omega)]
    by_cases hi : i < 64
    · cases a.testBit i <;> cases b.testBit i <;> simp [hi]
    · have : a.testBit i = false := Nat.testBit_lt_two_pow (Nat.lt_of_lt_of_le (show a < 2 ^ 64 by omega) (Nat.pow_le_pow_right (by decide) (by omega)))
      simp [this]
  have h : Go.bits .andNot .i64 (a : Int) (b : Int) = IntKind.i64.wrap ((a &&& (2 ^ 64 - 1 - b % 2 ^ 64) : Nat) : Int) := by
    show IntKind.i64.wrap ((BitVec.ofInt 64 (a : Int) &&& ~~~ (BitVec.ofInt 64 (b : Int))).toNat : Int) = _
    rw [BitVec.ofInt_natCast, BitVec.ofInt_natCast, BitVec.toNat_and, BitVec.toNat_not, BitVec.toNat_ofNat, BitVec.toNat_ofNat, ha']
  rw [h, hb', show 2 ^ 64 - 1 - b = 2 ^ 64 - (b + 1) by omega, e]
  have : a ^^^ (a &&& b) < 2 ^ 62 := Nat.xor_lt_two_pow ha (Nat.and_lt_two_pow _ hb)
  exact wraps_i64 _ (by omega) (by exact_mod_cast this)
def bitB (m i : Nat) : Bool := m >>> i % 2 == 1
theorem has_eq (m i : Nat) (hm : m < 65536) (hi : i ≤ 64) : impl_has.f (m : Int) (i : Int) = some (bitB m i) := by
  unfold impl_has.f bitB
  have h2 : m >>> i < 2 ^ 62 := shr_lt _ _ (by omega)
  rw [if_pos (by omega), shr_nat _ _ hi, and_one_nat _ h2]
  congr 1
  rw [Bool.eq_iff_iff, beq_iff_eq, beq_iff_eq]
  omega
theorem tmod_bit (m i : Nat) (hi : i ≤ 64) : Int.tmod (shr .i64 (m : Int) (i : Int)) 2 = 0 ↔ bitB m i = false := by
  rw [shr_nat _ _ hi, tmod_two]
  unfold bitB
  rw [beq_eq_false_iff_ne]
  omega
theorem tmod_bit1 (m i : Nat) (hi : i ≤ 64) : Int.tmod (shr .i64 (m : Int) (i : Int)) 2 = 1 ↔ bitB m i = true := by
  rw [shr_nat _ _ hi, tmod_two]
  unfold bitB
  rw [beq_iff_eq]
  omega
theorem fin512 {P : Nat → Nat → Prop} [∀ m i, Decidable (P m i)] (h : ((List.range 512).all fun m => (List.range 9).all fun i => decide (P m i)) = true) : ∀ m i, m < 512 → i < 9 → P m i := fun m i hm hi =>
  of_decide_eq_true (List.all_eq_true.1 (List.all_eq_true.1 h m (List.mem_range.2 hm)) i (List.mem_range.2 hi))
theorem or_bit : ∀ m i, m < 512 → i < 9 → m ||| 2 ^ i = if bitB m i = true then m else m + 2 ^ i := fin512 (by decide +kernel)
theorem rdOf_tab {g : Nat → Bool} {N i : Nat} (h : i < N) : rdOf false (tabB g N) (i : Int) = g i := by
  rw [rdOf_get (by rw [tabB_len]; exact h), tabB_get]
theorem pow_lt9 {i n : Nat} (h : i < n) (hn : n ≤ 9) : 2 ^ i < 2 ^ n ∧ 2 ^ n ≤ 512 :=
  ⟨Nat.pow_lt_pow_right (by decide) h, Nat.pow_le_pow_right (n := 2) (by decide) hn⟩
def setK (m : Nat) : List Int := ((List.range 4).filter fun i => m >>> i % 2 == 1).map fun (i : Nat) => (i : Int)
def lookT : Nat → List Bool → Option (List (List Bool))
  | 0, p => some (if rdOf false p ((p.length - 1 : Nat) : Int) = false then [] else if rdOf false p 0 = true then [] else [p])
  | d + 1, p => (mustO p (setK p.length) false).bind fun m => (lookT d (p ++ [true])).bind fun l1 => if m = true then some l1 else (lookT d (p ++ [false])).bind fun l2 => some (l1 ++ l2)
def tabsK (n : Nat) : List (List Bool) := (lookT (2 ^ n) []).getD []
def leastK (t : List Bool) : List (List Int) := sortL lexB (((List.range t.length).filter fun m => t.getD m false && (List.range 4).all fun i => !(m >>> i % 2 == 1 && t.getD (m - 2 ^ i) false)).map setK)
def gamesK (n : Nat) : List (List (List Int)) := sortL lexG ((tabsK n).map leastK)
theorem voList_K : ∀ m : Nat, m < 16 → spec_voList.f 40 (m : Int) = some (setK m) := by decide +kernel
theorem look_K : ∀ n, n < 5 → (lookT (2 ^ n) []).isSome = true := by decide +kernel
theorem gmOf_K : ∀ n : Nat, n < 5 → 1 ≤ n → ∀ t ∈ tabsK n, (spec_gmOf.f 100 n t) = some ((n : Int), leastK t) := by decide +kernel
theorem win_K : ∀ n : Nat, n < 5 → 1 ≤ n → ∀ t ∈ tabsK n, winT n (leastK t) = t := by decide +kernel
theorem games_K1 : (impl_allGames.f 1200 1).map (·.map fun g => (g.f0, g.f1)) = some ((gamesK 1).map fun s => (1, s)) := by decide +kernel
theorem games_K2 : (impl_allGames.f 1200 2).map (·.map fun g => (g.f0, g.f1)) = some ((gamesK 2).map fun s => (2, s)) := by decide +kernel
theorem games_K3 : (impl_allGames.f 1200 3).map (·.map fun g => (g.f0, g.f1)) = some ((gamesK 3).map fun s => (3, s)) := by decide +kernel
theorem games_K4 : (impl_allGames.f 1200 4).map (·.map fun g => (g.f0, g.f1)) = some ((gamesK 4).map fun s => (4, s)) := by decide +kernel
theorem len_K : ∀ n : Nat, n < 5 → 1 ≤ n → ((tabsK n).length ≤ 1000000 ∧ ∀ t ∈ tabsK n, t.length = 2 ^ n) := by decide +kernel
theorem sets_K : ∀ n : Nat, n < 5 → 1 ≤ n → ∀ t ∈ tabsK n, (leastK t).length ≤ 16 ∧ ∀ s ∈ leastK t, isSetB s n = true ∧ s.length ≤ 16 := by decide +kernel
theorem games_K : ∀ n : Nat, n < 5 → 1 ≤ n → (impl_allGames.f 1200 n).map (·.map fun g => (g.f0, g.f1)) = some ((gamesK n).map fun s => ((n : Int), s))
  | 1, _, _ => games_K1
  | 2, _, _ => games_K2
  | 3, _, _ => games_K3
  | 4, _, _ => games_K4
  | n + 5, h, _ => absurd h (by omega)
  | 0, _, h => absurd h (by decide)
def setsM (q : Nat → Bool) (N : Nat) : List (List Int) := ((List.range N).filter q).map setL
theorem setsM_len (q : Nat → Bool) (N : Nat) : (setsM q N).length ≤ N := by unfold setsM; rw [List.length_map]; exact Nat.le_trans (List.length_filter_le _ _) (by simp)
theorem setsM_mem {q : Nat → Bool} {N : Nat} {x : List Int} (h : x ∈ setsM q N) : x.length ≤ 16 := by
  obtain ⟨m, _, rfl⟩ := List.mem_map.1 h
  exact bitsL_len _ _ _
theorem setsM_succ (q : Nat → Bool) (i : Nat) : setsM q (i + 1) = setsM q i ++ if q i = true then [setL i] else [] := by
  unfold setsM
  rw [List.range_succ, List.filter_append, List.map_append]
  congr 1
  by_cases h : q i = true
  · rw [if_pos h, List.filter_cons_of_pos h]; rfl
  · rw [if_neg h, List.filter_cons_of_neg h]; rfl
theorem sets_fix (n : Int) (l : List Bool) (N : Nat) (hN : l.length = N) (hN2 : N ≤ 512) (p : Int → Option Bool) (q : Nat → Bool) (h : ∀ m, m < N → p (m : Int) = some (q m)) : Ev (fun k => impl_votes_sets.f k n l p) (sortL lexB (setsM q N)) := by
  unfold impl_votes_sets.f
  rw [hN]
  refine ev_range N (fun k i => impl_votes_sets.l0 p k (setsM q i) (N : Int) (i : Int)) (fun _ => sortL lexB (setsM q N)) ?_ ?_ 0 (Nat.zero_le _)
  · refine ev_succ ?_
    simp only [impl_votes_sets.l0]
    refine ev_neg (by omega) (ev_bindS (show sortSets.f (setsM q N) = some (sortL lexB (setsM q N)) by
      unfold sortSets.f
      rw [if_pos]
      rw [Bool.and_eq_true]
      exact ⟨decide_eq_true (by have := setsM_len q N; omega), List.all_eq_true.2 fun x hx => decide_eq_true (Nat.le_trans (setsM_mem hx) (by decide))⟩) (Ev.now _))
  · intro i hi ih
    refine ev_succ ?_
    simp only [impl_votes_sets.l0]
    rw [wrap_succ hi (by omega)]
    rw [setsM_succ] at ih
    refine ev_pos (by omega) (ev_bindS (h i hi) (ev_bool (fun e => ?_) (fun e => ?_)))
    · rw [if_pos e] at ih
      exact Ev.bind (setOf_ev i (by omega)) (ev_pos (by have := setsM_len q i; omega) ih)
    · rw [if_neg (by rw [e]; decide), List.append_nil] at ih
      exact ih
def aN (a b : Nat) : Nat := a ^^^ (a &&& b)
def wOf (s t u : Nat) : Nat := (s &&& t) ||| aN (s ||| t) u
def betw (s t u : Nat) : Bool := u &&& (s &&& t) == s &&& t && aN u (s ||| t) == 0
theorem setL_mask_K : ((List.range 512).all fun m => maskN 0 (setL m) == m) = true := by decide +kernel
def ordL (N : Nat) : List Nat := (sortL lexB (setsM (fun _ => true) N)).map (maskN 0)
theorem setL_in_K : ((List.range 512).all fun m => (setL m).all fun x => decide (0 ≤ x ∧ x ≤ 15)) = true := by decide +kernel
theorem setL_mask (m : Nat) (hm : m < 512) : maskN 0 (setL m) = m := by
  have := List.all_eq_true.1 setL_mask_K m (List.mem_range.2 hm)
  simpa using this
theorem ordL_perm (N : Nat) (hN : N ≤ 512) : (ordL N).Perm (List.range N) := by
  unfold ordL
  refine ((sortL_perm lexB _).map (maskN 0)).trans ?_
  unfold setsM
  rw [List.filter_eq_self.2 (fun _ _ => rfl), List.map_map, show (List.range N).map (maskN 0 ∘ setL) = (List.range N).map id from List.map_congr_left fun m hm => setL_mask m (by have := List.mem_range.1 hm; omega), List.map_id]
theorem ordL_len (N : Nat) (hN : N ≤ 512) : (ordL N).length = N := by rw [(ordL_perm N hN).length_eq, List.length_range]
theorem ordL_lt (N : Nat) (hN : N ≤ 512) {x : Nat} (h : x ∈ ordL N) : x < N := List.mem_range.1 ((ordL_perm N hN).mem_iff.1 h)
def cI (l : List Nat) : List Int := l.map fun (m : Nat) => (m : Int)
theorem cI_len (l : List Nat) : (cI l).length = l.length := by unfold cI; rw [List.length_map]
theorem rd_cI {l : List Nat} {i : Nat} (h : i < l.length) : rd (cI l) (i : Int) = (l[i] : Int) := by
  rw [rd_get (by rw [cI_len]; exact h)]
  unfold cI
  rw [List.getElem_map]
theorem ordered_ev (g : Nat → Bool) (n : Nat) (hn : n ≤ 9) : Ev (fun k => impl_votes_ordered.f k (n : Int) (tabB g (2 ^ n))) (cI (ordL (2 ^ n))) := by
  have hN : 2 ^ n ≤ 512 := Nat.pow_le_pow_right (by decide) hn
  unfold impl_votes_ordered.f setsAll.f
  refine Ev.bind (sets_fix (n : Int) (tabB g (2 ^ n)) (2 ^ n) (tabB_len _ _) hN (fun _ => some true) (fun _ => true) (fun _ _ => rfl)) ?_
  have hp := sortL_perm lexB (setsM (fun _ => true) (2 ^ n))
  have hin : ∀ x ∈ sortL lexB (setsM (fun _ => true) (2 ^ n)), x.length ≤ 16 ∧ ∀ y ∈ x, 0 ≤ y ∧ y ≤ 15 := by
    intro x hx
    obtain ⟨m, hm, rfl⟩ := List.mem_map.1 (hp.mem_iff.1 hx)
    have hm2 := List.mem_range.1 (List.mem_filter.1 hm).1
    refine ⟨bitsL_len _ _ _, fun y hy => ?_⟩
    exact of_decide_eq_true (List.all_eq_true.1 (List.all_eq_true.1 setL_in_K m (List.mem_range.2 (by omega))) y hy)
  have hl : (sortL lexB (setsM (fun _ => true) (2 ^ n))).length ≤ 512 := by rw [hp.length_eq]; exact Nat.le_trans (setsM_len _ _) hN
  unfold ordL cI
  generalize sortL lexB (setsM (fun _ => true) (2 ^ n)) = S at hin hl
  rw [List.map_map]
  refine ev_range S.length (fun k i => impl_votes_ordered.l0 k ((S.take i).map ((fun (m : Nat) => (m : Int)) ∘ maskN 0)) S (S.length : Int) (i : Int)) (fun _ => S.map ((fun (m : Nat) => (m : Int)) ∘ maskN 0)) ?_ ?_ 0 (Nat.zero_le _)
  · refine ev_succ ?_
    simp only [impl_votes_ordered.l0, List.take_length]
    exact ev_neg (by omega) (Ev.now _)
  · intro i hi ih
    obtain ⟨h1, h2⟩ := hin _ (List.getElem_mem hi)
    refine ev_succ ?_
    simp only [impl_votes_ordered.l0]
    rw [rdL1_get hi, wrap_succ hi (by omega)]
    rw [List.take_succ_eq_append_getElem hi, List.map_append] at ih
    exact ev_pos (by omega) (ev_pos (by omega) (ev_pos (by omega) (Ev.bind (maskOf_ev S[i] (by omega) h2).1 (ev_pos (by rw [List.length_map, List.length_take]; omega) ih))))
theorem index_ex (l : List Int) (x : Int) (hl : l.length ≤ 1000) : ∃ v : Int, (v ≥ 0 ↔ x ∈ l) ∧ Ev (fun k => slices_Index_int_int.f k l x) v := by
  unfold slices_Index_int_int.f
  have key : ∀ d i : Nat, i + d = l.length → ∃ v : Int, (v ≥ 0 ↔ x ∈ l.drop i) ∧ Ev (fun k => slices_Index_int_int.l0 k l x (l.length : Int) (i : Int)) v := by
    intro d
    induction d with
    | zero =>
      intro i hi
      refine ⟨-1, ?_, ev_succ ?_⟩
      · rw [List.drop_of_length_le (by omega)]; simp
      · simp only [slices_Index_int_int.l0]
        exact ev_neg (by omega) (Ev.now _)
    | succ d ih =>
      intro i hi
      have hil : i < l.length := by omega
      obtain ⟨v, h1, h2⟩ := ih (i + 1) (by omega)
      rw [List.drop_eq_getElem_cons hil]
      by_cases e : x = l[i]
      · refine ⟨(i : Int), ?_, ev_succ ?_⟩
        · rw [e]; exact ⟨fun _ => List.mem_cons_self .., fun _ => by omega⟩
        · simp only [slices_Index_int_int.l0]
          rw [rd_get hil]
          exact ev_pos (by omega) (ev_pos (by omega) (ev_pos (by omega) (ev_pos e (Ev.now _))))
      · refine ⟨v, ?_, ev_succ ?_⟩
        · rw [h1, List.mem_cons]; simp [e]
        · simp only [slices_Index_int_int.l0]
          rw [rd_get hil, wrap_succ hil (by omega)]
          exact ev_pos (by omega) (ev_pos (by omega) (ev_pos (by omega) (ev_neg e h2)))
  obtain ⟨v, h1, h2⟩ := key l.length 0 (Nat.zero_add _)
  exact ⟨v, by simpa using h1, h2⟩
theorem contains_ev (l : List Nat) (x : Nat) (hl : l.length ≤ 1000) : Ev (fun k => slices_Contains_int_int.f k (cI l) (x : Int)) (l.contains x) := by
  obtain ⟨v, h1, h2⟩ := index_ex (cI l) (x : Int) (by rw [cI_len]; exact hl)
  unfold slices_Contains_int_int.f
  refine Ev.bind h2 (ev_eqv (Ev.now _) ?_)
  rw [Bool.eq_iff_iff, decide_eq_true_eq, h1, List.contains_iff_mem]
  unfold cI
  rw [List.mem_map]
  constructor
  · rintro ⟨a, ha, h⟩
    have e : a = x := by omega
    rw [← e]; exact ha
  · intro h
    exact ⟨x, h, rfl⟩
theorem wOf_lt {n s t u : Nat} (hs : s < 2 ^ n) (ht : t < 2 ^ n) : wOf s t u < 2 ^ n := by
  unfold wOf aN
  exact Nat.or_lt_two_pow (Nat.and_lt_two_pow _ ht) (Nat.xor_lt_two_pow (Nat.or_lt_two_pow hs ht) (Nat.lt_of_le_of_lt Nat.and_le_left (Nat.or_lt_two_pow hs ht)))
theorem add_lt (m i n : Nat) (hn : n ≤ 9) (hm : m < 2 ^ n) (hi : i < n) (hb : bitB m i = false) : m + 2 ^ i < 2 ^ n := by
  have hp := (pow_lt9 hi hn).2
  have := Nat.or_lt_two_pow hm (pow_lt9 hi hn).1
  rw [or_bit m i (by omega) (by omega), if_neg (by simp [hb])] at this
  exact this
def allB (p : Nat → Bool) (n m : Nat) : Bool := (List.range (n - m)).all fun j => p (m + j)
theorem allB_end (p : Nat → Bool) (n : Nat) : allB p n n = true := by simp [allB]
theorem allB_step (p : Nat → Bool) (n m : Nat) (h : m < n) : allB p n m = (p m && allB p n (m + 1)) := by
  obtain ⟨d, rfl⟩ := Nat.exists_eq_add_of_lt h
  unfold allB
  rw [show m + d + 1 - m = d + 1 by omega, show m + d + 1 - (m + 1) = d by omega, List.range_succ_eq_map, List.all_cons, List.all_map]
  simp only [Nat.add_zero, Function.comp_def, Nat.succ_eq_add_one, Nat.add_assoc, Nat.add_comm, Nat.add_left_comm]
def wsB (g : Nat → Bool) (i j m : Nat) : Bool := !(!bitB m i && !bitB m j && g (m + 2 ^ j) && !g (m + 2 ^ i))
theorem wrap_nat (x : Nat) (h : x < 1152921504606846976) : wrap64 (x : Int) = (x : Int) := wrap64_id (by omega)
theorem deWorth_ev (g : Nat → Bool) (n i j : Nat) (hn : n ≤ 9) (hi : i < n) (hj : j < n) : Ev (fun k => spec_deWorth.f k (tabB g (2 ^ n)) (i : Int) (j : Int)) (allB (wsB g i j) (2 ^ n) 0) := by
  have hp := (pow_lt9 hi hn).2
  unfold spec_deWorth.f
  rw [tabB_len]
  have := ev_range (2 ^ n) (fun k m => spec_deWorth.l0 k (tabB g (2 ^ n)) (i : Int) (j : Int) ((2 ^ n : Nat) : Int) (m : Int)) (fun m => allB (wsB g i j) (2 ^ n) m) ?_ ?_ 0 (Nat.zero_le _)
  · exact this
  · refine ev_succ ?_
    simp only [spec_deWorth.l0]
    rw [allB_end]
    exact ev_neg (Int.lt_irrefl _) (Ev.now _)
  · intro m hm ih
    refine ev_succ ?_
    simp only [spec_deWorth.l0]
    rw [allB_step _ _ _ hm]
    refine ev_pos (by omega) (ev_pos (by omega) ?_)
    rw [wrap_succ hm (by omega)]
    by_cases e0 : bitB m i = false
    case neg => exact ev_neg (fun h => e0 ((tmod_bit m i (by omega)).1 h)) (by have e := eq_true_of_ne_false e0; simpa [wsB, e] using ih)
    refine ev_pos ((tmod_bit m i (by omega)).2 e0) (ev_pos (by omega) ?_)
    by_cases e2 : bitB m j = false
    case neg => exact ev_neg (fun h => e2 ((tmod_bit m j (by omega)).1 h)) (by have e := eq_true_of_ne_false e2; simpa [wsB, e] using ih)
    refine ev_pos ((tmod_bit m j (by omega)).2 e2) ?_
    have l1 := add_lt m j n hn hm hj e2
    have l2 := add_lt m i n hn hm hi e0
    have w1 : wrap64 ((m : Int) + shl .i64 1 (j : Int)) = ((m + 2 ^ j : Nat) : Int) := by rw [shl_one_nat j (by omega), ← Int.natCast_add]; exact wrap_nat _ (by omega)
    have w2 : wrap64 ((m : Int) + shl .i64 1 (i : Int)) = ((m + 2 ^ i : Nat) : Int) := by rw [shl_one_nat i (by omega), ← Int.natCast_add]; exact wrap_nat _ (by omega)
    rw [w1, w2, tabB_len, rdOf_tab l1, rdOf_tab l2]
    refine ev_pos (Int.natCast_nonneg _) (ev_pos (Int.ofNat_lt.2 l1) ?_)
    refine ev_bool (fun e3 => ?_) (fun e3 => by simpa [wsB, e3] using ih)
    refine ev_pos (Int.natCast_nonneg _) (ev_pos (Int.ofNat_lt.2 l2) ?_)
    refine ev_bool (fun e4 => by simpa [wsB, e4] using ih) (fun e4 => ?_)
    simpa [wsB, e0, e2, e3, e4] using (Ev.now _)
def resT (o : Option (List (List Int) × List (List Int))) : List (List Int) × List (List Int) × Bool := match o with
  | some p => (p.1, p.2, true)
  | none => ([], [], false)
def prT (s t u w : Nat) : List (List Int) × List (List Int) := ([setL s, setL t], [setL u, setL w])
def inQ (g : Nat → Bool) (Q : Nat → Nat → Nat → Nat → Bool) (s t u : Nat) (r : List Nat) : Bool := (!g u && betw s t u) && (!g (wOf s t u) && ((u :: r).contains (wOf s t u) && Q s t u (wOf s t u)))
def inT (g : Nat → Bool) (Q : Nat → Nat → Nat → Nat → Bool) (s t : Nat) (rest : Option (List (List Int) × List (List Int))) : List Nat → Option (List (List Int) × List (List Int))
  | [] => rest
  | u :: r => if inQ g Q s t u r = true then some (prT s t u (wOf s t u)) else inT g Q s t rest r
def outT (g : Nat → Bool) (Q : Nat → Nat → Nat → Nat → Bool) (O : List Nat) (s : Nat) (rest : Option (List (List Int) × List (List Int))) : List Nat → Option (List (List Int) × List (List Int))
  | [] => rest
  | t :: r => if (g s && g t) = true then inT g Q s t (outT g Q O s rest r) O else outT g Q O s rest r
def allT (g : Nat → Bool) (Q : Nat → Nat → Nat → Nat → Bool) (O : List Nat) : List Nat → Option (List (List Int) × List (List Int))
  | [] => none
  | s :: r => outT g Q O s (allT g Q O r) (s :: r)
theorem pairs_ev (s t u w : Nat) (h : s < 512 ∧ t < 512 ∧ u < 512 ∧ w < 512) : Ev (fun k => impl_pairs.f k [(s : Int), (t : Int)] [(u : Int), (w : Int)]) (prT s t u w) := by
  have w1 : wrap64 (0 + 1) = 1 := by unfold wrap64; omega
  have w2 : wrap64 (1 + 1) = 2 := by unfold wrap64; omega
  have r1 : rd [(s : Int), (t : Int)] 0 = (s : Int) := rfl
  have r2 : rd [(u : Int), (w : Int)] 0 = (u : Int) := rfl
  have r3 : rd [(s : Int), (t : Int)] 1 = (t : Int) := rfl
  have r4 : rd [(u : Int), (w : Int)] 1 = (w : Int) := rfl
  unfold impl_pairs.f
  refine ev_succ ?_
  simp only [impl_pairs.l0, w1, r1, r2]
  refine ev_pos (by simp) (ev_pos (by simp) (ev_pos (by simp) (Ev.bind (setOf_ev s (by omega)) (ev_pos (by simp) (ev_pos (by simp) (Ev.bind (setOf_ev u (by omega)) (ev_pos (by simp) (ev_succ ?_))))))))
  simp only [impl_pairs.l0, w2, r3, r4]
  refine ev_pos (by simp) (ev_pos (by simp) (ev_pos (by simp) (Ev.bind (setOf_ev t (by omega)) (ev_pos (by simp) (ev_pos (by simp) (Ev.bind (setOf_ev w (by omega)) (ev_pos (by simp) (ev_succ ?_))))))))
  simp only [impl_pairs.l0]
  exact ev_neg (by simp) (ev_eqv (Ev.now _) rfl)
section
variable (P : Int → Int → Int → Int → Option Bool) (Q : Nat → Nat → Nat → Nat → Bool) (hP : ∀ s t u w : Nat, s < 64 ∧ t < 64 ∧ u < 64 ∧ w < 64 → P s t u w = some (Q s t u w)) (g : Nat → Bool) (n : Nat) (hn : n ≤ 6) (O : List Nat) (hO : O.length ≤ 64) (hOl : ∀ x ∈ O, x < 2 ^ n)
section
variable (s t : Nat) (hs : s < 2 ^ n) (ht : t < 2 ^ n) (x18 x27 x26 : Int) (x25 : List Int)
include hP hn hO hOl hs ht
theorem ft_j4 (k : Nat) (hk : k < O.length) (x75 : Bool) (h75 : x75 = !(!g O[k] && betw s t O[k])) (rs : Option (List (List Int) × List (List Int)))
    (hnx : Ev (fun r => impl_votes_firstOfTwo.l2 P r (cI O) (s : Int) (t : Int) (cI O) (O.length : Int) x18 x25 x26 x27 (cI O) (O.length : Int) (wrap64 ((k : Int) + 1)) (n : Int) (tabB g (2 ^ n))) (resT rs)) :
    Ev (fun r => impl_votes_firstOfTwo.j4 P r (cI O) (s : Int) (t : Int) (k : Int) ((O[k] : Nat) : Int) (cI O) (O.length : Int) x18 x25 x26 x27 (cI O) (O.length : Int) (k : Int) x75 (n : Int) (tabB g (2 ^ n))) (resT (if inQ g Q s t O[k] (O.drop (k + 1)) = true then some (prT s t O[k] (wOf s t O[k])) else rs)) := by
  have hp : 2 ^ n ≤ 64 := Nat.le_trans (Nat.pow_le_pow_right (n := 2) (by decide) hn) (by decide)
  have hu : O[k] < 2 ^ n := hOl _ (List.getElem_mem hk)
  have hdr : O.drop k = O[k] :: O.drop (k + 1) := List.drop_eq_getElem_cons hk
  have hlen : (O.drop k).length ≤ 64 := by rw [List.length_drop]; omega
  have hd : (cI O).drop (k : Int).toNat = cI (O.drop k) := by unfold cI; rw [Int.toNat_natCast, List.map_drop]
  rw [hdr] at hd hlen
  unfold inQ
  generalize O[k] = u at hu h75 hd hlen
  have hw := wOf_lt (u := u) hs ht
  have hst : s ||| t < 2 ^ n := Nat.or_lt_two_pow hs ht
  have hsa : s &&& t < 2 ^ n := Nat.and_lt_two_pow _ ht
  have hx : aN (s ||| t) u < 2 ^ n := Nat.xor_lt_two_pow hst (Nat.lt_of_le_of_lt Nat.and_le_left hst)
  have e : Go.bits .or .i64 (Go.bits .and .i64 (s : Int) (t : Int)) (Go.bits .andNot .i64 (Go.bits .or .i64 (s : Int) (t : Int)) (u : Int)) = ((wOf s t u : Nat) : Int) := by
    rw [and_nat s t (by omega) (by omega), or_nat s t (by omega) (by omega), andNot_nat (s ||| t) u (by omega) (by omega)]
    exact or_nat (s &&& t) (aN (s ||| t) u) (by omega) (by omega)
  refine ev_succ ?_
  simp only [impl_votes_firstOfTwo.j4, e]
  refine ev_bool (fun e1 => ?_) (fun e1 => ?_)
  · refine ev_eqv hnx ?_
    rw [h75] at e1
    rw [show (!g u && betw s t u) = false from by cases h : (!g u && betw s t u) with
      | false => rfl
      | true => rw [h] at e1; cases e1]
    simp
  · have hb : (!g u && betw s t u) = true := by
      rw [h75] at e1
      cases h : (!g u && betw s t u) with
      | true => rfl
      | false => rw [h] at e1; cases e1
    rw [hb, Bool.true_and, tabB_len, rdOf_tab hw]
    refine ev_pos (Int.natCast_nonneg _) (ev_pos (Int.ofNat_lt.2 hw) (ev_bool (fun e2 => ?_) (fun e2 => ?_)))
    · exact ev_eqv hnx (by rw [e2]; simp)
    · rw [e2, Bool.not_false, Bool.true_and]
      refine ev_pos (by omega) (ev_pos (by rw [cI_len]; omega) ?_)
      rw [hd]
      refine Ev.bind (contains_ev (u :: O.drop (k + 1)) (wOf s t u) (by omega)) (ev_bool (fun e3 => ?_) (fun e3 => ?_))
      · rw [e3, Bool.true_and]
        refine ev_bindS (hP s t u (wOf s t u) ⟨by omega, by omega, by omega, by omega⟩) (ev_bool (fun e4 => ?_) (fun e4 => ?_))
        · rw [e4, if_pos rfl]
          exact Ev.bind (pairs_ev s t u (wOf s t u) ⟨by omega, by omega, by omega, by omega⟩) (Ev.now _)
        · exact ev_eqv hnx (by rw [e4]; simp)
      · exact ev_eqv hnx (by rw [e3]; simp)
theorem ft_l2 (rest : Option (List (List Int) × List (List Int))) (hnx : Ev (fun r => impl_votes_firstOfTwo.l1 P r (cI O) (s : Int) (cI O) (O.length : Int) x18 x25 x26 (wrap64 (x27 + 1)) (n : Int) (tabB g (2 ^ n))) (resT rest)) :
    ∀ d k : Nat, k + d = O.length → Ev (fun r => impl_votes_firstOfTwo.l2 P r (cI O) (s : Int) (t : Int) (cI O) (O.length : Int) x18 x25 x26 x27 (cI O) (O.length : Int) (k : Int) (n : Int) (tabB g (2 ^ n))) (resT (inT g Q s t rest (O.drop k))) := by
  have hp : 2 ^ n ≤ 64 := Nat.le_trans (Nat.pow_le_pow_right (n := 2) (by decide) hn) (by decide)
  intro d
  induction d with
  | zero =>
    intro k hk
    obtain rfl : k = O.length := by omega
    refine ev_succ ?_
    simp only [impl_votes_firstOfTwo.l2]
    rw [List.drop_length]
    exact ev_neg (Int.lt_irrefl _) hnx
  | succ d ih =>
    intro k hk
    have hkl : k < O.length := by omega
    have hih := ih (k + 1) (by omega)
    have hw : wrap64 ((k : Int) + 1) = ((k + 1 : Nat) : Int) := wrap_succ hkl (by omega)
    rw [← hw] at hih
    have hj := fun x75 h75 => ft_j4 P Q hP g n hn O hO hOl s t hs ht x18 x27 x26 x25 k hkl x75 h75 _ hih
    have hu : O[k] < 2 ^ n := hOl _ (List.getElem_mem hkl)
    have hr : rd (cI O) (k : Int) = ((O[k] : Nat) : Int) := rd_cI hkl
    rw [List.drop_eq_getElem_cons hkl]
    refine ev_succ ?_
    simp only [impl_votes_firstOfTwo.l2, hr, inT]
    generalize O[k] = u at hu hj
    have hst : s ||| t < 2 ^ n := Nat.or_lt_two_pow hs ht
    have hsa : s &&& t < 2 ^ n := Nat.and_lt_two_pow _ ht
    rw [tabB_len, rdOf_tab hu, cI_len]
    refine ev_pos (by omega) (ev_pos (by omega) (ev_pos (by omega) (ev_pos (Int.natCast_nonneg _) (ev_pos (Int.ofNat_lt.2 hu) (ev_bool (fun e1 => ?_) (fun e1 => ?_))))))
    · exact hj true (by rw [e1]; rfl)
    · rw [and_nat s t (by omega) (by omega), and_nat u (s &&& t) (by omega) (by omega), or_nat s t (by omega) (by omega), andNot_nat u (s ||| t) (by omega) (by omega)]
      by_cases e2 : u &&& (s &&& t) = s &&& t
      · refine ev_pos (by rw [e2]) (hj _ ?_)
        rw [e1]
        unfold betw aN
        rw [e2]
        simp only [Bool.not_false, Bool.true_and, beq_self_eq_true]
        rw [Bool.eq_iff_iff]
        simp
      · refine ev_neg (by omega) (hj true ?_)
        rw [e1]
        unfold betw
        rw [show (u &&& (s &&& t) == s &&& t) = false from by simpa using e2]
        rfl
end
include hP hn hO hOl
theorem ft_l1 (s : Nat) (hs : s < 2 ^ n) (x18 : Int) (T : List Nat) (hT : T.length ≤ 64) (hTl : ∀ x ∈ T, x < 2 ^ n) (rest : Option (List (List Int) × List (List Int)))
    (hnx : Ev (fun r => impl_votes_firstOfTwo.l0 P r (cI O) (cI O) (O.length : Int) (wrap64 (x18 + 1)) (n : Int) (tabB g (2 ^ n))) (resT rest)) :
    ∀ d j : Nat, j + d = T.length → Ev (fun r => impl_votes_firstOfTwo.l1 P r (cI O) (s : Int) (cI O) (O.length : Int) x18 (cI T) (T.length : Int) (j : Int) (n : Int) (tabB g (2 ^ n))) (resT (outT g Q O s rest (T.drop j))) := by
  intro d
  induction d with
  | zero =>
    intro j hj
    obtain rfl : j = T.length := by omega
    refine ev_succ ?_
    simp only [impl_votes_firstOfTwo.l1]
    rw [List.drop_length]
    exact ev_neg (Int.lt_irrefl _) hnx
  | succ d ih =>
    intro j hj
    have hjl : j < T.length := by omega
    have hih := ih (j + 1) (by omega)
    have hw : wrap64 ((j : Int) + 1) = ((j + 1 : Nat) : Int) := wrap_succ hjl (by omega)
    rw [← hw] at hih
    have ht : T[j] < 2 ^ n := hTl _ (List.getElem_mem hjl)
    have hr : rd (cI T) (j : Int) = ((T[j] : Nat) : Int) := rd_cI hjl
    have h2 : ∀ x44 : Bool, x44 = !(g s && g T[j]) → Ev (fun r => impl_votes_firstOfTwo.j2 P r (cI O) (s : Int) ((T[j] : Nat) : Int) (cI O) (O.length : Int) x18 (cI T) (T.length : Int) (j : Int) x44 (n : Int) (tabB g (2 ^ n))) (resT (outT g Q O s rest (T[j] :: T.drop (j + 1)))) := by
      intro x44 hx
      refine ev_succ ?_
      simp only [impl_votes_firstOfTwo.j2, outT]
      refine ev_bool (fun e => ?_) (fun e => ?_)
      · refine ev_eqv hih ?_
        have : (g s && g T[j]) = false := by
          rw [hx] at e
          cases h : (g s && g T[j]) with
          | false => rfl
          | true => rw [h] at e; cases e
        rw [this]; rfl
      · have : (g s && g T[j]) = true := by
          rw [hx] at e
          cases h : (g s && g T[j]) with
          | true => rfl
          | false => rw [h] at e; cases e
        rw [cI_len]
        refine ev_eqv (ft_l2 P Q hP g n hn O hO hOl s T[j] hs ht x18 (j : Int) (T.length : Int) (cI T) _ hih O.length 0 (Nat.zero_add _)) ?_
        rw [this, if_pos rfl, List.drop_zero]
    rw [List.drop_eq_getElem_cons hjl]
    refine ev_succ ?_
    simp only [impl_votes_firstOfTwo.l1, hr]
    rw [tabB_len, rdOf_tab hs, rdOf_tab ht, cI_len]
    refine ev_pos (by omega) (ev_pos (by omega) (ev_pos (by omega) (ev_pos (Int.natCast_nonneg _) (ev_pos (Int.ofNat_lt.2 hs) (ev_bool (fun e => ?_) (fun e => ?_))))))
    · exact ev_pos (Int.natCast_nonneg _) (ev_pos (Int.ofNat_lt.2 ht) (h2 _ (by rw [e]; simp)))
    · exact h2 _ (by rw [e]; simp)
theorem ft_l0 : ∀ d i : Nat, i + d = O.length → Ev (fun k => impl_votes_firstOfTwo.l0 P k (cI O) (cI O) (O.length : Int) (i : Int) (n : Int) (tabB g (2 ^ n))) (resT (allT g Q O (O.drop i))) := by
  intro d
  induction d with
  | zero =>
    intro i hi
    obtain rfl : i = O.length := by omega
    refine ev_succ ?_
    simp only [impl_votes_firstOfTwo.l0]
    rw [List.drop_length]
    exact ev_neg (Int.lt_irrefl _) (Ev.now _)
  | succ d ih =>
    intro i hi
    have hil : i < O.length := by omega
    have hih := ih (i + 1) (by omega)
    have hw : wrap64 ((i : Int) + 1) = ((i + 1 : Nat) : Int) := wrap_succ hil (by omega)
    rw [← hw] at hih
    have hr : rd (cI O) (i : Int) = ((O[i] : Nat) : Int) := rd_cI hil
    have hd : (cI O).drop (i : Int).toNat = cI (O.drop i) := by unfold cI; rw [Int.toNat_natCast, List.map_drop]
    have h1 := ft_l1 P Q hP g n hn O hO hOl O[i] (hOl _ (List.getElem_mem hil)) (i : Int) (O.drop i) (by rw [List.length_drop]; omega) (fun x hx => hOl x (List.mem_of_mem_drop hx)) _ hih (O.drop i).length 0 (Nat.zero_add _)
    refine ev_succ ?_
    simp only [impl_votes_firstOfTwo.l0, hr, hd, Option.bind_some, cI_len]
    refine ev_pos (by omega) (ev_pos (by omega) (ev_pos (by omega) (ev_pos (by omega) (ev_eqv h1 ?_))))
    rw [List.drop_zero, List.drop_eq_getElem_cons hil]
    rfl
end
theorem firstOf_ev (P : Int → Int → Int → Int → Option Bool) (Q : Nat → Nat → Nat → Nat → Bool) (hP : ∀ s t u w : Nat, s < 64 ∧ t < 64 ∧ u < 64 ∧ w < 64 → P s t u w = some (Q s t u w)) (g : Nat → Bool) (n : Nat) (hn : n ≤ 6) :
    Ev (fun k => impl_votes_firstOfTwo.f k (n : Int) (tabB g (2 ^ n)) P) (resT (allT g Q (ordL (2 ^ n)) (ordL (2 ^ n)))) := by
  have hp : 2 ^ n ≤ 64 := Nat.le_trans (Nat.pow_le_pow_right (n := 2) (by decide) hn) (by decide)
  have hO : (ordL (2 ^ n)).length ≤ 64 := by rw [ordL_len _ (by omega)]; omega
  have hOl : ∀ x ∈ ordL (2 ^ n), x < 2 ^ n := fun x hx => ordL_lt _ (by omega) hx
  unfold impl_votes_firstOfTwo.f
  refine Ev.bind (ordered_ev g n (by omega)) ?_
  rw [cI_len]
  generalize ordL (2 ^ n) = O at hO hOl
  have := ft_l0 P Q hP g n hn O hO hOl O.length 0 (Nat.zero_add _)
  rw [List.drop_zero] at this
  exact this
def liI (g : Nat → Bool) (Q : Nat → Nat → Nat → Nat → Bool) (s t : Nat) : List Nat → List (List (List Int) × List (List Int))
  | [] => []
  | u :: r => (if inQ g Q s t u r = true then [prT s t u (wOf s t u)] else []) ++ liI g Q s t r
def liO (g : Nat → Bool) (Q : Nat → Nat → Nat → Nat → Bool) (O : List Nat) (s : Nat) : List Nat → List (List (List Int) × List (List Int))
  | [] => []
  | t :: r => (if (g s && g t) = true then liI g Q s t O else []) ++ liO g Q O s r
def liA (g : Nat → Bool) (Q : Nat → Nat → Nat → Nat → Bool) (O : List Nat) : List Nat → List (List (List Int) × List (List Int))
  | [] => []
  | s :: r => liO g Q O s (s :: r) ++ liA g Q O r
section
variable (g : Nat → Bool) (Q : Nat → Nat → Nat → Nat → Bool) (O : List Nat)
theorem inT_head (s t : Nat) (rest : Option (List (List Int) × List (List Int))) : ∀ l, inT g Q s t rest l = ((liI g Q s t l).head?).or rest
  | [] => by simp [inT, liI]
  | u :: r => by
    unfold inT liI
    by_cases e : inQ g Q s t u r = true
    · rw [if_pos e, if_pos e]; rfl
    · rw [if_neg e, if_neg e, List.nil_append]; exact inT_head s t rest r
theorem outT_head (s : Nat) (rest : Option (List (List Int) × List (List Int))) : ∀ l, outT g Q O s rest l = ((liO g Q O s l).head?).or rest
  | [] => by simp [outT, liO]
  | t :: r => by
    unfold outT liO
    have ih := outT_head s rest r
    by_cases e : (g s && g t) = true
    · rw [if_pos e, if_pos e, inT_head, ih, List.head?_append, Option.or_assoc]
    · rw [if_neg e, if_neg e, List.nil_append]; exact ih
theorem allT_head : ∀ l, allT g Q O l = (liA g Q O l).head?
  | [] => rfl
  | s :: r => by
    unfold allT liA
    rw [outT_head, allT_head r, List.head?_append]
theorem liI_mem {s t : Nat} {c : List (List Int) × List (List Int)} : ∀ l, c ∈ liI g Q s t l ↔ ∃ a u r, l = a ++ u :: r ∧ inQ g Q s t u r = true ∧ c = prT s t u (wOf s t u)
  | [] => by simp [liI]
  | v :: l => by
    have ih := liI_mem (s := s) (t := t) (c := c) l
    unfold liI
    rw [List.mem_append, ih]
    constructor
    · rintro (h | ⟨a, u, r, h1, h2, h3⟩)
      · by_cases e : inQ g Q s t v l = true
        · rw [if_pos e, List.mem_singleton] at h; exact ⟨[], v, l, rfl, e, h⟩
        · rw [if_neg e] at h; cases h
      · exact ⟨v :: a, u, r, by rw [h1]; rfl, h2, h3⟩
    · rintro ⟨a, u, r, h1, h2, h3⟩
      cases a with
      | nil =>
        injection h1 with h4 h5; subst h4; subst h5
        left; rw [if_pos h2, h3]; exact List.mem_cons_self ..
      | cons b a =>
        injection h1 with h4 h5
        exact .inr ⟨a, u, r, h5, h2, h3⟩
theorem liO_mem {s : Nat} {c : List (List Int) × List (List Int)} : ∀ l, c ∈ liO g Q O s l ↔ g s = true ∧ ∃ t ∈ l, g t = true ∧ c ∈ liI g Q s t O
  | [] => by simp [liO]
  | v :: l => by
    have ih := liO_mem (s := s) (c := c) l
    unfold liO
    rw [List.mem_append, ih]
    constructor
    · rintro (h | ⟨h1, t, h2, h3⟩)
      · by_cases e : (g s && g v) = true
        · rw [if_pos e] at h
          rw [Bool.and_eq_true] at e
          exact ⟨e.1, v, List.mem_cons_self .., e.2, h⟩
        · rw [if_neg e] at h; cases h
      · exact ⟨h1, t, List.mem_cons_of_mem _ h2, h3⟩
    · rintro ⟨h1, t, h2, h3, h4⟩
      rcases List.mem_cons.1 h2 with rfl | h2
      · left; rw [if_pos (by rw [h1, h3]; rfl)]; exact h4
      · exact .inr ⟨h1, t, h2, h3, h4⟩
theorem liA_mem {c : List (List Int) × List (List Int)} : ∀ l, c ∈ liA g Q O l ↔ ∃ a s r, l = a ++ s :: r ∧ c ∈ liO g Q O s (s :: r)
  | [] => by simp [liA]
  | v :: l => by
    have ih := liA_mem (c := c) l
    unfold liA
    rw [List.mem_append, ih]
    constructor
    · rintro (h | ⟨a, u, r, h1, h2⟩)
      · exact ⟨[], v, l, rfl, h⟩
      · exact ⟨v :: a, u, r, by rw [h1]; rfl, h2⟩
    · rintro ⟨a, u, r, h1, h2⟩
      cases a with
      | nil => injection h1 with h4 h5; subst h4; subst h5; exact .inl h2
      | cons b a => injection h1 with h4 h5; exact .inr ⟨a, u, r, h5, h2⟩
end
theorem bitB_test (m i : Nat) : bitB m i = m.testBit i := by
  unfold bitB
  rw [Nat.testBit_eq_decide_div_mod_eq, Nat.shiftRight_eq_div_pow, Bool.eq_iff_iff, beq_iff_eq, decide_eq_true_eq]
def wtF : List Int → Nat → Nat → Int
  | [], _, _ => 0
  | w :: ws, m, i => (if bitB m i = true then w else 0) + wtF ws m (i + 1)
theorem betw_bit {s t u : Nat} (h : betw s t u = true) (i : Nat) :
    (if bitB u i = true then 1 else 0) + (if bitB (wOf s t u) i = true then 1 else 0) = (if bitB s i = true then 1 else 0) + (if bitB t i = true then (1 : Int) else 0) := by
  unfold betw at h
  rw [Bool.and_eq_true, beq_iff_eq, beq_iff_eq] at h
  have h1 := congrArg (fun n => Nat.testBit n i) h.1
  have h2 := congrArg (fun n => Nat.testBit n i) h.2
  unfold aN at h2
  simp only [Nat.testBit_and, Nat.testBit_or, Nat.testBit_xor, Nat.zero_testBit] at h1 h2
  simp only [bitB_test]
  unfold wOf aN
  simp only [Nat.testBit_and, Nat.testBit_or, Nat.testBit_xor]
  revert h1 h2
  cases s.testBit i <;> cases t.testBit i <;> cases u.testBit i <;> simp
theorem betw_wt {s t u : Nat} (h : betw s t u = true) : ∀ (W : List Int) (i : Nat), wtF W u i + wtF W (wOf s t u) i = wtF W s i + wtF W t i
  | [], _ => rfl
  | w :: ws, i => by
    have h1 := betw_wt h ws (i + 1)
    have h2 := betw_bit h i
    unfold wtF
    revert h2
    cases bitB s i <;> cases bitB t i <;> cases bitB u i <;> cases bitB (wOf s t u) i <;> simp <;> omega
def gW (W : List Int) (q : Int) (m : Nat) : Bool := decide (q ≤ wtF W m 0)
theorem no_trade (W : List Int) (q : Int) (Q : Nat → Nat → Nat → Nat → Bool) (O : List Nat) : allT (gW W q) Q O O = none := by
  rw [allT_head]
  cases h : (liA (gW W q) Q O O).head? with
  | none => rfl
  | some c =>
    exfalso
    have hm : c ∈ liA (gW W q) Q O O := List.mem_of_mem_head? h
    obtain ⟨p, s, r, e1, h⟩ := (liA_mem (gW W q) Q O O).1 hm
    obtain ⟨h1, t, ht, h2, h⟩ := (liO_mem (gW W q) Q O _).1 h
    obtain ⟨p', u, r', e2, hq, rfl⟩ := (liI_mem (gW W q) Q O).1 h
    unfold inQ at hq
    simp only [Bool.and_eq_true, Bool.not_eq_true'] at hq
    obtain ⟨⟨h3, h4⟩, h5, _⟩ := hq
    have h6 := betw_wt h4 W 0
    unfold gW at h1 h2 h3 h5
    rw [decide_eq_true_eq] at h1 h2
    rw [decide_eq_false_iff_not] at h3 h5
    omega
theorem wt_or (j : Nat) : ∀ (W : List Int) (m o : Nat), m.testBit j = false → wtF W (m ||| 2 ^ j) o = wtF W m o + (if o ≤ j then W.getD (j - o) 0 else 0)
  | [], _, _, _ => by simp [wtF]
  | w :: ws, m, o, h => by
    have ih := wt_or j ws m (o + 1) h
    unfold wtF
    rw [ih, bitB_test, bitB_test, Nat.testBit_or, Nat.testBit_two_pow]
    by_cases e : j = o
    · subst e
      rw [h]
      simp
      omega
    · by_cases e2 : o ≤ j
      · have e3 : j - o = (j - (o + 1)) + 1 := by omega
        rw [if_pos e2, if_pos (show o + 1 ≤ j by omega), e3, List.getD_cons_succ]
        simp [e]
        omega
      · rw [if_neg e2, if_neg (show ¬ o + 1 ≤ j by omega)]
        simp [e]
theorem wt_add {W : List Int} {m j : Nat} (hm : m < 512) (hj : j < 9) (h : bitB m j = false) : wtF W (m + 2 ^ j) 0 = wtF W m 0 + W.getD j 0 := by
  have h1 := or_bit m j hm hj
  rw [if_neg (by rw [h]; decide)] at h1
  have h2 := wt_or j W m 0 (by rw [← bitB_test]; exact h)
  rw [h1] at h2
  simpa using h2
theorem worth_W {W : List Int} {q : Int} {n i j : Nat} (hn : n ≤ 9) (hi : i < n) (hj : j < n) (h : W.getD j 0 ≤ W.getD i 0) : allB (wsB (gW W q) i j) (2 ^ n) 0 = true := by
  unfold allB
  rw [List.all_eq_true]
  intro m hm
  have hm1 : m < 2 ^ n := by have := List.mem_range.1 hm; omega
  have hp : 2 ^ n ≤ 512 := Nat.pow_le_pow_right (n := 2) (by decide) hn
  rw [Nat.zero_add]
  unfold wsB
  cases e1 : bitB m i with
  | true => simp
  | false =>
    cases e2 : bitB m j with
    | true => simp
    | false =>
      have h1 := wt_add (W := W) (show m < 512 by omega) (show i < 9 by omega) e1
      have h2 := wt_add (W := W) (show m < 512 by omega) (show j < 9 by omega) e2
      unfold gW
      by_cases e3 : q ≤ wtF W (m + 2 ^ j) 0
      · rw [decide_eq_true e3, decide_eq_true (show q ≤ wtF W (m + 2 ^ i) 0 by omega)]; rfl
      · rw [decide_eq_false e3]; rfl
def encT (g : Nat → Bool) : Nat → Nat
  | 0 => 0
  | N + 1 => encT g N + (if g N = true then 2 ^ N else 0)
def monoK : Nat → List Nat
  | 0 => [0, 1]
  | k + 1 => (monoK k).flatMap fun a => ((monoK k).filter fun b => a &&& b == a).map fun b => a + b * 2 ^ 2 ^ k
def offK (n i j : Nat) : Nat := encT (fun m => !m.testBit i && !m.testBit j) (2 ^ n)
def wK (n t i j : Nat) : Bool := ((t >>> 2 ^ j) &&& offK n i j) &&& (t >>> 2 ^ i) == (t >>> 2 ^ j) &&& offK n i j
def complK (n t : Nat) : Bool := (List.range n).all fun i => (List.range i).all fun j => wK n t i j || wK n t j i
def popK : Nat → Nat → Nat
  | 0, _ => 0
  | k + 1, x => x % 2 + popK k (x / 2)
def banK (n t i : Nat) : Nat := popK 32 (((t >>> 2 ^ i) ^^^ t) &&& offK n i i) * 2 ^ (5 - n)
def phiK : List Int := [0, 2, 3, 4, 5, 6, 7, 9, 9, 10, 9, 11, 12, 9, 8, 7, 8]
def wtsK (n t : Nat) : List Int := (List.range n).map fun i => phiK.getD (banK n t i) 0
def maxL (W : List Int) (t : Nat) : Nat → Int
  | 0 => 0
  | m + 1 => if t.testBit m = true then maxL W t m else mx (maxL W t m) (wtF W m 0)
def fitsK (n t : Nat) (W : List Int) (q : Int) : Bool := decide (1 ≤ q) && (List.range (2 ^ n)).all fun m => t.testBit m == decide (q ≤ wtF W m 0)
def chkK (n t : Nat) : Bool := !complK n t || t.testBit 0 || !t.testBit (2 ^ n - 1) || fitsK n t (wtsK n t) (maxL (wtsK n t) t (2 ^ n) + 1)
def chkA (k : Nat) : Bool := (monoK k).all fun a => (monoK k).all fun b => !(a &&& b == a) || chkK (k + 1) (a + b * 2 ^ 2 ^ k)
theorem encT_lt (g : Nat → Bool) : ∀ N, encT g N < 2 ^ N
  | 0 => by simp [encT]
  | N + 1 => by
    have h := encT_lt g N
    rw [encT, Nat.pow_succ]
    split <;> omega
theorem encT_bit (g : Nat → Bool) : ∀ N m, (encT g N).testBit m = (decide (m < N) && g m)
  | 0, m => by simp [encT]
  | N + 1, m => by
    have hl := encT_lt g N
    rw [encT]
    by_cases c : g N = true
    · have e1 := Nat.two_pow_add_eq_or_of_lt hl 1
      rw [Nat.mul_one] at e1
      rw [if_pos c, Nat.add_comm, e1, Nat.testBit_or, Nat.testBit_two_pow, encT_bit g N m]
      by_cases e : N = m
      · subst e; simp [c]
      · have : (decide (m < N + 1)) = decide (m < N) := decide_eq_decide.2 (by omega)
        simp [e, this]
    · rw [if_neg c, Nat.add_zero, encT_bit g N m]
      by_cases e : m = N
      · subst e; simp [eq_false_of_ne_true c]
      · have : (decide (m < N + 1)) = decide (m < N) := decide_eq_decide.2 (by omega)
        rw [this]
theorem encT_split (g : Nat → Bool) (N : Nat) : ∀ M, encT g (N + M) = encT g N + encT (fun m => g (m + N)) M * 2 ^ N
  | 0 => by simp [encT]
  | M + 1 => by
    rw [show N + (M + 1) = N + M + 1 from rfl, encT, encT_split g N M, encT, Nat.add_mul, Nat.add_assoc, Nat.add_comm N M]
    congr 2
    split
    · rw [Nat.pow_add]
    · simp
def MonG (g : Nat → Bool) (N : Nat) : Prop := ∀ m m', m < N → m' < N → m &&& m' = m' → g m' = true → g m = true
theorem and_low {m m' k : Nat} (h : m < 2 ^ k) (h' : m' < 2 ^ k) (e : m &&& m' = m') : (m + 2 ^ k) &&& (m' + 2 ^ k) = m' + 2 ^ k := by
  have e1 := Nat.two_pow_add_eq_or_of_lt h 1
  have e2 := Nat.two_pow_add_eq_or_of_lt h' 1
  rw [Nat.mul_one] at e1 e2
  rw [Nat.add_comm m, Nat.add_comm m', e1, e2, ← Nat.or_and_distrib_left, e]
theorem and_up {m k : Nat} (h : m < 2 ^ k) : (m + 2 ^ k) &&& m = m := by
  have e1 := Nat.two_pow_add_eq_or_of_lt h 1
  rw [Nat.mul_one] at e1
  rw [Nat.add_comm m, e1, Nat.and_comm, Nat.and_or_distrib_left, Nat.and_self]
  refine Nat.eq_of_testBit_eq fun i => ?_
  rw [Nat.testBit_or, Nat.testBit_and, Nat.testBit_two_pow]
  cases m.testBit i <;> simp
theorem mono_mem : ∀ (k : Nat) (g : Nat → Bool), MonG g (2 ^ k) → encT g (2 ^ k) ∈ monoK k
  | 0, g, _ => by
    show encT g 1 ∈ [0, 1]
    rw [encT, encT]
    cases g 0 <;> simp
  | k + 1, g, h => by
    have hk : 2 ^ (k + 1) = 2 ^ k + 2 ^ k := by rw [Nat.pow_succ]; omega
    have h1 : MonG g (2 ^ k) := fun m m' a b => h m m' (by omega) (by omega)
    have h2 : MonG (fun m => g (m + 2 ^ k)) (2 ^ k) := fun m m' a b e => h _ _ (by omega) (by omega) (and_low a b e)
    rw [hk, encT_split, monoK, List.mem_flatMap]
    refine ⟨_, mono_mem k g h1, List.mem_map.2 ⟨_, List.mem_filter.2 ⟨mono_mem k _ h2, ?_⟩, rfl⟩⟩
    rw [beq_iff_eq]
    exact mono_le k g h
where
  mono_le (k : Nat) (g : Nat → Bool) (h : MonG g (2 ^ (k + 1))) : encT g (2 ^ k) &&& encT (fun m => g (m + 2 ^ k)) (2 ^ k) = encT g (2 ^ k) := by
    have hk : 2 ^ (k + 1) = 2 ^ k + 2 ^ k := by rw [Nat.pow_succ]; omega
    refine Nat.eq_of_testBit_eq fun m => ?_
    rw [Nat.testBit_and, encT_bit, encT_bit]
    by_cases c : m < 2 ^ k
    · rw [decide_eq_true c, Bool.true_and, Bool.true_and]
      cases e : g m with
      | false => rfl
      | true => rw [h (m + 2 ^ k) m (by omega) (by omega) (and_up c) e]; rfl
    · rw [decide_eq_false c]; rfl
theorem chkA_at {k : Nat} (hc : chkA k = true) (g : Nat → Bool) (h : MonG g (2 ^ (k + 1))) : chkK (k + 1) (encT g (2 ^ (k + 1))) = true := by
  have hk : 2 ^ (k + 1) = 2 ^ k + 2 ^ k := by rw [Nat.pow_succ]; omega
  have h1 : MonG g (2 ^ k) := fun m m' a b => h m m' (by omega) (by omega)
  have h2 : MonG (fun m => g (m + 2 ^ k)) (2 ^ k) := fun m m' a b e => h _ _ (by omega) (by omega) (and_low a b e)
  have h3 := List.all_eq_true.1 (List.all_eq_true.1 hc _ (mono_mem k g h1)) _ (mono_mem k _ h2)
  rw [mono_mem.mono_le k g h, ← encT_split, ← hk] at h3
  simpa using h3
end Go.Proofs.YtmbkmabpebjboaaGreat.Q
end
section
namespace Go.Proofs.YtmbkmabpebjboaaGreat.Q
open Go.RowKit Go.Proofs.YtmbkmabpebjboaaGreatW.PrintWords Go.Proofs.YtmbkmabpebjboaaGreatW.PrintLast Go.Proofs.YtmbkmabpebjboaaGreatW.PrintMore
attribute [local go_sem] max2_int min2_int max_two min_two max_three min_three max_four min_four
set_option linter.unusedVariables false
set_option linter.unusedSimpArgs false
def impl_Committee_weight.l0 : Nat → Int → Int → List Int → Int → Int → Option (Int)
 | 0, _, _, _, _, _ => none
 | k + 1, x1, x5, x9, x10, x11 => if x11 < x10 then (if 0 ≤ x11 then (if x11 < (x9.length : Int) then ((impl_has.f x1 x11).bind fun t535 => (if t535 = true then (impl_Committee_weight.l0 k x1 (wrap64 (x5 + (rd x9 x11))) x9 x10 (wrap64 (x11 + 1))) else (impl_Committee_weight.l0 k x1 x5 x9 x10 (wrap64 (x11 + 1))))) else (none)) else (none)) else (some x5)
def impl_Committee_weight.f (k : Nat) (a0_0 : Int) (l0_1 : List Int) (a1 : Int) : Option (Int) := impl_Committee_weight.l0 k a1 0 l0_1 (l0_1.length : Int) 0
mutual
def impl_votes_spare.l0 : Nat → Int → Int → List Bool → Int → Int → Int → List Int → Option (Int × Int)
 | 0, _, _, _, _, _, _, _ => none
 | k + 1, x7, x8, x15, x16, x17, x538000, x538001 => if x17 < x16 then (if 0 ≤ x17 then (if x17 < (x15.length : Int) then ((impl_Committee_weight.f k x538000 x538001 x17).bind fun t539 => (if rdOf false x15 x17 = true then (if x7 < 0 then (impl_votes_spare.j1 k x7 x8 (rdOf false x15 x17) t539 x15 x16 x17 true x538000 x538001) else (impl_votes_spare.j1 k x7 x8 (rdOf false x15 x17) t539 x15 x16 x17 (decide (t539 < x7)) x538000 x538001)) else (impl_votes_spare.j1 k x7 x8 (rdOf false x15 x17) t539 x15 x16 x17 false x538000 x538001))) else (none)) else (none)) else (some (x7, x8))
def impl_votes_spare.j1 : Nat → Int → Int → Bool → Int → List Bool → Int → Int → Bool → Int → List Int → Option (Int × Int)
 | 0, _, _, _, _, _, _, _, _, _, _ => none
 | k + 1, x7, x8, x10, x11, x15, x16, x17, x34, x538000, x538001 => if x34 = true then (if x10 = true then (impl_votes_spare.l0 k x11 x8 x15 x16 (wrap64 (x17 + 1)) x538000 x538001) else (impl_votes_spare.l0 k x11 (mx x8 x11) x15 x16 (wrap64 (x17 + 1)) x538000 x538001)) else (if x10 = true then (impl_votes_spare.l0 k x7 x8 x15 x16 (wrap64 (x17 + 1)) x538000 x538001) else (impl_votes_spare.l0 k x7 (mx x8 x11) x15 x16 (wrap64 (x17 + 1)) x538000 x538001))
end
def impl_votes_spare.f (k : Nat) (a0_0 : Int) (l0_1 : List Bool) (l1 : List Int) : Option (Int × Int) := impl_votes_spare.l0 k (-1) (-1) l0_1 (l0_1.length : Int) 0 0 l1
end Go.Proofs.YtmbkmabpebjboaaGreat.Q
end
section
namespace Go.Proofs.YtmbkmabpebjboaaGreat.Q
open Go.RowKit Go.Proofs.YtmbkmabpebjboaaGreatW.PrintWords Go.Proofs.YtmbkmabpebjboaaGreatW.PrintLast Go.Proofs.YtmbkmabpebjboaaGreatW.PrintMore
set_option linter.unusedVariables false
set_option linter.unusedSimpArgs false
structure FSt (bv bo : Nat) (n : Int) (T : Option Addr) (ct : Nat) (t : List Bool) (w0 w : World) (old : Array Value) : Prop where
  V : w.heap[bv]? = some (.cells #[.int .i64 n, .slice T t.length ct] 61 (0, 0))
  O : w.heap[bo]? = some (.cells old 67 (0, 0))
  B : Below w0.heap.size w0 w
theorem FSt.below {bv bo : Nat} {n : Int} {T : Option Addr} {ct : Nat} {t : List Bool} {w0 w w1 : World} {old : Array Value} (h : FSt bv bo n T ct t w0 w old) (hb : Below w.heap.size w w1) : FSt bv bo n T ct t w0 w1 old := ⟨blk_below h.V hb, blk_below h.O hb, h.B.trans (hb.mono h.B.size)⟩
mutual
def eachW.f : Nat → Int → List Bool → List Int → Int → Option (Option (Int × List Int))
  | 0, _, _, _, _ => none
  | k + 1, n, t, b, s => if (b.length : Int) = wrap64 (n - 1) then (if b.length < 17592186044416 then (impl_votes_spare.f k n t (b ++ [s])).bind fun p => if p.1 ≤ p.2 then some none else some (some (wrap64 (p.2 + 1), b ++ [s])) else none) else eachW.l k n t b s 0
def eachW.l : Nat → Int → List Bool → List Int → Int → Int → Option (Option (Int × List Int))
  | 0, _, _, _, _, _ => none
  | k + 1, n, t, b, s, x => if x < wrap64 (s + 1) then (if b.length < 17592186044416 then (eachW.f k n t (b ++ [x]) (wrap64 (s - x))).bind fun r => (match r with
    | some q => some (some q)
    | none => eachW.l k n t b s (wrap64 (x + 1))) else none) else some none
end
def fnd.l : Nat → Int → List Bool → Int → List Int → Int → Option (Int × List Int)
  | 0, _, _, _, _, _ => none
  | k + 1, n, t, q, v, s => if q = 0 then (eachW.f k n t [] s).bind fun r => (match r with
    | some p => fnd.l k n t p.1 p.2 (wrap64 (s + 1))
    | none => fnd.l k n t q v (wrap64 (s + 1))) else some (q, v)
def impl_votes_found.f (k : Nat) (n : Int) (t : List Bool) : Option (Int × List Int × Bool) := (impl_votes_firstTrade.f k n t).bind fun p => if p.2.2 = true then some (0, [], false) else (fnd.l k n t 0 [] 1).bind fun q => some (q.1, q.2, true)
end Go.Proofs.YtmbkmabpebjboaaGreat.Q
end
section
namespace Go.Proofs.YtmbkmabpebjboaaGreat.Q
open Go.RowKit Go.Proofs.YtmbkmabpebjboaaGreatW.PrintWords Go.Proofs.YtmbkmabpebjboaaGreatW.PrintLast Go.Proofs.YtmbkmabpebjboaaGreatW.PrintMore
attribute [local go_sem] max2_int min2_int max_two min_two max_three min_three max_four min_four
set_option linter.unusedVariables false
set_option linter.unusedSimpArgs false
def spec_voWeight.l0 : Nat → Int → Int → List Int → Int → Int → Option (Int)
 | 0, _, _, _, _, _ => none
 | k + 1, x1, x5, x9, x10, x11 => if x11 < x10 then (if 0 ≤ x11 then (if x11 < (x9.length : Int) then (if (Int.tmod (shr .i64 x1 x11) 2) = 1 then (spec_voWeight.l0 k x1 (wrap64 (x5 + (rd x9 x11))) x9 x10 (wrap64 (x11 + 1))) else (spec_voWeight.l0 k x1 x5 x9 x10 (wrap64 (x11 + 1)))) else (none)) else (none)) else (some x5)
def spec_voWeight.f (k : Nat) (a0_0 : Int) (l0_1 : List Int) (a1 : Int) : Option (Int) := spec_voWeight.l0 k a1 0 l0_1 (l0_1.length : Int) 0
mutual
def spec_weQuota.l0 : Nat → Int → Int → List Bool → Int → Int → Int → List Int → Option (Int × Bool)
 | 0, _, _, _, _, _, _, _ => none
 | k + 1, x7, x8, x14, x15, x16, x479000, x479001 => if x16 < x15 then (if 0 ≤ x16 then (if x16 < (x14.length : Int) then ((spec_voWeight.f k x479000 x479001 x16).bind fun t480 => (if rdOf false x14 x16 = true then (if x8 < 0 then (spec_weQuota.j1 k x7 x8 (rdOf false x14 x16) t480 x14 x15 x16 true x479000 x479001) else (spec_weQuota.j1 k x7 x8 (rdOf false x14 x16) t480 x14 x15 x16 (decide (t480 < x8)) x479000 x479001)) else (spec_weQuota.j1 k x7 x8 (rdOf false x14 x16) t480 x14 x15 x16 false x479000 x479001))) else (none)) else (none)) else (some (wrap64 (x7 + 1), decide (x7 < x8)))
def spec_weQuota.j1 : Nat → Int → Int → Bool → Int → List Bool → Int → Int → Bool → Int → List Int → Option (Int × Bool)
 | 0, _, _, _, _, _, _, _, _, _, _ => none
 | k + 1, x7, x8, x10, x11, x14, x15, x16, x33, x479000, x479001 => if x33 = true then (if x10 = true then (spec_weQuota.l0 k x7 x11 x14 x15 (wrap64 (x16 + 1)) x479000 x479001) else (if x11 > x7 then (spec_weQuota.l0 k x11 x11 x14 x15 (wrap64 (x16 + 1)) x479000 x479001) else (spec_weQuota.l0 k x7 x11 x14 x15 (wrap64 (x16 + 1)) x479000 x479001))) else (if x10 = true then (spec_weQuota.l0 k x7 x8 x14 x15 (wrap64 (x16 + 1)) x479000 x479001) else (if x11 > x7 then (spec_weQuota.l0 k x11 x8 x14 x15 (wrap64 (x16 + 1)) x479000 x479001) else (spec_weQuota.l0 k x7 x8 x14 x15 (wrap64 (x16 + 1)) x479000 x479001)))
end
def spec_weQuota.f (k : Nat) (l0 : List Bool) (l1 : List Int) : Option (Int × Bool) := spec_weQuota.l0 k (-1) (-1) l0 (l0.length : Int) 0 0 l1
def spec_l1Own.f (l0 : List Int) : Option (List Int) := (some (([] : List Int) : List Int)).bind fun y481 => (if y481.length + l0.length < 17592186044416 then (some (y481 ++ l0)) else (none))
end Go.Proofs.YtmbkmabpebjboaaGreat.Q
end
section
namespace Go.Proofs.YtmbkmabpebjboaaGreat.Q
open Go.RowKit Go.Proofs.YtmbkmabpebjboaaGreatW.PrintWords Go.Proofs.YtmbkmabpebjboaaGreatW.PrintLast Go.Proofs.YtmbkmabpebjboaaGreatW.PrintMore
set_option linter.unusedVariables false
set_option linter.unusedSimpArgs false
theorem lc_ite {α : Type} {c : Prop} [Decidable c] {f g : Nat → Option α} {r : α} (h1 : c → Ev f r) (h2 : ¬ c → Ev g r) : Ev (fun n => if c then f n else g n) r := by
  by_cases h : c
  · exact ev_pos h (h1 h)
  · exact ev_neg h (h2 h)
def Wok (W : List Int) : Prop := W.length ≤ 9 ∧ ∀ w ∈ W, 0 ≤ w ∧ w ≤ 5000
theorem wtF_nn : ∀ (W : List Int) (m i : Nat), (∀ w ∈ W, 0 ≤ w ∧ w ≤ 5000) → 0 ≤ wtF W m i
  | [], _, _, _ => Int.le_refl 0
  | w :: ws, m, i, h => by
    have h1 := wtF_nn ws m (i + 1) (fun x hx => h x (List.mem_cons_of_mem _ hx))
    have h2 := h w (List.mem_cons_self ..)
    unfold wtF
    split <;> omega
theorem voWeight_ev (q : Int) (W : List Int) (h : Wok W) (m : Nat) : Ev (fun k => spec_voWeight.f k q W (m : Int)) (wtF W m 0) := by
  unfold spec_voWeight.f
  have := ev_rangeS W.length (fun k i s => spec_voWeight.l0 k (m : Int) s W (W.length : Int) (i : Int)) (fun i s => s + wtF (W.drop i) m i) (fun i s => 0 ≤ s ∧ s ≤ (i : Int) * 5000) ?_ ?_ 0 0 (Nat.zero_le _) ⟨by omega, by omega⟩
  · simpa using this
  · intro s hs
    refine ev_succ ?_
    simp only [spec_voWeight.l0]
    exact ev_neg (Int.lt_irrefl _) (ev_eqv (Ev.now _) (by simp [wtF]))
  · intro i s hi hs ih
    refine ev_succ ?_
    simp only [spec_voWeight.l0]
    have h9 := h.1
    have hw := h.2 W[i] (List.getElem_mem hi)
    refine ev_pos (by omega) (ev_pos (by omega) (ev_pos (by omega) ?_))
    rw [rd_get hi, wrap_succ hi (by omega), List.drop_eq_getElem_cons hi]
    rw [wtF]
    cases e : bitB m i with
    | true =>
      refine ev_pos ((tmod_bit1 m i (by omega)).2 e) ?_
      rw [wrap64_id (by omega)]
      exact ev_eqv (ih (s + W[i]) ⟨by omega, by omega⟩) (by simp [Int.add_assoc])
    | false => exact ev_neg (fun h => by rw [(tmod_bit1 m i (by omega)).1 h] at e; cases e) (ev_eqv (ih s ⟨by omega, by omega⟩) (by simp))
theorem iWeight_ev (q : Int) (W : List Int) (h : Wok W) (m : Nat) (hm : m < 65536) : Ev (fun k => impl_Committee_weight.f k q W (m : Int)) (wtF W m 0) := by
  unfold impl_Committee_weight.f
  have := ev_rangeS W.length (fun k i s => impl_Committee_weight.l0 k (m : Int) s W (W.length : Int) (i : Int)) (fun i s => s + wtF (W.drop i) m i) (fun i s => 0 ≤ s ∧ s ≤ (i : Int) * 5000) ?_ ?_ 0 0 (Nat.zero_le _) ⟨by omega, by omega⟩
  · simpa using this
  · intro s hs
    refine ev_succ ?_
    simp only [impl_Committee_weight.l0]
    exact ev_neg (Int.lt_irrefl _) (ev_eqv (Ev.now _) (by simp [wtF]))
  · intro i s hi hs ih
    refine ev_succ ?_
    simp only [impl_Committee_weight.l0]
    have h9 := h.1
    have hw := h.2 W[i] (List.getElem_mem hi)
    refine ev_pos (by omega) (ev_pos (by omega) (ev_pos (by omega) (ev_bindS (has_eq m i hm (by omega)) ?_)))
    rw [rd_get hi, wrap_succ hi (by omega), List.drop_eq_getElem_cons hi]
    rw [wtF]
    refine ev_bool (fun e => ?_) (fun e => ?_)
    · rw [wrap64_id (by omega)]
      exact ev_eqv (ih (s + W[i]) ⟨by omega, by omega⟩) (by simp [e, Int.add_assoc])
    · exact ev_eqv (ih s ⟨by omega, by omega⟩) (by simp [e])
def stW (g : Nat → Bool) (W : List Int) (st : Int × Int) (m : Nat) : Int × Int :=
  if g m = true then (if st.1 < 0 ∨ wtF W m 0 < st.1 then (wtF W m 0, st.2) else st) else (st.1, if st.2 < wtF W m 0 then wtF W m 0 else st.2)
def wqR (g : Nat → Bool) (W : List Int) (N : Nat) : Int × Int := (List.range N).foldl (stW g W) (-1, -1)
theorem range_drop (N i : Nat) (h : i < N) : (List.range N).drop i = i :: (List.range N).drop (i + 1) := by
  rw [List.drop_eq_getElem_cons (by rw [List.length_range]; exact h), List.getElem_range]
theorem spare_ev (a : Int) (g : Nat → Bool) (N : Nat) (hN : N ≤ 512) (W : List Int) (h : Wok W) : Ev (fun k => impl_votes_spare.f k a (tabB g N) W) (wqR g W N) := by
  unfold impl_votes_spare.f wqR
  rw [tabB_len]
  have := ev_rangeS N (fun k i (s : Int × Int) => impl_votes_spare.l0 k s.1 s.2 (tabB g N) (N : Int) (i : Int) 0 W) (fun i s => ((List.range N).drop i).foldl (stW g W) s) (fun _ _ => True) ?_ ?_ 0 (-1, -1) (Nat.zero_le _) trivial
  · simpa using this
  · intro s _
    refine ev_succ ?_
    simp only [impl_votes_spare.l0]
    exact ev_neg (Int.lt_irrefl _) (ev_eqv (Ev.now _) (by simp [List.drop_eq_nil_of_le]))
  · intro i s hi _ ih
    refine ev_succ ?_
    simp only [impl_votes_spare.l0]
    have hr : rdOf false (tabB g N) (i : Int) = g i := by rw [rdOf_get (by rw [tabB_len]; exact hi), tabB_get]
    refine ev_pos (by omega) (ev_pos (by omega) (ev_pos (by rw [tabB_len]; omega) (Ev.bind (iWeight_ev 0 W h i (by omega)) ?_)))
    rw [range_drop N i hi, List.foldl_cons, hr]
    refine ev_bool (fun e => ?_) (fun e => ?_)
    · refine lc_ite (fun c => ?_) (fun c => ?_)
      · refine ev_succ ?_
        simp only [impl_votes_spare.j1]
        refine ev_pos trivial (ev_pos e ?_)
        rw [wrap_succ hi (by omega)]
        exact ev_eqv (ih (wtF W i 0, s.2) trivial) (by rw [stW, if_pos e, if_pos (.inl c)])
      · refine ev_succ ?_
        simp only [impl_votes_spare.j1]
        refine lc_ite (fun c2 => ?_) (fun c2 => ?_)
        · refine ev_pos e ?_
          rw [wrap_succ hi (by omega)]
          exact ev_eqv (ih (wtF W i 0, s.2) trivial) (by rw [stW, if_pos e, if_pos (.inr (of_decide_eq_true c2))])
        · refine ev_pos e ?_
          rw [wrap_succ hi (by omega)]
          exact ev_eqv (ih s trivial) (by rw [stW, if_pos e, if_neg (fun h => h.elim c (fun h => c2 (decide_eq_true h)))])
    · refine ev_succ ?_
      simp only [impl_votes_spare.j1]
      refine ev_neg (by decide) (ev_neg (by rw [e]; decide) ?_)
      rw [wrap_succ hi (by omega)]
      exact ev_eqv (ih (s.1, mx s.2 (wtF W i 0)) trivial) (by rw [stW, if_neg (by rw [e]; decide)]; rfl)
theorem weQuota_ev (g : Nat → Bool) (N : Nat) (hN : N ≤ 512) (W : List Int) (h : Wok W) : Ev (fun k => spec_weQuota.f k (tabB g N) W) (wrap64 ((wqR g W N).2 + 1), decide ((wqR g W N).2 < (wqR g W N).1)) := by
  unfold spec_weQuota.f wqR
  rw [tabB_len]
  have := ev_rangeS N (fun k i (s : Int × Int) => spec_weQuota.l0 k s.2 s.1 (tabB g N) (N : Int) (i : Int) 0 W) (fun i s => (wrap64 ((((List.range N).drop i).foldl (stW g W) s).2 + 1), decide ((((List.range N).drop i).foldl (stW g W) s).2 < (((List.range N).drop i).foldl (stW g W) s).1))) (fun _ _ => True) ?_ ?_ 0 (-1, -1) (Nat.zero_le _) trivial
  · simpa using this
  · intro s _
    refine ev_succ ?_
    simp only [spec_weQuota.l0]
    exact ev_neg (Int.lt_irrefl _) (ev_eqv (Ev.now _) (by simp [List.drop_eq_nil_of_le]))
  · intro i s hi _ ih
    refine ev_succ ?_
    simp only [spec_weQuota.l0]
    have hr : rdOf false (tabB g N) (i : Int) = g i := by rw [rdOf_get (by rw [tabB_len]; exact hi), tabB_get]
    refine ev_pos (by omega) (ev_pos (by omega) (ev_pos (by rw [tabB_len]; omega) (Ev.bind (voWeight_ev 0 W h i) ?_)))
    rw [range_drop N i hi, List.foldl_cons, hr]
    refine ev_bool (fun e => ?_) (fun e => ?_)
    · refine lc_ite (fun c => ?_) (fun c => ?_)
      · refine ev_succ ?_
        simp only [spec_weQuota.j1]
        refine ev_pos trivial (ev_pos e ?_)
        rw [wrap_succ hi (by omega)]
        exact ev_eqv (ih (wtF W i 0, s.2) trivial) (by rw [stW, if_pos e, if_pos (.inl c)])
      · refine ev_succ ?_
        simp only [spec_weQuota.j1]
        refine lc_ite (fun c2 => ?_) (fun c2 => ?_)
        · refine ev_pos e ?_
          rw [wrap_succ hi (by omega)]
          exact ev_eqv (ih (wtF W i 0, s.2) trivial) (by rw [stW, if_pos e, if_pos (.inr (of_decide_eq_true c2))])
        · refine ev_pos e ?_
          rw [wrap_succ hi (by omega)]
          exact ev_eqv (ih s trivial) (by rw [stW, if_pos e, if_neg (fun h => h.elim c (fun h => c2 (decide_eq_true h)))])
    · refine ev_succ ?_
      simp only [spec_weQuota.j1]
      refine ev_neg (by decide) (ev_neg (by rw [e]; decide) ?_)
      rw [wrap_succ hi (by omega)]
      refine lc_ite (fun c => ?_) (fun c => ?_)
      · exact ev_eqv (ih (s.1, wtF W i 0) trivial) (by rw [stW, if_neg (by rw [e]; decide), if_pos c])
      · exact ev_eqv (ih s trivial) (by rw [stW, if_neg (by rw [e]; decide), if_neg c])
theorem tabB_congr {f g : Nat → Bool} {N : Nat} (h : ∀ m, m < N → f m = g m) : tabB f N = tabB g N := by
  unfold tabB
  exact List.map_congr_left fun m hm => h m (List.mem_range.1 hm)
end Go.Proofs.YtmbkmabpebjboaaGreat.Q
end
section
namespace Go.Proofs.YtmbkmabpebjboaaGreat.Q
open Go.RowKit Go.Proofs.YtmbkmabpebjboaaGreatW.PrintWords Go.Proofs.YtmbkmabpebjboaaGreatW.PrintLast Go.Proofs.YtmbkmabpebjboaaGreatW.PrintMore
attribute [local go_sem] max2_int min2_int max_two min_two max_three min_three max_four min_four
set_option linter.unusedVariables false
set_option linter.unusedSimpArgs false
mutual
def spec_weLook.l0 : Nat → List Bool → Int → List Int → Int → Int → Option (List Int × Bool)
 | 0, _, _, _, _, _ => none
 | k + 1, x0, x1, x2, x3, x13 => if x13 ≤ x3 then ((spec_l1Own.f x2).bind fun t495 => (if t495.length < 17592186044416 then ((spec_weLook.f k x0 x1 (t495 ++ [x13]) (wrap64 (x3 - x13))).bind fun bt501 => (if bt501.2 = true then (some (bt501.1, true)) else (spec_weLook.l0 k x0 x1 x2 x3 (wrap64 (x13 + 1))))) else (none))) else (some (([] : List Int), false))
def spec_weLook.f : Nat → List Bool → Int → List Int → Int → Option (List Int × Bool)
 | 0, _, _, _, _ => none
 | k + 1, l0, a1, l2, a3 => if (l2.length : Int) = (wrap64 (a1 - 1)) then ((spec_l1Own.f l2).bind fun t487 => (if t487.length < 17592186044416 then ((some (t487 ++ [a3] : List Int)).bind fun y490 => ((spec_weQuota.f k l0 y490).bind fun bt493 => (some (y490, bt493.2)))) else (none))) else (spec_weLook.l0 k l0 a1 l2 a3 0)
end
def spec_weFind.l0 : Nat → List Bool → Int → Int → List (List Int) → Option (Int × List Int × Bool)
 | 0, _, _, _, _ => none
 | k + 1, x4, x5, x506000, x506001 => (spec_weLook.f k x4 x506000 ([] : List Int) x5).bind fun bt511 => (if bt511.2 = true then ((spec_weQuota.f k x4 bt511.1).bind fun bt515 => (some (bt515.1, bt511.1, true))) else (spec_weFind.l0 k x4 (wrap64 (x5 + 1)) x506000 x506001))
def spec_weFind.f (k : Nat) (a0_0 : Int) (l0_1 : List (List Int)) : Option (Int × List Int × Bool) := (spec_gmAll.f k a0_0 l0_1).bind fun t507 => ((spec_deComplete.f k t507 a0_0).bind fun t510 => (if t510 = true then (spec_weFind.l0 k t507 1 a0_0 l0_1) else (some (0, ([] : List Int), false))))
end Go.Proofs.YtmbkmabpebjboaaGreat.Q
end
section
namespace Go.Proofs.YtmbkmabpebjboaaGreat.Q
open Go.RowKit Go.Proofs.YtmbkmabpebjboaaGreatW.PrintWords Go.Proofs.YtmbkmabpebjboaaGreatW.PrintLast Go.Proofs.YtmbkmabpebjboaaGreatW.PrintMore
set_option linter.unusedVariables false
set_option linter.unusedSimpArgs false
def fitF (g : Nat → Bool) (N : Nat) (W : List Int) : Option Int := if (wqR g W N).1 ≤ (wqR g W N).2 then none else some (wrap64 ((wqR g W N).2 + 1))
def lookF (fit : List Int → Option Int) : Nat → List Int → Nat → Option (Int × List Int)
  | 0, b, s => (fit (b ++ [(s : Int)])).map fun q => (q, b ++ [(s : Int)])
  | r + 1, b, s => (List.range (s + 1)).findSome? fun x : Nat => lookF fit r (b ++ [(x : Int)]) (s - x)
theorem look_ok (fit : List Int → Option Int) : ∀ (r : Nat) (b : List Int) (s : Nat) (p : Int × List Int), s ≤ 5000 → (∀ w ∈ b, 0 ≤ w ∧ w ≤ 5000) → lookF fit r b s = some p → fit p.2 = some p.1 ∧ p.2.length = b.length + r + 1 ∧ ∀ w ∈ p.2, 0 ≤ w ∧ w ≤ 5000
  | 0, b, s, p, hs, hb, h => by
    rw [lookF, Option.map_eq_some_iff] at h
    obtain ⟨q, h1, rfl⟩ := h
    refine ⟨h1, by simp, fun w hw => ?_⟩
    rcases List.mem_append.1 hw with h | h
    · exact hb w h
    · rw [List.mem_singleton] at h; omega
  | r + 1, b, s, p, hs, hb, h => by
    rw [lookF, List.findSome?_eq_some_iff] at h
    obtain ⟨l1, x, l2, e, h, _⟩ := h
    have hx : x < s + 1 := List.mem_range.1 (by rw [e]; simp)
    obtain ⟨h1, h2, h3⟩ := look_ok fit r _ _ p (by omega) (fun w hw => by
      rcases List.mem_append.1 hw with h | h
      · exact hb w h
      · rw [List.mem_singleton] at h; omega) h
    exact ⟨h1, by rw [h2, List.length_append, List.length_singleton]; omega, h3⟩
theorem look_some (fit : List Int → Option Int) : ∀ (r : Nat) (b e : List Int) (s : Nat), e.length = r + 1 → (∀ w ∈ e, 0 ≤ w) → e.foldr (fun a c => a + c) 0 = (s : Int) → fit (b ++ e) ≠ none → lookF fit r b s ≠ none
  | 0, b, e, s, h1, h2, h3, h4 => by
    match e, h1 with
    | [w], _ =>
      have : w = (s : Int) := by simpa using h3
      subst this
      rw [lookF]
      simpa using h4
  | r + 1, b, e, s, h1, h2, h3, h4 => by
    match e, h1 with
    | w :: ws, h1 =>
      have hw := h2 w (List.mem_cons_self ..)
      have hn : 0 ≤ ws.foldr (fun a c => a + c) 0 := by
        have : ∀ l : List Int, (∀ w ∈ l, 0 ≤ w) → 0 ≤ l.foldr (fun a c => a + c) 0 := fun l => by
          induction l with
          | nil => intro _; exact Int.le_refl _
          | cons y ys ih =>
            intro h
            have h1 := ih (fun z hz => h z (List.mem_cons_of_mem _ hz))
            have h2 := h y (List.mem_cons_self ..)
            rw [List.foldr_cons]; omega
        exact this ws (fun z hz => h2 z (List.mem_cons_of_mem _ hz))
      rw [List.foldr_cons] at h3
      have hx : (w.toNat : Int) = w := Int.toNat_of_nonneg hw
      rw [lookF]
      intro hc
      rw [List.findSome?_eq_none_iff] at hc
      have := hc w.toNat (List.mem_range.2 (by omega))
      rw [hx] at this
      refine look_some fit r (b ++ [w]) ws (s - w.toNat) (by simpa using h1) (fun z hz => h2 z (List.mem_cons_of_mem _ hz)) (by omega) ?_ this
      rw [List.append_assoc]; exact h4
def resL : Option (Int × List Int) → List Int × Bool
  | some p => (p.2, true)
  | none => ([], false)
theorem l1Own_eq (b : List Int) (h : b.length < 17592186044416) : spec_l1Own.f b = some b := by
  unfold spec_l1Own.f
  simp [h]
section
variable (g : Nat → Bool) (N n : Nat) (hN : N ≤ 512) (hn : n ≤ 9)
include hN hn
theorem weLook_ev : ∀ (r : Nat) (b : List Int) (s : Nat), b.length + r + 1 = n → (∀ w ∈ b, 0 ≤ w ∧ w ≤ 5000) → s ≤ 5000 → ∃ l, Ev (fun k => spec_weLook.f k (tabB g N) (n : Int) b (s : Int)) (l, (lookF (fitF g N) r b s).isSome) ∧ ∀ p, lookF (fitF g N) r b s = some p → l = p.2
  | 0, b, s, hb, hw, hs => by
    have hW : Wok (b ++ [(s : Int)]) := ⟨by simp; omega, fun w h => by
      rcases List.mem_append.1 h with h | h
      · exact hw w h
      · rw [List.mem_singleton] at h; omega⟩
    refine ⟨b ++ [(s : Int)], ?_, fun p hp => ?_⟩
    · refine ev_succ ?_
      simp only [spec_weLook.f]
      refine ev_pos (by rw [wrap64_id (by omega)]; omega) (ev_bindS (l1Own_eq b (by omega)) (ev_pos (by omega) (ev_bindS rfl (Ev.bind (weQuota_ev g N hN _ hW) (ev_eqv (Ev.now _) ?_)))))
      rw [lookF, Option.isSome_map, fitF]
      by_cases c : (wqR g (b ++ [(s : Int)]) N).1 ≤ (wqR g (b ++ [(s : Int)]) N).2
      · rw [if_pos c, decide_eq_false (by omega)]; rfl
      · rw [if_neg c, decide_eq_true (by omega)]; rfl
    · rw [lookF, Option.map_eq_some_iff] at hp
      obtain ⟨q, _, rfl⟩ := hp
      rfl
  | r + 1, b, s, hb, hw, hs => by
    have hl := ev_range (s + 1) (fun k i => spec_weLook.l0 k (tabB g N) (n : Int) b (s : Int) (i : Int)) (fun i => resL (((List.range (s + 1)).drop i).findSome? fun x : Nat => lookF (fitF g N) r (b ++ [(x : Int)]) (s - x))) ?_ ?_ 0 (Nat.zero_le _)
    · refine ⟨(resL (lookF (fitF g N) (r + 1) b s)).1, ?_, fun p hp => by rw [hp]; rfl⟩
      refine ev_succ ?_
      simp only [spec_weLook.f]
      refine ev_neg (by rw [wrap64_id (by omega)]; omega) (ev_eqv hl ?_)
      rw [List.drop_zero, ← lookF]
      cases lookF (fitF g N) (r + 1) b s <;> rfl
    · refine ev_succ ?_
      simp only [spec_weLook.l0]
      refine ev_neg (by omega) (ev_eqv (Ev.now _) ?_)
      rw [List.drop_eq_nil_of_le (by simp)]; rfl
    · intro i hi ih
      refine ev_succ ?_
      simp only [spec_weLook.l0]
      have hr := weLook_ev r (b ++ [(i : Int)]) (s - i) (by simp; omega) (fun w h => by
        rcases List.mem_append.1 h with h | h
        · exact hw w h
        · rw [List.mem_singleton] at h; omega) (by omega)
      obtain ⟨l, h1, h2⟩ := hr
      refine ev_pos (by omega) (ev_bindS (l1Own_eq b (by omega)) (ev_pos (by omega) ?_))
      have e1 : wrap64 ((s : Int) - (i : Int)) = ((s - i : Nat) : Int) := by rw [wrap64_id (by omega)]; omega
      rw [e1, wrap_succ hi (by omega), range_drop (s + 1) i hi, List.findSome?_cons]
      refine Ev.bind h1 (ev_bool (fun e => ?_) (fun e => ?_))
      · cases h3 : lookF (fitF g N) r (b ++ [(i : Int)]) (s - i) with
        | none => rw [h3] at e; cases e
        | some p => exact ev_eqv (Ev.now _) (by rw [h2 p h3]; rfl)
      · cases h3 : lookF (fitF g N) r (b ++ [(i : Int)]) (s - i) with
        | none => exact ih
        | some p => rw [h3] at e; cases e
theorem eachW_ev : ∀ (r : Nat) (b : List Int) (s : Nat), b.length + r + 1 = n → (∀ w ∈ b, 0 ≤ w ∧ w ≤ 5000) → s ≤ 5000 → Ev (fun k => eachW.f k (n : Int) (tabB g N) b (s : Int)) (lookF (fitF g N) r b s)
  | 0, b, s, hb, hw, hs => by
    have hW : Wok (b ++ [(s : Int)]) := ⟨by simp; omega, fun w h => by
      rcases List.mem_append.1 h with h | h
      · exact hw w h
      · rw [List.mem_singleton] at h; omega⟩
    refine ev_succ ?_
    simp only [eachW.f]
    refine ev_pos (by rw [wrap64_id (by omega)]; omega) (ev_pos (by omega) (Ev.bind (spare_ev _ g N hN _ hW) ?_))
    rw [lookF, fitF]
    exact lc_ite (fun c => ev_eqv (Ev.now _) (by rw [if_pos c]; rfl)) (fun c => ev_eqv (Ev.now _) (by rw [if_neg c]; rfl))
  | r + 1, b, s, hb, hw, hs => by
    have hl := ev_range (s + 1) (fun k i => eachW.l k (n : Int) (tabB g N) b (s : Int) (i : Int)) (fun i => ((List.range (s + 1)).drop i).findSome? fun x : Nat => lookF (fitF g N) r (b ++ [(x : Int)]) (s - x)) ?_ ?_ 0 (Nat.zero_le _)
    · refine ev_succ ?_
      simp only [eachW.f]
      exact ev_neg (by rw [wrap64_id (by omega)]; omega) (ev_eqv hl (by rw [List.drop_zero, ← lookF]))
    · refine ev_succ ?_
      simp only [eachW.l]
      refine ev_neg (by rw [wrap64_id (by omega)]; omega) (ev_eqv (Ev.now _) ?_)
      rw [List.drop_eq_nil_of_le (by simp)]; rfl
    · intro i hi ih
      refine ev_succ ?_
      simp only [eachW.l]
      have hr := eachW_ev r (b ++ [(i : Int)]) (s - i) (by simp; omega) (fun w h => by
        rcases List.mem_append.1 h with h | h
        · exact hw w h
        · rw [List.mem_singleton] at h; omega) (by omega)
      have e1 : wrap64 ((s : Int) - (i : Int)) = ((s - i : Nat) : Int) := by rw [wrap64_id (by omega)]; omega
      refine ev_pos (by rw [wrap64_id (by omega)]; omega) (ev_pos (by omega) ?_)
      rw [e1, wrap_succ hi (by omega), range_drop (s + 1) i hi, List.findSome?_cons]
      refine Ev.bind hr ?_
      cases h3 : lookF (fitF g N) r (b ++ [(i : Int)]) (s - i) with
      | none => exact ih
      | some p => exact Ev.now _
end
theorem deUnlikeW_ev (W : List Int) (q : Int) (n i j : Nat) (hn : n ≤ 9) (hi : i < n) (hj : j < n) : Ev (fun k => spec_deUnlike.f k (tabB (gW W q) (2 ^ n)) (i : Int) (j : Int)) false := by
  unfold spec_deUnlike.f
  by_cases h : W.getD j 0 ≤ W.getD i 0
  · exact Ev.bind (ev_eqv (deWorth_ev (gW W q) n i j hn hi hj) (worth_W hn hi hj h)) (ev_pos rfl (Ev.now _))
  · refine Ev.bind (deWorth_ev (gW W q) n i j hn hi hj) (ev_bool (fun _ => Ev.now _) (fun _ => ?_))
    exact Ev.bind (ev_eqv (deWorth_ev (gW W q) n j i hn hj hi) (worth_W hn hj hi (by omega))) (Ev.now _)
theorem deCompleteW_ev (W : List Int) (q : Int) (n : Nat) (hn : n ≤ 9) : Ev (fun k => spec_deComplete.f k (tabB (gW W q) (2 ^ n)) (n : Int)) true := by
  unfold spec_deComplete.f
  have := ev_range n (fun k i => spec_deComplete.l0 k (tabB (gW W q) (2 ^ n)) (n : Int) (i : Int)) (fun _ => true) ?_ ?_ 0 (Nat.zero_le _)
  · exact this
  · refine ev_succ ?_
    simp only [spec_deComplete.l0]
    exact ev_neg (Int.lt_irrefl _) (Ev.now _)
  · intro i hi ih
    refine ev_succ ?_
    simp only [spec_deComplete.l0]
    refine ev_pos (by omega) ?_
    have := ev_range i (fun k j => spec_deComplete.l1 k (tabB (gW W q) (2 ^ n)) (n : Int) (i : Int) (j : Int)) (fun _ => true) ?_ ?_ 0 (Nat.zero_le _)
    · exact this
    · refine ev_succ ?_
      simp only [spec_deComplete.l1]
      refine ev_neg (Int.lt_irrefl _) ?_
      rw [wrap_succ hi (by omega)]
      exact ih
    · intro j hj ih2
      refine ev_succ ?_
      simp only [spec_deComplete.l1]
      refine ev_pos (by omega) (Ev.bind (deUnlikeW_ev W q n i j hn hi (by omega)) (ev_neg (by decide) ?_))
      rw [wrap_succ hj (by omega)]
      exact ih2
theorem wtF_le : ∀ (W : List Int) (m i : Nat), (∀ w ∈ W, 0 ≤ w ∧ w ≤ 5000) → wtF W m i ≤ (W.length : Int) * 5000
  | [], _, _, _ => by simp [wtF]
  | w :: ws, m, i, h => by
    have h1 := wtF_le ws m (i + 1) (fun x hx => h x (List.mem_cons_of_mem _ hx))
    have h2 := h w (List.mem_cons_self ..)
    rw [wtF, List.length_cons]
    split <;> omega
theorem fold_pos (g : Nat → Bool) (W : List Int) (hW : Wok W) : ∀ (l : List Nat) (st : Int × Int), (0 ≤ st.2 ∧ st.2 ≤ 45000) → 0 ≤ (l.foldl (stW g W) st).2 ∧ (l.foldl (stW g W) st).2 ≤ 45000
  | [], st, h => h
  | m :: l, st, h => by
    rw [List.foldl_cons]
    refine fold_pos g W hW l _ ?_
    have h1 := wtF_nn W m 0 hW.2
    have h2 := wtF_le W m 0 hW.2
    have h3 := hW.1
    unfold stW
    split
    · split
      · exact h
      · exact h
    · dsimp only
      split <;> omega
theorem fit_pos (g : Nat → Bool) (N : Nat) (hN : 1 ≤ N) (h0 : g 0 = false) (W : List Int) (hW : Wok W) (p : Int) (h : fitF g N W = some p) : p ≠ 0 ∧ p = (wqR g W N).2 + 1 := by
  have hp : 0 ≤ (wqR g W N).2 ∧ (wqR g W N).2 ≤ 45000 := by
    unfold wqR
    obtain ⟨d, rfl⟩ : ∃ d, N = d + 1 := ⟨N - 1, by omega⟩
    rw [show List.range (d + 1) = 0 :: (List.range (d + 1)).drop 1 from by rw [← range_drop (d + 1) 0 (by omega), List.drop_zero], List.foldl_cons]
    refine fold_pos g W hW _ _ ?_
    have h1 := wtF_nn W 0 0 hW.2
    have h2 := wtF_le W 0 0 hW.2
    have h3 := hW.1
    unfold stW
    rw [h0, if_neg (by decide)]
    dsimp only
    rw [if_pos (by omega)]
    omega
  unfold fitF at h
  split at h
  · cases h
  · rw [wrap64_id (by omega)] at h
    have := Option.some.inj h
    exact ⟨by omega, this.symm⟩
theorem fold_fit (W : List Int) (q : Int) (hq : 1 ≤ q) : ∀ (l : List Nat) (st : Int × Int), st.2 < q → (st.1 = -1 ∨ q ≤ st.1) → (q ≤ st.1 ∨ ∃ m ∈ l, gW W q m = true) → (l.foldl (stW (gW W q) W) st).2 < q ∧ q ≤ (l.foldl (stW (gW W q) W) st).1
  | [], st, h1, h2, h3 => ⟨h1, h3.elim id (fun h => by obtain ⟨m, hm, _⟩ := h; cases hm)⟩
  | m :: l, st, h1, h2, h3 => by
    rw [List.foldl_cons]
    cases e : gW W q m with
    | true =>
      have e2 : q ≤ wtF W m 0 := by unfold gW at e; exact of_decide_eq_true e
      have hs : (stW (gW W q) W st m).2 = st.2 ∧ q ≤ (stW (gW W q) W st m).1 := by
        unfold stW
        rw [if_pos e]
        split
        · exact ⟨rfl, e2⟩
        · exact ⟨rfl, by omega⟩
      exact fold_fit W q hq l _ (by rw [hs.1]; exact h1) (.inr hs.2) (.inl hs.2)
    | false =>
      have e2 : wtF W m 0 < q := by unfold gW at e; have := of_decide_eq_false e; omega
      have hs : (stW (gW W q) W st m).1 = st.1 ∧ (stW (gW W q) W st m).2 < q := by
        unfold stW
        rw [if_neg (by rw [e]; decide)]
        refine ⟨rfl, ?_⟩
        dsimp only
        split <;> omega
      refine fold_fit W q hq l _ hs.2 (by rw [hs.1]; exact h2) ?_
      rw [hs.1]
      rcases h3 with h | ⟨m', hm', h⟩
      · exact .inl h
      · rcases List.mem_cons.1 hm' with rfl | hm'
        · rw [e] at h; cases h
        · exact .inr ⟨m', hm', h⟩
theorem wt_full : ∀ (W : List Int) (M i : Nat), (∀ j, j < W.length → bitB M (i + j) = true) → wtF W M i = W.foldr (fun a c => a + c) 0
  | [], _, _, _ => rfl
  | w :: ws, M, i, h => by
    rw [wtF, List.foldr_cons, wt_full ws M (i + 1) (fun j hj => by have := h (j + 1) (by rw [List.length_cons]; omega); rwa [show i + 1 + j = i + (j + 1) by omega]), if_pos (by have := h 0 (by rw [List.length_cons]; omega); rwa [Nat.add_zero] at this)]
theorem own_fit (W : List Int) (hW : Wok W) (q : Int) (hq : 1 ≤ q) (hs : q ≤ W.foldr (fun a c => a + c) 0) : fitF (gW W q) (2 ^ W.length) W ≠ none := by
  have hpos := Nat.two_pow_pos W.length
  have hw : gW W q (2 ^ W.length - 1) = true := by
    unfold gW
    rw [wt_full W _ 0 (fun j hj => by rw [bitB_test, Nat.testBit_two_pow_sub_one, Nat.zero_add]; exact decide_eq_true hj)]
    exact decide_eq_true hs
  have := fold_fit W q hq (List.range (2 ^ W.length)) (-1, -1) (by show -1 < q; omega) (.inl rfl) (.inr ⟨_, List.mem_range.2 (by omega), hw⟩)
  unfold fitF wqR
  rw [if_neg (by omega)]
  exact Option.some_ne_none _
theorem find_now (W : List Int) (hW : Wok W) (q : Int) (hn : 1 ≤ W.length) (hp : 2 ^ W.length ≤ 512) (hpos : 0 < 2 ^ W.length) (h0 : gW W q 0 = false) (L : List (List Int)) (x : Nat) (hx : x ≤ 5000) (p : Int × List Int) (hk : lookF (fitF (gW W q) (2 ^ W.length)) (W.length - 1) [] x = some p) :
    ∃ p : Int × List Int, (p.2.length = W.length ∧ ∀ w ∈ p.2, 0 ≤ w ∧ w ≤ 5000) ∧ Ev (fun k => spec_weFind.l0 k (tabB (gW W q) (2 ^ W.length)) (x : Int) (W.length : Int) L) (p.1, p.2, true) ∧ Ev (fun k => fnd.l k (W.length : Int) (tabB (gW W q) (2 ^ W.length)) 0 [] (x : Int)) p := by
  obtain ⟨f1, f2, f3⟩ := look_ok _ (W.length - 1) [] x p hx (by simp) hk
  rw [List.length_nil] at f2
  have hWp : Wok p.2 := ⟨by have := hW.1; omega, f3⟩
  obtain ⟨g1, g2⟩ := fit_pos (gW W q) (2 ^ W.length) hpos h0 p.2 hWp p.1 f1
  have ew : wrap64 ((x : Int) + 1) = ((x + 1 : Nat) : Int) := by rw [wrap64_id (by omega)]; omega
  refine ⟨p, ⟨by omega, f3⟩, ?_, ?_⟩
  · obtain ⟨l, e1, e2⟩ := weLook_ev (gW W q) (2 ^ W.length) W.length hp hW.1 (W.length - 1) [] x (by simp; omega) (by simp) hx
    rw [hk] at e1
    obtain rfl := e2 p hk
    refine ev_succ ?_
    simp only [spec_weFind.l0]
    refine Ev.bind e1 (ev_pos rfl (Ev.bind (weQuota_ev (gW W q) _ hp p.2 hWp) (ev_eqv (Ev.now _) ?_)))
    have hf := f1
    unfold fitF at hf
    split at hf
    · cases hf
    · rw [Option.some.inj hf]
  · have e1 := eachW_ev (gW W q) (2 ^ W.length) W.length hp hW.1 (W.length - 1) [] x (by simp; omega) (by simp) hx
    rw [hk] at e1
    refine ev_succ ?_
    simp only [fnd.l]
    refine ev_pos trivial (Ev.bind e1 (ev_succ ?_))
    simp only [fnd.l]
    exact ev_neg g1 (ev_eqv (Ev.now _) rfl)
theorem find_ev (W : List Int) (hW : Wok W) (q : Int) (hq : 1 ≤ q) (hs : q ≤ W.foldr (fun a c => a + c) 0) (hn : 1 ≤ W.length) (T0 : Nat) (hT0 : W.foldr (fun a c => a + c) 0 = (T0 : Int)) (hT1 : T0 ≤ 5000) (L : List (List Int)) :
    ∀ d x, x + d = T0 → ∃ p : Int × List Int, (p.2.length = W.length ∧ ∀ w ∈ p.2, 0 ≤ w ∧ w ≤ 5000) ∧ Ev (fun k => spec_weFind.l0 k (tabB (gW W q) (2 ^ W.length)) (x : Int) (W.length : Int) L) (p.1, p.2, true) ∧ Ev (fun k => fnd.l k (W.length : Int) (tabB (gW W q) (2 ^ W.length)) 0 [] (x : Int)) p := by
  have hp : 2 ^ W.length ≤ 512 := Nat.pow_le_pow_right (n := 2) (by decide) hW.1
  have hpos := Nat.two_pow_pos W.length
  have h0 : gW W q 0 = false := by
    unfold gW
    have : ∀ (V : List Int) (i : Nat), wtF V 0 i = 0 := fun V => by
      induction V with
      | nil => intro i; rfl
      | cons v vs ih => intro i; rw [wtF, ih, bitB_test, Nat.zero_testBit, if_neg (by decide)]; rfl
    rw [this]
    exact decide_eq_false (by omega)
  intro d
  induction d with
  | zero =>
    intro x hx
    obtain rfl : x = T0 := by omega
    have hne := look_some (fitF (gW W q) (2 ^ W.length)) (W.length - 1) [] W x (by omega) (fun w h => (hW.2 w h).1) hT0 (by rw [List.nil_append]; exact own_fit W hW q hq hs)
    obtain ⟨p, hk⟩ := Option.ne_none_iff_exists'.1 hne
    exact find_now W hW q hn hp hpos h0 L x hT1 p hk
  | succ d ih =>
    intro x hx
    cases hk : lookF (fitF (gW W q) (2 ^ W.length)) (W.length - 1) [] x with
    | some p => exact find_now W hW q hn hp hpos h0 L x (by omega) p hk
    | none =>
      obtain ⟨p, h1, h2, h3⟩ := ih (x + 1) (by omega)
      have ew : wrap64 ((x : Int) + 1) = ((x + 1 : Nat) : Int) := by rw [wrap64_id (by omega)]; omega
      refine ⟨p, h1, ?_, ?_⟩
      · obtain ⟨l, e1, e2⟩ := weLook_ev (gW W q) (2 ^ W.length) W.length hp hW.1 (W.length - 1) [] x (by simp; omega) (by simp) (by omega)
        rw [hk] at e1
        refine ev_succ ?_
        simp only [spec_weFind.l0]
        refine Ev.bind e1 (ev_neg (by simp) ?_)
        rw [ew]; exact h2
      · have e1 := eachW_ev (gW W q) (2 ^ W.length) W.length hp hW.1 (W.length - 1) [] x (by simp; omega) (by simp) (by omega)
        rw [hk] at e1
        refine ev_succ ?_
        simp only [fnd.l]
        refine ev_pos trivial (Ev.bind e1 ?_)
        rw [ew]; exact h3
theorem wK_of (g : Nat → Bool) (n i j : Nat) (hn : n ≤ 9) (hi : i < n) (hj : j < n) (h : allB (wsB g i j) (2 ^ n) 0 = true) : wK n (encT g (2 ^ n)) i j = true := by
  unfold wK
  rw [beq_iff_eq]
  refine Nat.eq_of_testBit_eq fun m => ?_
  unfold offK
  simp only [Nat.testBit_and, Nat.testBit_shiftRight, encT_bit]
  by_cases c : m < 2 ^ n
  · rw [decide_eq_true c, Bool.true_and]
    unfold allB at h
    have h1 := List.all_eq_true.1 h m (List.mem_range.2 (by omega))
    rw [Nat.zero_add] at h1
    unfold wsB at h1
    rw [bitB_test, bitB_test] at h1
    cases e1 : m.testBit i with
    | true => simp
    | false =>
      cases e2 : m.testBit j with
      | true => simp
      | false =>
        have l1 := add_lt m i n hn c hi (by rw [bitB_test]; exact e1)
        rw [e1, e2, Nat.add_comm m, Nat.add_comm m] at h1
        rw [Nat.add_comm] at l1
        rw [decide_eq_true l1]
        revert h1
        cases g (2 ^ j + m) <;> cases g (2 ^ i + m) <;> simp
  · rw [decide_eq_false c]; simp
theorem phi_b (x : Nat) : 0 ≤ phiK.getD x 0 ∧ phiK.getD x 0 ≤ 12 := by
  by_cases h : x < 17
  · have : ∀ y : Nat, y < 17 → 0 ≤ phiK.getD y 0 ∧ phiK.getD y 0 ≤ 12 := by decide
    exact this x h
  · rw [List.getD_eq_getElem?_getD, List.getElem?_eq_none (by show 17 ≤ x; omega)]; decide
theorem sum_le (W : List Int) (h : ∀ w ∈ W, 0 ≤ w ∧ w ≤ 12) : 0 ≤ W.foldr (fun a c => a + c) 0 ∧ W.foldr (fun a c => a + c) 0 ≤ (W.length : Int) * 12 := by
  induction W with
  | nil => simp
  | cons v vs ih =>
    have h1 := ih (fun z hz => h z (List.mem_cons_of_mem _ hz))
    have h2 := h v (List.mem_cons_self ..)
    rw [List.foldr_cons, List.length_cons]
    omega
theorem hasW (hK : ∀ k, k < 5 → chkA k = true) (g : Nat → Bool) (n : Nat) (hn : 1 ≤ n ∧ n ≤ 5) (hm : MonG g (2 ^ n)) (h0 : g 0 = false) (h1 : g (2 ^ n - 1) = true)
    (hc : ∀ i j, i < n → j < n → allB (wsB g i j) (2 ^ n) 0 = true ∨ allB (wsB g j i) (2 ^ n) 0 = true) :
    ∃ (W : List Int) (q : Int), Wok W ∧ W.length = n ∧ 1 ≤ q ∧ q ≤ W.foldr (fun a c => a + c) 0 ∧ W.foldr (fun a c => a + c) 0 ≤ 5000 ∧ ∀ m, m < 2 ^ n → g m = gW W q m := by
  have hpos := Nat.two_pow_pos n
  obtain ⟨k, rfl⟩ : ∃ k, n = k + 1 := ⟨n - 1, by omega⟩
  have h := chkA_at (hK k (by omega)) g hm
  have hcK : complK (k + 1) (encT g (2 ^ (k + 1))) = true := by
    unfold complK
    refine List.all_eq_true.2 fun i hi => List.all_eq_true.2 fun j hj => ?_
    have hi := List.mem_range.1 hi
    have hj := List.mem_range.1 hj
    rw [Bool.or_eq_true]
    rcases hc i j hi (by omega) with h | h
    · exact .inl (wK_of g (k + 1) i j (by omega) hi (by omega) h)
    · exact .inr (wK_of g (k + 1) j i (by omega) (by omega) hi h)
  unfold chkK at h
  rw [hcK, encT_bit, encT_bit, h0, h1, decide_eq_true (show 2 ^ (k + 1) - 1 < 2 ^ (k + 1) by omega)] at h
  simp only [Bool.not_true, Bool.and_false, Bool.and_true, Bool.false_or] at h
  generalize hW : wtsK (k + 1) (encT g (2 ^ (k + 1))) = W at h
  generalize maxL W (encT g (2 ^ (k + 1))) (2 ^ (k + 1)) + 1 = q at h
  have hb : ∀ w ∈ W, 0 ≤ w ∧ w ≤ 12 := by
    intro w hw
    rw [← hW] at hw
    obtain ⟨i, _, rfl⟩ := List.mem_map.1 hw
    exact phi_b _
  have hl : W.length = k + 1 := by rw [← hW]; simp [wtsK]
  have hs := sum_le W hb
  unfold fitsK at h
  rw [Bool.and_eq_true, decide_eq_true_eq] at h
  have hg : ∀ m, m < 2 ^ (k + 1) → g m = gW W q m := by
    intro m hm
    have h2 := List.all_eq_true.1 h.2 m (List.mem_range.2 hm)
    rw [beq_iff_eq, encT_bit, decide_eq_true hm, Bool.true_and] at h2
    rw [h2]; rfl
  refine ⟨W, q, ⟨by omega, fun w hw => by have := hb w hw; omega⟩, hl, h.1, ?_, by omega, hg⟩
  have h3 := hg (2 ^ (k + 1) - 1) (by omega)
  rw [h1] at h3
  have h4 : q ≤ wtF W (2 ^ (k + 1) - 1) 0 := of_decide_eq_true h3.symm
  rw [wt_full W _ 0 (fun j hj => by rw [bitB_test, Nat.testBit_two_pow_sub_one, Nat.zero_add]; exact decide_eq_true (by omega))] at h4
  exact h4
theorem swap_K : ((List.range 5).all fun i => (List.range 5).all fun j => (List.range 32).all fun S => S.testBit i || S.testBit j || (List.range 32).all fun T => T.testBit i || T.testBit j || i == j ||
    (betw (S + 2 ^ i) (T + 2 ^ j) (S + 2 ^ j) && wOf (S + 2 ^ i) (T + 2 ^ j) (S + 2 ^ j) == T + 2 ^ i && (betw (S + 2 ^ i) (T + 2 ^ j) (T + 2 ^ i) && wOf (S + 2 ^ i) (T + 2 ^ j) (T + 2 ^ i) == S + 2 ^ j))) = true := by decide +kernel
theorem swap_at {i j S T : Nat} (hi : i < 5) (hj : j < 5) (hS : S < 32) (hT : T < 32) (hij : i ≠ j) (a : S.testBit i = false) (b : S.testBit j = false) (c : T.testBit i = false) (d : T.testBit j = false) :
    (betw (S + 2 ^ i) (T + 2 ^ j) (S + 2 ^ j) = true ∧ wOf (S + 2 ^ i) (T + 2 ^ j) (S + 2 ^ j) = T + 2 ^ i) ∧ (betw (S + 2 ^ i) (T + 2 ^ j) (T + 2 ^ i) = true ∧ wOf (S + 2 ^ i) (T + 2 ^ j) (T + 2 ^ i) = S + 2 ^ j) := by
  have h := List.all_eq_true.1 (List.all_eq_true.1 (List.all_eq_true.1 swap_K i (List.mem_range.2 hi)) j (List.mem_range.2 hj)) S (List.mem_range.2 hS)
  rw [a, b, Bool.false_or, Bool.false_or] at h
  have h := List.all_eq_true.1 h T (List.mem_range.2 hT)
  rw [c, d, Bool.false_or, Bool.false_or] at h
  simpa [hij] using h
theorem two_in {s t : Nat} : ∀ O : List Nat, s ∈ O → t ∈ O → (∃ a r, O = a ++ s :: r ∧ t ∈ s :: r) ∨ (∃ a r, O = a ++ t :: r ∧ s ∈ t :: r)
  | [], h, _ => by cases h
  | v :: O, hs, ht => by
    by_cases e1 : v = s
    · subst e1
      exact .inl ⟨[], O, rfl, ht⟩
    by_cases e2 : v = t
    · subst e2
      exact .inr ⟨[], O, rfl, hs⟩
    have hs : s ∈ O := (List.mem_cons.1 hs).resolve_left (fun h => e1 h.symm)
    have ht : t ∈ O := (List.mem_cons.1 ht).resolve_left (fun h => e2 h.symm)
    rcases two_in O hs ht with ⟨a, r, e, h⟩ | ⟨a, r, e, h⟩
    · exact .inl ⟨v :: a, r, by rw [e]; rfl, h⟩
    · exact .inr ⟨v :: a, r, by rw [e]; rfl, h⟩
theorem betw_comm (s t u : Nat) : betw s t u = betw t s u := by
  unfold betw aN
  rw [Nat.or_comm, Nat.and_comm s t]
theorem wOf_comm (s t u : Nat) : wOf s t u = wOf t s u := by
  unfold wOf aN
  rw [Nat.or_comm s t, Nat.and_comm s t]
theorem trade_at (g : Nat → Bool) (O : List Nat) (s t u w : Nat) (hs : s ∈ O) (ht : t ∈ O) (hu : u ∈ O) (hw : w ∈ O) (gs : g s = true) (gt : g t = true) (gu : g u = false) (gw : g w = false)
    (b1 : betw s t u = true) (w1 : wOf s t u = w) (b2 : betw s t w = true) (w2 : wOf s t w = u) : allT g (fun _ _ _ _ => true) O O ≠ none := by
  have key : ∀ s t, g s = true → g t = true → betw s t u = true → wOf s t u = w → betw s t w = true → wOf s t w = u → (∃ a r, O = a ++ s :: r ∧ t ∈ s :: r) → allT g (fun _ _ _ _ => true) O O ≠ none := by
    rintro s t gs gt b1 w1 b2 w2 ⟨a, r, e, h⟩ hn
    rw [allT_head, List.head?_eq_none_iff] at hn
    have hI : ∃ c, c ∈ liI g (fun _ _ _ _ => true) s t O := by
      rcases two_in O hu hw with ⟨a', r', e', h'⟩ | ⟨a', r', e', h'⟩
      · exact ⟨_, (liI_mem g _ O).2 ⟨a', u, r', e', by unfold inQ; rw [w1, gu, gw, b1]; simpa using h', rfl⟩⟩
      · exact ⟨_, (liI_mem g _ O).2 ⟨a', w, r', e', by unfold inQ; rw [w2, gu, gw, b2]; simpa using h', rfl⟩⟩
    obtain ⟨c, hc⟩ := hI
    have : c ∈ liA g (fun _ _ _ _ => true) O O := (liA_mem g _ O O).2 ⟨a, s, r, e, (liO_mem g _ O _).2 ⟨gs, t, h, gt, hc⟩⟩
    rw [hn] at this
    cases this
  rcases two_in O hs ht with h | h
  · exact key s t gs gt b1 w1 b2 w2 h
  · exact key t s gt gs (by rw [betw_comm]; exact b1) (by rw [wOf_comm]; exact w1) (by rw [betw_comm]; exact b2) (by rw [wOf_comm]; exact w2) h
theorem allB_false {p : Nat → Bool} {N : Nat} (h : ¬ allB p N 0 = true) : ∃ m, m < N ∧ p m = false := by
  unfold allB at h
  rw [List.all_eq_true] at h
  obtain ⟨m, hm⟩ := Classical.not_forall.1 h
  obtain ⟨h1, h2⟩ := Classical.not_imp.1 hm
  have := List.mem_range.1 h1
  rw [Nat.zero_add] at h2
  exact ⟨m, by omega, eq_false_of_ne_true h2⟩
theorem wsB_false {g : Nat → Bool} {i j m : Nat} (h : wsB g i j m = false) : m.testBit i = false ∧ m.testBit j = false ∧ g (m + 2 ^ j) = true ∧ g (m + 2 ^ i) = false := by
  unfold wsB at h
  rw [bitB_test, bitB_test] at h
  simpa [and_assoc] using h
theorem trade_unlike (g : Nat → Bool) (n i j : Nat) (hn : n ≤ 5) (hi : i < n) (hj : j < n) (h1 : ¬ allB (wsB g i j) (2 ^ n) 0 = true) (h2 : ¬ allB (wsB g j i) (2 ^ n) 0 = true) :
    allT g (fun _ _ _ _ => true) (ordL (2 ^ n)) (ordL (2 ^ n)) ≠ none := by
  have hp : 2 ^ n ≤ 32 := Nat.pow_le_pow_right (n := 2) (by decide) hn
  obtain ⟨T, hT, e1⟩ := allB_false h1
  obtain ⟨S, hS, e2⟩ := allB_false h2
  obtain ⟨t1, t2, t3, t4⟩ := wsB_false e1
  obtain ⟨s1, s2, s3, s4⟩ := wsB_false e2
  have hij : i ≠ j := fun e => by subst e; rw [t3] at t4; cases t4
  obtain ⟨⟨b1, w1⟩, b2, w2⟩ := swap_at (show i < 5 by omega) (show j < 5 by omega) (show S < 32 by omega) (show T < 32 by omega) hij s2 s1 t1 t2
  have mem : ∀ x k, x < 2 ^ n → k < n → x.testBit k = false → x + 2 ^ k ∈ ordL (2 ^ n) := fun x k hx hk hb =>
    (ordL_perm (2 ^ n) (by omega)).mem_iff.2 (List.mem_range.2 (add_lt x k n (by omega) hx hk (by rw [bitB_test]; exact hb)))
  exact trade_at g _ (S + 2 ^ i) (T + 2 ^ j) (S + 2 ^ j) (T + 2 ^ i) (mem S i hS hi s2) (mem T j hT hj t2) (mem S j hS hj s1) (mem T i hT hi t1) s3 t3 s4 t4 b1 w1 b2 w2
theorem chk_K3 : ∀ k, k < 4 → chkA k = true := by decide +kernel
def rowK (a : Nat) : Bool := (monoK 4).all fun b => !(a &&& b == a) || chkK 5 (a + b * 2 ^ 2 ^ 4)
set_option maxRecDepth 100000 in
theorem ck_0 : (((monoK 4).drop 0).take 14).all rowK = true := by decide +kernel
set_option maxRecDepth 100000 in
theorem ck_1 : (((monoK 4).drop 14).take 14).all rowK = true := by decide +kernel
set_option maxRecDepth 100000 in
theorem ck_2 : (((monoK 4).drop 28).take 14).all rowK = true := by decide +kernel
set_option maxRecDepth 100000 in
theorem ck_3 : (((monoK 4).drop 42).take 14).all rowK = true := by decide +kernel
set_option maxRecDepth 100000 in
theorem ck_4 : (((monoK 4).drop 56).take 14).all rowK = true := by decide +kernel
set_option maxRecDepth 100000 in
theorem ck_5 : (((monoK 4).drop 70).take 14).all rowK = true := by decide +kernel
set_option maxRecDepth 100000 in
theorem ck_6 : (((monoK 4).drop 84).take 14).all rowK = true := by decide +kernel
set_option maxRecDepth 100000 in
theorem ck_7 : (((monoK 4).drop 98).take 14).all rowK = true := by decide +kernel
set_option maxRecDepth 100000 in
theorem ck_8 : (((monoK 4).drop 112).take 14).all rowK = true := by decide +kernel
set_option maxRecDepth 100000 in
theorem ck_9 : (((monoK 4).drop 126).take 14).all rowK = true := by decide +kernel
set_option maxRecDepth 100000 in
theorem ck_10 : (((monoK 4).drop 140).take 14).all rowK = true := by decide +kernel
set_option maxRecDepth 100000 in
theorem ck_11 : (((monoK 4).drop 154).take 14).all rowK = true := by decide +kernel
theorem all_cut {α : Type} (p : α → Bool) (l : List α) (n m : Nat) (h1 : ((l.drop n).take m).all p = true) (h2 : (l.drop (n + m)).all p = true) : (l.drop n).all p = true := by
  rw [← List.take_append_drop m (l.drop n), List.all_append, h1, List.drop_drop, h2]; rfl
theorem chk_K4 : chkA 4 = true := by
  have h12 : ((monoK 4).drop 168).all rowK = true := by decide +kernel
  have h11 := all_cut rowK (monoK 4) 154 14 ck_11 h12
  have h10 := all_cut rowK (monoK 4) 140 14 ck_10 h11
  have h9 := all_cut rowK (monoK 4) 126 14 ck_9 h10
  have h8 := all_cut rowK (monoK 4) 112 14 ck_8 h9
  have h7 := all_cut rowK (monoK 4) 98 14 ck_7 h8
  have h6 := all_cut rowK (monoK 4) 84 14 ck_6 h7
  have h5 := all_cut rowK (monoK 4) 70 14 ck_5 h6
  have h4 := all_cut rowK (monoK 4) 56 14 ck_4 h5
  have h3 := all_cut rowK (monoK 4) 42 14 ck_3 h4
  have h2 := all_cut rowK (monoK 4) 28 14 ck_2 h3
  have h1 := all_cut rowK (monoK 4) 14 14 ck_1 h2
  have h0 := all_cut rowK (monoK 4) 0 14 ck_0 h1
  exact h0
theorem chk_all : ∀ k, k < 5 → chkA k = true := fun k hk => by
  by_cases h : k < 4
  · exact chk_K3 k h
  · obtain rfl : k = 4 := by omega
    exact chk_K4
theorem maskN_ge : ∀ (l : List Int) (m : Nat), m ≤ maskN m l
  | [], _ => Nat.le_refl _
  | x :: l, m => Nat.le_trans Nat.left_le_or (maskN_ge l _)
theorem winB_mon (l : List (List Int)) (N : Nat) : MonG (winB l) N := fun m m' _ _ e h => by
  unfold winB at *
  rw [List.any_eq_true] at *
  obtain ⟨s, hs, h⟩ := h
  refine ⟨s, hs, ?_⟩
  rw [beq_iff_eq] at *
  rw [← h, ← Nat.and_assoc, e]
theorem winB_zero (l : List (List Int)) (h : ∀ s ∈ l, s ≠ []) : winB l 0 = false := by
  unfold winB
  rw [List.any_eq_false]
  intro s hs e
  rw [beq_iff_eq, Nat.zero_and] at e
  match s, h s hs with
  | x :: s, _ =>
    have h1 := maskN_ge s (0 ||| 2 ^ x.toNat)
    have h2 := Nat.two_pow_pos x.toNat
    rw [Nat.zero_or] at h1
    rw [maskN, Nat.zero_or] at e
    omega
theorem winB_all (l : List (List Int)) (n : Nat) (hl : l ≠ []) (h : ∀ s ∈ l, maskN 0 s < 2 ^ n) : winB l (2 ^ n - 1) = true := by
  unfold winB
  rw [List.any_eq_true]
  obtain ⟨s, hs⟩ := List.exists_mem_of_ne_nil l hl
  refine ⟨s, hs, ?_⟩
  rw [beq_iff_eq, Nat.and_comm, Nat.and_two_pow_sub_one_eq_mod]
  exact Nat.mod_eq_of_lt (h s hs)
def comB (g : Nat → Bool) (n i j : Nat) : Bool := allB (wsB g i j) (2 ^ n) 0 || allB (wsB g j i) (2 ^ n) 0
theorem deUnlike_ev (g : Nat → Bool) (n i j : Nat) (hn : n ≤ 9) (hi : i < n) (hj : j < n) : Ev (fun k => spec_deUnlike.f k (tabB g (2 ^ n)) (i : Int) (j : Int)) (!comB g n i j) := by
  unfold spec_deUnlike.f comB
  refine Ev.bind (deWorth_ev g n i j hn hi hj) (ev_bool (fun h => ev_eqv (Ev.now _) (by rw [h]; rfl)) (fun h => ?_))
  exact Ev.bind (deWorth_ev g n j i hn hj hi) (ev_eqv (Ev.now _) (by rw [h, Bool.false_or]))
def comI (g : Nat → Bool) (n i : Nat) : Bool := (List.range i).all fun j => comB g n i j
def comA (g : Nat → Bool) (n : Nat) : Bool := (List.range n).all fun i => comI g n i
theorem deComplete_ev (g : Nat → Bool) (n : Nat) (hn : n ≤ 9) : Ev (fun k => spec_deComplete.f k (tabB g (2 ^ n)) (n : Int)) (comA g n) := by
  unfold spec_deComplete.f
  have := ev_range n (fun k i => spec_deComplete.l0 k (tabB g (2 ^ n)) (n : Int) (i : Int)) (fun i => ((List.range n).drop i).all fun i => comI g n i) ?_ ?_ 0 (Nat.zero_le _)
  · exact this
  · refine ev_succ ?_
    simp only [spec_deComplete.l0]
    exact ev_neg (Int.lt_irrefl _) (ev_eqv (Ev.now _) (by rw [List.drop_eq_nil_of_le (by simp)]; rfl))
  · intro i hi ih
    refine ev_succ ?_
    simp only [spec_deComplete.l0]
    refine ev_pos (by omega) ?_
    have := ev_range i (fun k j => spec_deComplete.l1 k (tabB g (2 ^ n)) (n : Int) (i : Int) (j : Int)) (fun j => ((List.range i).drop j).all (fun j => comB g n i j) && ((List.range n).drop (i + 1)).all fun i => comI g n i) ?_ ?_ 0 (Nat.zero_le _)
    · rw [range_drop n i hi, List.all_cons]
      exact this
    · refine ev_succ ?_
      simp only [spec_deComplete.l1]
      refine ev_neg (Int.lt_irrefl _) ?_
      rw [wrap_succ hi (by omega)]
      exact ev_eqv ih (by rw [show (List.range i).drop i = [] from List.drop_eq_nil_of_le (by simp)]; rfl)
    · intro j hj ih2
      refine ev_succ ?_
      simp only [spec_deComplete.l1]
      refine ev_pos (by omega) (Ev.bind (deUnlike_ev g n i j hn hi (by omega)) ?_)
      rw [wrap_succ hj (by omega), range_drop i j hj, List.all_cons]
      cases h : comB g n i j with
      | true => exact ev_neg (by decide) (ev_eqv ih2 (by rw [Bool.true_and]))
      | false => exact ev_pos (by decide) (ev_eqv (Ev.now _) rfl)
theorem find2_ev (n : Nat) (l : List (List Int)) (hl : l.length ≤ 1048576) (hs : SetsOk (n : Int) l) (hn : 1 ≤ n ∧ n ≤ 5) (hne : l ≠ []) (hs0 : ∀ s ∈ l, s ≠ []) :
    (comA (winB l) n = true → ∃ p : Int × List Int, (p.2.length ≤ 9 ∧ ∀ w ∈ p.2, 0 ≤ w ∧ w ≤ 5000) ∧ Ev (fun k => spec_weFind.f k (n : Int) l) (p.1, p.2, true) ∧ Ev (fun k => impl_votes_found.f k (n : Int) (tabB (winB l) (2 ^ n))) (p.1, p.2, true) ∧ Ev (fun k => impl_votes_firstTrade.f k (n : Int) (tabB (winB l) (2 ^ n))) ([], [], false)) ∧
    (comA (winB l) n = false → ∃ a b, Ev (fun k => spec_weFind.f k (n : Int) l) (0, [], false) ∧ Ev (fun k => impl_votes_found.f k (n : Int) (tabB (winB l) (2 ^ n))) (0, [], false) ∧ Ev (fun k => impl_votes_firstTrade.f k (n : Int) (tabB (winB l) (2 ^ n))) (a, b, true)) := by
  have hgm : Ev (fun k => spec_gmAll.f k (n : Int) l) (tabB (winB l) (2 ^ n)) := by
    unfold spec_gmAll.f
    exact Ev.bind (gmWins_ev (n : Int) l hl hs) (ev_eqv (Ev.now _) (by unfold winT; rw [Int.toNat_natCast]))
  have h2 := firstOf_ev (fun _ _ _ _ => some true) (fun _ _ _ _ => true) (fun _ _ _ _ _ => rfl) (winB l) n (by omega)
  have hcm := deComplete_ev (winB l) n (by omega)
  refine ⟨fun hcom => ?_, fun hcom => ?_⟩
  · have hpair : ∀ i j, i < n → j < i → comB (winB l) n i j = true := fun i j hi hj => by
      have := List.all_eq_true.1 hcom i (List.mem_range.2 hi)
      exact List.all_eq_true.1 this j (List.mem_range.2 hj)
    obtain ⟨W, q, hW, hlen, hq1, hq2, hq3, hg⟩ := hasW chk_all (winB l) n hn (winB_mon l _) (winB_zero l hs0) (winB_all l n hne (fun s hs' => maskN_lt2 n s 0 (Nat.two_pow_pos _) (fun x hx => by
        have h1 := (hs.2 s hs').1
        have := isSetB_mem h1 x hx
        omega)))
      (fun i j hi hj => by
        rcases Nat.lt_trichotomy i j with h | h | h
        · have := hpair j i hj h
          unfold comB at this
          rw [Bool.or_eq_true] at this
          exact this.symm
        · subst h
          refine .inl ?_
          unfold allB wsB
          rw [List.all_eq_true]
          intro x _
          cases winB l (0 + x + 2 ^ i) <;> simp
        · have := hpair i j hi h
          unfold comB at this
          rwa [Bool.or_eq_true] at this)
    subst hlen
    have htab : tabB (winB l) (2 ^ W.length) = tabB (gW W q) (2 ^ W.length) := tabB_congr hg
    have h2 := firstOf_ev (fun _ _ _ _ => some true) (fun _ _ _ _ => true) (fun _ _ _ _ _ => rfl) (gW W q) W.length (by omega)
    rw [no_trade] at h2
    rw [htab] at hgm ⊢
    have h3 : Ev (fun k => impl_votes_firstTrade.f k (W.length : Int) (tabB (gW W q) (2 ^ W.length))) ([], [], false) := by
      unfold impl_votes_firstTrade.f firstOfAny.f
      exact Ev.bind h2 (Ev.now _)
    have hnn := (Int.toNat_of_nonneg (show 0 ≤ W.foldr (fun a c => a + c) 0 by omega)).symm
    obtain ⟨p, ⟨p1, p2⟩, es, ei⟩ := find_ev W hW q hq1 hq2 hn.1 _ hnn (by omega) l ((W.foldr (fun a c => a + c) 0).toNat - 1) 1 (by omega)
    refine ⟨p, ⟨by omega, p2⟩, ?_, ?_, h3⟩
    · unfold spec_weFind.f
      exact Ev.bind hgm (Ev.bind (deCompleteW_ev W q W.length (by omega)) (ev_pos rfl es))
    · unfold impl_votes_found.f
      exact Ev.bind h3 (ev_neg (by simp) (Ev.bind ei (Ev.now _)))
  · rw [hcom] at hcm
    have hpair : ∃ i j, i < n ∧ j < n ∧ comB (winB l) n i j = false := by
      unfold comA at hcom
      rw [List.all_eq_false] at hcom
      obtain ⟨i, hi, h⟩ := hcom
      have hi := List.mem_range.1 hi
      have h := eq_false_of_ne_true h
      unfold comI at h
      rw [List.all_eq_false] at h
      obtain ⟨j, hj, h⟩ := h
      have hj := List.mem_range.1 hj
      exact ⟨i, j, hi, by omega, eq_false_of_ne_true h⟩
    obtain ⟨i, j, hi, hj, hij⟩ := hpair
    unfold comB at hij
    rw [Bool.or_eq_false_iff] at hij
    have hne := trade_unlike (winB l) n i j hn.2 hi hj (by rw [hij.1]; decide) (by rw [hij.2]; decide)
    obtain ⟨c, hcc⟩ := Option.ne_none_iff_exists'.1 hne
    rw [hcc] at h2
    have h3 : Ev (fun k => impl_votes_firstTrade.f k (n : Int) (tabB (winB l) (2 ^ n))) (c.1, c.2, true) := by
      unfold impl_votes_firstTrade.f firstOfAny.f
      exact Ev.bind h2 (Ev.now _)
    refine ⟨c.1, c.2, ?_, ?_, h3⟩
    · unfold spec_weFind.f
      exact Ev.bind hgm (Ev.bind hcm (ev_neg (by decide) (Ev.now _)))
    · unfold impl_votes_found.f
      exact Ev.bind h3 (ev_pos rfl (Ev.now _))
def chF {α : Type} (tb : α → Nat) (want : Nat) : List α → Nat → Nat → Option (List α)
  | [], 0, now => if now = want then some [] else none
  | [], _ + 1, _ => none
  | _ :: _, 0, now => if now = want then some [] else none
  | x :: xs, m + 1, now => match chF tb want xs m (now &&& tb x) with
    | some r => some (x :: r)
    | none => chF tb want xs (m + 1) now
theorem chF_zero {α : Type} (tb : α → Nat) (want : Nat) (l : List α) (now : Nat) : chF tb want l 0 now = if now = want then some [] else none := by
  cases l <;> rfl
theorem chF_at {α : Type} (tb : α → Nat) (want : Nat) (m now : Nat) (x : α) (xs : List α) (h : chF tb want xs m (now &&& tb x) ≠ none) : ∀ a : List α, chF tb want (a ++ x :: xs) (m + 1) now ≠ none
  | [] => by
    rw [List.nil_append, chF]
    cases e : chF tb want xs m (now &&& tb x) with
    | none => exact absurd e h
    | some r => exact Option.some_ne_none _
  | y :: a => by
    rw [List.cons_append, chF]
    cases chF tb want (a ++ x :: xs) m (now &&& tb y) with
    | none => exact chF_at tb want m now x xs h a
    | some r => exact Option.some_ne_none _
theorem chF_one {α : Type} (tb : α → Nat) (want now : Nat) (l : List α) (x : α) (hx : x ∈ l) (h : now &&& tb x = want) : chF tb want l 1 now ≠ none := by
  obtain ⟨a, xs, rfl⟩ := List.append_of_mem hx
  refine chF_at tb want 0 now x xs ?_ a
  rw [chF_zero, if_pos h]; exact Option.some_ne_none _
theorem split_two {α : Type} {x y : α} (hne : x ≠ y) : ∀ l : List α, x ∈ l → y ∈ l → (∃ a xs, l = a ++ x :: xs ∧ y ∈ xs) ∨ (∃ a xs, l = a ++ y :: xs ∧ x ∈ xs)
  | [], h, _ => by cases h
  | z :: l, hx, hy => by
    rcases List.mem_cons.1 hx with rfl | hx2
    · rcases List.mem_cons.1 hy with rfl | hy2
      · exact absurd rfl hne
      · exact .inl ⟨[], l, rfl, hy2⟩
    · rcases List.mem_cons.1 hy with rfl | hy2
      · exact .inr ⟨[], l, rfl, hx2⟩
      · rcases split_two hne l hx2 hy2 with ⟨a, xs, e, h⟩ | ⟨a, xs, e, h⟩
        · exact .inl ⟨z :: a, xs, by rw [e]; rfl, h⟩
        · exact .inr ⟨z :: a, xs, by rw [e]; rfl, h⟩
theorem chF_two {α : Type} (tb : α → Nat) (want now : Nat) (l : List α) (x y : α) (hx : x ∈ l) (hy : y ∈ l) (hne : x ≠ y) (h : now &&& tb x &&& tb y = want) : chF tb want l 2 now ≠ none := by
  rcases split_two hne l hx hy with ⟨a, xs, e, h2⟩ | ⟨a, xs, e, h2⟩
  · rw [e]; exact chF_at tb want 1 now x xs (chF_one tb want _ xs y h2 h) a
  · rw [e]; exact chF_at tb want 1 now y xs (chF_one tb want _ xs x h2 (by rw [Nat.and_assoc, Nat.and_comm (tb y), ← Nat.and_assoc]; exact h)) a
def chL {α : Type} (tb : α → Nat) (want now : Nat) (l : List α) : List α := match chF tb want l 1 now with
  | some r => r
  | none => (chF tb want l 2 now).getD []
def codeK (t : List Bool) : Nat := encT (fun i => t.getD i false) t.length
def comT (n : Nat) (t : List Bool) : Bool := comA (fun i => t.getD i false) n
def dimC (n : Nat) (all : List (Bool × Nat)) : Bool := all.all fun t => t.1 || all.any fun a => a.1 && t.2 &&& a.2 == t.2 && all.any fun b => b.1 && !(a.2 == b.2) && a.2 &&& b.2 == t.2
def dimB (n : Nat) : Bool := dimC n ((tabsK n).map fun t => (comT n t, codeK t))
theorem dim_K : ∀ n : Nat, n < 5 → 1 ≤ n → dimB n = true := by decide +kernel
theorem any_eq_mem {α : Type} {p q : α → Bool} : ∀ {l : List α}, (∀ x ∈ l, p x = q x) → l.any p = l.any q
  | [], _ => rfl
  | x :: xs, h => by rw [List.any_cons, List.any_cons, h x (List.mem_cons_self ..), any_eq_mem fun y hy => h y (List.mem_cons_of_mem _ hy)]
theorem votesOf_l0 (p : Int → Option Bool) (q : Nat → Bool) (a n : Nat) (m : Int) (hn : n ≤ 1048576) (h : ∀ i, i < n → p (i : Int) = some (q i)) : Ev (fun k => impl_votesOf.l0 p k (n : Int) 0 m (List.replicate n false)) (m, tabB q n) := by
  have := ev_range n (fun k i => impl_votesOf.l0 p k (n : Int) (i : Int) m (tabB q i ++ List.replicate (n - i) false)) (fun _ => (m, tabB q n)) ?_ ?_ 0 (Nat.zero_le _)
  · simpa [tabB] using this
  · refine ev_succ ?_
    simp only [impl_votesOf.l0]
    exact ev_neg (Int.lt_irrefl _) (ev_eqv (Ev.now _) (by simp))
  · intro i hi ih
    refine ev_succ ?_
    simp only [impl_votesOf.l0]
    have hlen : (tabB q i ++ List.replicate (n - i) false).length = n := by rw [List.length_append, tabB_len, List.length_replicate]; omega
    refine ev_pos (by omega) (ev_bindS (h i hi) (ev_pos (by omega) (ev_pos (by rw [hlen]; omega) ?_)))
    rw [wrap_succ hi (Nat.le_trans hn (by decide)), Int.toNat_natCast, show n - i = (n - (i + 1)) + 1 by omega, List.replicate_succ, tabB_set, tabB_next]
    exact ih
theorem votesOf_ev (p : Int → Option Bool) (q : Nat → Bool) (m : Int) (hm : 0 ≤ m ∧ m ≤ 9) (h : ∀ i : Nat, i < 2 ^ m.toNat → p (i : Int) = some (q i)) : Ev (fun k => impl_votesOf.f k m p) (m, tabB q (2 ^ m.toNat)) := by
  have hp : 2 ^ m.toNat ≤ 512 := Nat.pow_le_pow_right (n := 2) (by decide) (show m.toNat ≤ 9 by omega)
  have hs : shl .i64 1 m = ((2 ^ m.toNat : Nat) : Int) := by rw [shl_one m (by omega)]; simp
  have hl0 := votesOf_l0 p q 0 (2 ^ m.toNat) m (by omega) h
  unfold impl_votesOf.f
  refine ev_pos hm.1 ?_
  rw [hs]
  generalize 2 ^ m.toNat = n at *
  have hn2 : (n : Int).toNat ≤ 281474976710656 := by rw [Int.toNat_natCast]; exact Nat.le_trans hp (by decide)
  refine ev_pos (Int.natCast_nonneg n) (ev_pos hn2 (ev_bindS rfl ?_))
  simp only [Int.toNat_natCast, List.length_replicate]
  exact hl0
theorem votesBy_l0 (m : Int) (l : List (List Int)) (hl : l.length ≤ 1048576) (h : SetsOk m l) : Ev (fun k => impl_votesBy.l0 k m l (l.length : Int) 0 []) (m, winT m l) := by
  have := ev_range l.length (fun k i => impl_votesBy.l0 k m l (l.length : Int) (i : Int) ((l.take i).map fun s => ((maskN 0 s : Nat) : Int))) (fun _ => (m, winT m l)) ?_ ?_ 0 (Nat.zero_le _)
  · simpa using this
  · refine ev_succ ?_
    simp only [impl_votesBy.l0]
    refine ev_neg (Int.lt_irrefl _) ?_
    rw [List.take_length]
    unfold votesOf_votesBy.f
    refine Ev.bind (votesOf_ev _ (winB l) m (by have := h.1; omega) (fun i hi => ?_)) (Ev.now _)
    have hp := pow_le512 h.1
    rw [anyO_some (q := fun x => Go.bits .and .i64 (i : Int) x == x) (fun _ _ => rfl), List.any_map]
    congr 1
    unfold winB
    refine any_eq_mem fun s hs => ?_
    obtain ⟨j, hj, rfl⟩ := List.mem_iff_getElem.1 hs
    have hlt := h.lt hj
    unfold mk at hlt
    rw [getD_get hj] at hlt
    exact and_self_nat (by omega) hlt
  · intro i hi ih
    refine ev_succ ?_
    simp only [impl_votesBy.l0]
    refine ev_pos (by omega) (ev_pos (by omega) (ev_pos (by omega) ?_))
    rw [rdL1_get hi, wrap_succ hi (Nat.le_trans hl (by decide))]
    have hm := (h.masks hi).1
    have hk : mk l i = maskN 0 l[i] := by unfold mk; rw [getD_get hi]
    rw [hk] at hm
    refine Ev.bind hm (ev_pos (by rw [List.length_map, List.length_take]; omega) ?_)
    rw [List.take_succ_eq_append_getElem hi, List.map_append] at ih
    exact ih
theorem votesBy_ev (m : Int) (l : List (List Int)) (hl : l.length ≤ 1048576) (h : SetsOk m l) : Ev (fun k => impl_votesBy.f k m l) (m, winT m l) := by
  unfold impl_votesBy.f
  exact votesBy_l0 m l hl h
theorem Game_votes_ev (m : Int) (l : List (List Int)) (hl : l.length ≤ 1048576) (h : SetsOk m l) : Ev (fun k => impl_Game_votes.f k m l) (m, winT m l) := by
  unfold impl_Game_votes.f
  exact Ev.bind (votesBy_ev m l hl h) (Ev.now _)
def mkG (n : Nat) (s : List (List Int)) : S28 := ⟨(n : Int), s⟩
theorem tab_self {N : Nat} (t : List Bool) (h : t.length = N) : tabB (fun i => t.getD i false) N = t := by
  refine List.ext_getElem (by rw [tabB_len, h]) fun i h1 h2 => ?_
  rw [tabB_get, getD_get h2]
theorem gmBefore_ev (a b : Int) (l1 l2 : List (List Int)) (h1 : l1.length ≤ 1048576) (hx : ∀ x ∈ l1, x.length ≤ 1048576) (hy : ∀ x ∈ l2, x.length ≤ 1048576) : Ev (fun k => spec_gmBefore.f k a l1 b l2) (lexG l1 l2) := by
  unfold spec_gmBefore.f
  have := ev_range l1.length (fun k i => spec_gmBefore.l0 k l1 (l1.length : Int) (i : Int) a l1 b l2) (fun i => lexG (l1.drop i) (l2.drop i)) ?_ ?_ 0 (Nat.zero_le _)
  · simpa using this
  · refine ev_succ ?_
    simp only [spec_gmBefore.l0]
    refine ev_neg (by omega) (ev_eqv (Ev.now _) ?_)
    rw [drop_end]
    by_cases h : l1.length < l2.length
    · rw [List.drop_eq_getElem_cons h]; exact decide_eq_true (by omega)
    · rw [List.drop_of_length_le (Nat.le_of_not_lt h)]; exact decide_eq_false (by omega)
  · intro i hi ih
    refine ev_succ ?_
    simp only [spec_gmBefore.l0]
    refine ev_pos (by omega) (ev_pos (by omega) (ev_pos (by omega) ?_))
    rw [List.drop_eq_getElem_cons hi]
    by_cases h : i < l2.length
    · refine ev_neg (by omega) (ev_pos (by omega) ?_)
      rw [rdL1_get hi, rdL1_get h, wrap_succ hi (Nat.le_trans h1 (by decide)), List.drop_eq_getElem_cons h]
      refine Ev.bind (voBefore_ev _ _ (Nat.le_trans (hx _ (List.getElem_mem hi)) (by decide))) (ev_bool (fun e => ?_) (fun e => ?_))
      · refine ev_eqv (Ev.now _) ?_
        unfold lexG
        rw [if_neg (fun e2 => by rw [e2, lexB_irrefl] at e; cases e)]
        exact e.symm
      · refine Ev.bind (voBefore_ev _ _ (Nat.le_trans (hy _ (List.getElem_mem h)) (by decide))) (ev_bool (fun e2 => ?_) (fun e2 => ?_))
        · refine ev_eqv (Ev.now _) ?_
          unfold lexG
          rw [if_neg (fun e3 => by rw [e3, lexB_irrefl] at e2; cases e2)]
          exact e.symm
        · have := lexB_total _ _ e e2
          unfold lexG
          rw [if_pos this]
          exact ih
    · rw [List.drop_of_length_le (Nat.le_of_not_lt h)]
      exact ev_pos (by omega) (Ev.now _)
theorem sortL_map {α β : Type} (lt : α → α → Bool) (lt' : β → β → Bool) (f : α → β) (h : ∀ a b, lt' (f a) (f b) = lt a b) (l : List α) : sortL lt' (l.map f) = (sortL lt l).map f := by
  have hi : ∀ x (ys : List α), insL lt' (f x) (ys.map f) = (insL lt x ys).map f := by
    intro x ys
    induction ys with
    | nil => rfl
    | cons y ys ih =>
      simp only [List.map_cons, insL, h]
      split
      · rw [ih]; rfl
      · rfl
  have : ∀ (l out : List α), (l.map f).foldl (fun out x => insL lt' x out) (out.map f) = (l.foldl (fun out x => insL lt x out) out).map f := by
    intro l
    induction l with
    | nil => intro out; rfl
    | cons x l ih => intro out; simp only [List.map_cons, List.foldl_cons]; rw [hi]; exact ih _
  exact this l []
def posL {α : Type} (lt : α → α → Bool) (x : α) : List α → Nat
  | [] => 0
  | y :: ys => if lt y x = true then posL lt x ys + 1 else 0
theorem insL_pos {α : Type} (lt : α → α → Bool) (x : α) : ∀ l, l.take (posL lt x l) ++ [x] ++ l.drop (posL lt x l) = insL lt x l
  | [] => rfl
  | y :: ys => by
    have ih := insL_pos lt x ys
    unfold posL insL
    by_cases h : lt y x = true
    · simp only [if_pos h, List.take_succ_cons, List.drop_succ_cons, List.cons_append]; rw [ih]
    · simp only [if_neg h]; rfl
def ltG (a b : S28) : Bool := lexG a.f1 b.f1
def GOk (g : S28) : Prop := g.f1.length ≤ 1048576 ∧ ∀ x ∈ g.f1, x.length ≤ 1048576
theorem pzPos_ev (g : S28) (hg : GOk g) : ∀ (l : List S28) (i : Nat), (∀ x ∈ l, GOk x) → Ev (fun k => pzPos k g l i) (i + posL ltG g l)
  | [], _, _ => Ev.now _
  | x :: xs, i, h => by
    have hx := h x (List.mem_cons_self ..)
    unfold pzPos posL
    refine Ev.bind (gmBefore_ev _ _ _ _ hx.1 hx.2 hg.2) (ev_bool (fun e => ?_) (fun e => ?_))
    · have e' : ltG x g = true := e
      rw [if_pos e']
      exact ev_eqv (pzPos_ev g hg xs (i + 1) (fun y hy => h y (List.mem_cons_of_mem _ hy))) (by omega)
    · have e' : ¬ ltG x g = true := by rw [show ltG x g = false from e]; decide
      rw [if_neg e']; exact Ev.now _
theorem pzSort_ev : ∀ (gs outs : List S28), (∀ x ∈ gs, GOk x) → (∀ x ∈ outs, GOk x) → Ev (fun k => pzSort k gs outs) (gs.foldl (fun out x => insL ltG x out) outs)
  | [], _, _, _ => Ev.now _
  | g :: gs, outs, h, ho => by
    have hg := h g (List.mem_cons_self ..)
    unfold pzSort pzIns
    refine Ev.bind (Ev.bind (ev_eqv (pzPos_ev g hg outs 0 ho) (Nat.zero_add _)) (Ev.now _)) ?_
    rw [insL_pos, List.foldl_cons]
    exact pzSort_ev gs _ (fun x hx => h x (List.mem_cons_of_mem _ hx)) (fun x hx => by
      rcases List.mem_cons.1 ((insL_perm ltG g outs).mem_iff.1 hx) with rfl | h2
      · exact hg
      · exact ho x h2)
theorem lookT_some {n : Nat} (hn : n < 5) : lookT (2 ^ n) [] = some (tabsK n) := by
  have h := look_K n hn
  unfold tabsK
  cases e : lookT (2 ^ n) [] with
  | none => rw [e] at h; cases h
  | some ts => rfl
theorem leastK_ok {n : Nat} (hn : 1 ≤ n ∧ n < 5) {t : List Bool} (ht : t ∈ tabsK n) : GOk (mkG n (leastK t)) := by
  have h := sets_K n hn.2 hn.1 t ht
  exact ⟨Nat.le_trans h.1 (by decide), fun x hx => Nat.le_trans (h.2 x hx).2 (by decide)⟩
theorem allGames_ev {n : Nat} (hn : 1 ≤ n ∧ n < 5) : Ev (fun k => impl_allGames.f k n) ((gamesK n).map (mkG n)) := by
  have h := games_K n hn.2 hn.1
  cases e : impl_allGames.f 1200 n with
  | none => rw [e] at h; cases h
  | some gs =>
    rw [e] at h
    have h2 := Option.some.inj h
    have : gs = (gamesK n).map (mkG n) := by
      have h3 := congrArg (List.map fun (p : Int × List (List Int)) => (⟨p.1, p.2⟩ : S28)) h2
      rw [List.map_map, List.map_map] at h3
      rw [show (gs.map ((fun (p : Int × List (List Int)) => (⟨p.1, p.2⟩ : S28)) ∘ fun g => (g.f0, g.f1))) = gs from (List.map_congr_left (fun _ _ => rfl)).trans (List.map_id _)] at h3
      exact h3
    rw [← this]
    exact Ev.of (impl_allGames.mono _) e
theorem gamesK_mem {n : Nat} {s : List (List Int)} (h : s ∈ gamesK n) : ∃ t ∈ tabsK n, s = leastK t := by
  obtain ⟨t, ht, rfl⟩ := List.mem_map.1 ((sortL_perm lexG _).mem_iff.1 h)
  exact ⟨t, ht, rfl⟩
theorem gamesK_sets {n : Nat} (hn : 1 ≤ n ∧ n < 5) {s : List (List Int)} (h : s ∈ gamesK n) : s.length ≤ 1048576 ∧ SetsOk n s := by
  obtain ⟨t, ht, rfl⟩ := gamesK_mem h
  have h := sets_K n hn.2 hn.1 t ht
  exact ⟨Nat.le_trans h.1 (by decide), ⟨by omega, fun x hx => ⟨(h.2 x hx).1, Nat.le_trans (h.2 x hx).2 (by decide)⟩⟩⟩
def covT (o t : List Bool) : Bool := (List.range t.length).all fun i => !o.getD i false || t.getD i false
theorem covT_snoc {o p ts : List Bool} (h : covT o (p ++ [false] ++ ts) = true) : o.getD p.length false = false := by
  unfold covT at h
  rw [List.all_eq_true] at h
  have := h p.length (List.mem_range.2 (by rw [List.length_append, List.length_append, List.length_singleton]; omega))
  rw [List.getD_eq_getElem?_getD (l := p ++ [false] ++ ts), List.append_assoc, List.getElem?_append_right (Nat.le_refl _), Nat.sub_self] at this
  simpa using this
theorem lookT_pre : ∀ (d : Nat) (p : List Bool) (ts : List (List Bool)), lookT d p = some ts → ∀ t ∈ ts, ∃ r, t = p ++ r
  | 0, p, ts, h, t, ht => by
    unfold lookT at h
    obtain rfl := Option.some.inj h
    split at ht
    · cases ht
    · split at ht
      · cases ht
      · exact ⟨[], by rw [List.mem_singleton.1 ht, List.append_nil]⟩
  | d + 1, p, ts, h, t, ht => by
    unfold lookT at h
    obtain ⟨m, _, h⟩ := Option.bind_eq_some_iff.mp h
    obtain ⟨l1, h1, h⟩ := Option.bind_eq_some_iff.mp h
    have k1 : ∀ t ∈ l1, ∃ r, t = p ++ r := fun t ht => by
      obtain ⟨r, hr⟩ := lookT_pre d _ l1 h1 t ht
      exact ⟨[true] ++ r, by rw [hr, List.append_assoc]⟩
    split at h
    · obtain rfl := Option.some.inj h
      exact k1 t ht
    · obtain ⟨l2, h2, h⟩ := Option.bind_eq_some_iff.mp h
      obtain rfl := Option.some.inj h
      rcases List.mem_append.1 ht with ht | ht
      · exact k1 t ht
      · obtain ⟨r, hr⟩ := lookT_pre d _ l2 h2 t ht
        exact ⟨[false] ++ r, by rw [hr, List.append_assoc]⟩
theorem mustO_true (p : List Bool) : ∀ s, mustO p s true = some true
  | [] => rfl
  | i :: s => by unfold mustO; rw [if_pos rfl]; exact mustO_true p s
def okT (n : Nat) (o t : List Bool) : Bool := covT o t && comT n t
theorem chW_ev {n : Nat} (hn : 1 ≤ n ∧ n < 5) (o : List Bool) : ∀ (d : Nat) (p : List Bool) (ts : List (List Bool)), p.length + d ≤ 16 → lookT d p = some ts → (∀ t ∈ ts, t ∈ tabsK n) → covT o p = true →
    Ev (fun k => spec_chWeighted.f k n o d p) ((ts.filter (okT n o)).map fun t => mkG n (leastK t))
  | 0, p, ts, _, h, hm, hc => by
    unfold lookT at h
    obtain rfl := Option.some.inj h
    unfold spec_chWeighted.f
    by_cases h1 : rdOf false p ((p.length - 1 : Nat) : Int) = true
    · refine ev_pos h1 ?_
      rw [if_neg (by rw [h1]; decide)] at hm ⊢
      by_cases h2 : rdOf false p 0 = true
      · refine ev_pos h2 (ev_eqv (Ev.now _) ?_)
        rw [if_pos h2]; rfl
      · refine ev_neg h2 ?_
        rw [if_neg h2] at hm ⊢
        have hp := hm p (List.mem_singleton.2 rfl)
        have hcm := deComplete_ev (fun i => p.getD i false) n (by omega)
        rw [tab_self p ((len_K n hn.2 hn.1).2 p hp)] at hcm
        refine Ev.bind hcm (ev_bool (fun e => ?_) (fun e => ?_))
        · refine Ev.bind (Ev.of (spec_gmOf.mono _ _) (gmOf_K n hn.2 hn.1 p hp)) (ev_eqv (Ev.now _) ?_)
          rw [List.filter_cons_of_pos (by unfold okT comT; rw [hc, e]; rfl)]; rfl
        · rw [List.filter_cons_of_neg (by unfold okT comT; rw [e, Bool.and_false]; decide)]; exact Ev.now _
    · refine ev_neg h1 (ev_eqv (Ev.now _) ?_)
      rw [if_pos (eq_false_of_ne_true h1)]; rfl
  | d + 1, p, ts, hd, h, hm, hc => by
    unfold lookT at h
    obtain ⟨m, hmu, h⟩ := Option.bind_eq_some_iff.mp h
    obtain ⟨l1, h1, h⟩ := Option.bind_eq_some_iff.mp h
    have snoc : ∀ b : Bool, (o.getD p.length false = true → b = true) → covT o (p ++ [b]) = true := fun b hb => by
      unfold covT at *
      rw [List.all_eq_true] at *
      intro i hi
      have hi := List.mem_range.1 hi
      rw [List.length_append, List.length_singleton] at hi
      by_cases e : i = p.length
      · subst e
        rw [List.getD_eq_getElem?_getD (l := p ++ [b]), List.getElem?_append_right (Nat.le_refl _), Nat.sub_self]
        cases ho : o.getD p.length false with
        | false => rfl
        | true => rw [hb ho]; rfl
      · have := hc i (List.mem_range.2 (by omega))
        rwa [List.getD_eq_getElem?_getD (l := p ++ [b]), List.getElem?_append_left (by omega), ← List.getD_eq_getElem?_getD]
    unfold spec_chWeighted.f
    refine Ev.bind (Ev.of (spec_voList.mono _) (voList_K p.length (by omega))) ?_
    have hrd : rdOf false o (p.length : Int) = o.getD p.length false := by unfold rdOf; rw [Int.toNat_natCast]
    rw [hrd]
    cases ho : o.getD p.length false with
    | true =>
      refine ev_bindS (mustO_true p _) ?_
      have e1 := chW_ev hn o d (p ++ [true]) l1 (by rw [List.length_append, List.length_singleton]; omega) h1
      cases m with
      | true =>
        rw [if_pos rfl] at h
        obtain rfl := Option.some.inj h
        exact Ev.bind (e1 hm (snoc true (fun _ => rfl))) (ev_pos rfl (Ev.now _))
      | false =>
        rw [if_neg (by decide)] at h
        obtain ⟨l2, h2, h⟩ := Option.bind_eq_some_iff.mp h
        obtain rfl := Option.some.inj h
        refine Ev.bind (e1 (fun t ht => hm t (List.mem_append_left _ ht)) (snoc true (fun _ => rfl))) (ev_pos rfl (ev_eqv (Ev.now _) ?_))
        rw [List.filter_append, (List.filter_eq_nil_iff (l := l2)).2 (fun t ht hx => ?_), List.append_nil]
        obtain ⟨r, hr⟩ := lookT_pre d _ l2 h2 t ht
        unfold okT at hx
        rw [Bool.and_eq_true] at hx
        have := covT_snoc (hr ▸ hx.1)
        rw [ho] at this; cases this
    | false =>
      refine ev_bindS hmu ?_
      cases m with
      | true =>
        rw [if_pos rfl] at h
        obtain rfl := Option.some.inj h
        exact Ev.bind (chW_ev hn o d (p ++ [true]) l1 (by rw [List.length_append, List.length_singleton]; omega) h1 hm (snoc true (fun _ => rfl))) (ev_pos rfl (Ev.now _))
      | false =>
        rw [if_neg (by decide)] at h
        obtain ⟨l2, h2, h⟩ := Option.bind_eq_some_iff.mp h
        obtain rfl := Option.some.inj h
        refine Ev.bind (chW_ev hn o d (p ++ [true]) l1 (by rw [List.length_append, List.length_singleton]; omega) h1 (fun t ht => hm t (List.mem_append_left _ ht)) (snoc true (fun _ => rfl))) (ev_neg (by decide) (Ev.bind (chW_ev hn o d (p ++ [false]) l2 (by rw [List.length_append, List.length_singleton]; omega) h2 (fun t ht => hm t (List.mem_append_right _ ht)) (snoc false (fun h => by rw [ho] at h; cases h))) (ev_eqv (Ev.now _) ?_)))
        rw [List.filter_append, List.map_append]
theorem gamesK_filter {n : Nat} (hn : 1 ≤ n ∧ n < 5) (q : List Bool → Bool) : sortL ltG (((tabsK n).filter q).map fun t => mkG n (leastK t)) = ((gamesK n).filter fun s => q (winT n s)).map (mkG n) := by
  have e : (((tabsK n).filter q).map fun t => mkG n (leastK t)) = (((tabsK n).map leastK).filter fun s => q (winT n s)).map (mkG n) := by
    rw [List.filter_map, List.map_map]
    refine congrArg _ (List.filter_congr fun t ht => ?_)
    show q t = q (winT n (leastK t))
    rw [win_K n hn.2 hn.1 t ht]
  rw [e, sortL_map lexG ltG (mkG n) (fun _ _ => rfl), sort_filter lexG lexG_ntrans (fun _ _ => lexG_asymm) lexG_total]
  rfl
def chG (n : Nat) (o : List Bool) : List (List (List Int)) := (gamesK n).filter fun s => okT n o (winT n s)
theorem chGames_ev {n : Nat} (hn : 1 ≤ n ∧ n < 5) (l : List (List Int)) (hl : l.length ≤ 1048576) (hs : SetsOk (n : Int) l) : Ev (fun k => spec_chGames.f k n l) ((chG n (winT n l)).map (mkG n)) := by
  unfold spec_chGames.f
  have h4 : 2 ^ n ≤ 16 := Nat.pow_le_pow_right (n := 2) (by decide) (show n ≤ 4 by omega)
  have hgm : Ev (fun k => spec_gmAll.f k (n : Int) l) (winT n l) := by
    unfold spec_gmAll.f
    exact Ev.bind (gmWins_ev (n : Int) l hl hs) (Ev.now _)
  refine ev_pos (by omega) (Ev.bind hgm ?_)
  refine ev_pos (by unfold winT; rw [tabB_len, Int.toNat_natCast]) ?_
  rw [Int.toNat_natCast]
  refine Ev.bind (chW_ev hn _ (2 ^ n) [] (tabsK n) (by simpa using h4) (lookT_some hn.2) (fun _ h => h) rfl) (ev_pos ?_ (ev_eqv (pzSort_ev _ [] ?_ ?_) (gamesK_filter hn _)))
  · rw [List.length_map]
    exact Nat.le_trans (List.length_filter_le _ _) (len_K n hn.2 hn.1).1
  · intro x hx
    obtain ⟨t, ht, rfl⟩ := List.mem_map.1 hx
    exact leastK_ok hn (List.mem_filter.1 ht).1
  · intro x hx; cases hx
def chI {α : Type} (tb : α → Nat) (want : Nat) : List α → Nat → Nat → Nat → Option (List Int)
  | [], _, 0, now => if now = want then some [] else none
  | [], _, _ + 1, _ => none
  | _ :: _, _, 0, now => if now = want then some [] else none
  | x :: xs, p, m + 1, now => match chI tb want xs (p + 1) m (now &&& tb x) with
    | some r => some ((p : Int) :: r)
    | none => chI tb want xs (p + 1) (m + 1) now
theorem chI_zero {α : Type} (tb : α → Nat) (want : Nat) (l : List α) (p now : Nat) : chI tb want l p 0 now = if now = want then some [] else none := by
  cases l <;> rfl
theorem chI_chF {α : Type} (tb : α → Nat) (want : Nat) (L : List α) (d : α) : ∀ (xs : List α) (p m now : Nat), L.drop p = xs → (chI tb want xs p m now).map (List.map fun i => L.getD i.toNat d) = chF tb want xs m now
  | xs, p, 0, now, _ => by rw [chI_zero, chF_zero]; split <;> rfl
  | [], _, _ + 1, _, _ => rfl
  | x :: xs, p, m + 1, now, h => by
    have h1 : L.drop (p + 1) = xs := by rw [← List.drop_drop, h]; rfl
    have hx : L.getD p d = x := by
      have := congrArg (fun l => l.getD 0 d) h
      simpa [List.getD_eq_getElem?_getD] using this
    have e1 := chI_chF tb want L d xs (p + 1) m (now &&& tb x) h1
    have e2 := chI_chF tb want L d xs (p + 1) (m + 1) now h1
    rw [chI, chF, ← e1]
    cases chI tb want xs (p + 1) m (now &&& tb x) with
    | some r => simp only [Option.map_some, List.map_cons, Int.toNat_natCast, hx]
    | none => exact e2
theorem chI_in {α : Type} (tb : α → Nat) (want : Nat) : ∀ (xs : List α) (p m now : Nat) (r : List Int), chI tb want xs p m now = some r → ∀ i ∈ r, (p : Int) ≤ i ∧ i < ((p + xs.length : Nat) : Int)
  | xs, p, 0, now, r, h => by
    rw [chI_zero] at h
    split at h
    · obtain rfl := Option.some.inj h; intro i hi; cases hi
    · cases h
  | [], _, _ + 1, _, _, h => by cases h
  | x :: xs, p, m + 1, now, r, h => by
    rw [chI] at h
    rw [List.length_cons]
    cases e : chI tb want xs (p + 1) m (now &&& tb x) with
    | some r1 =>
      rw [e] at h
      obtain rfl := Option.some.inj h
      intro i hi
      rcases List.mem_cons.1 hi with rfl | hi
      · omega
      · have := chI_in tb want xs (p + 1) m _ r1 e i hi
        omega
    | none =>
      rw [e] at h
      intro i hi
      have := chI_in tb want xs (p + 1) (m + 1) now r h i hi
      omega
theorem chI_len {α : Type} (tb : α → Nat) (want : Nat) : ∀ (xs : List α) (p m now : Nat) (r : List Int), chI tb want xs p m now = some r → r.length = m
  | xs, p, 0, now, r, h => by
    rw [chI_zero] at h
    split at h
    · obtain rfl := Option.some.inj h; rfl
    · cases h
  | [], _, _ + 1, _, _, h => by cases h
  | x :: xs, p, m + 1, now, r, h => by
    rw [chI] at h
    cases e : chI tb want xs (p + 1) m (now &&& tb x) with
    | some r1 =>
      rw [e] at h
      obtain rfl := Option.some.inj h
      rw [List.length_cons, chI_len tb want xs (p + 1) m _ r1 e]
    | none =>
      rw [e] at h
      exact chI_len tb want xs (p + 1) (m + 1) now r h
theorem table_ev (n : Int) (g : Nat → Bool) (N : Nat) (hN : N ≤ 16) : Ev (fun k => impl_votes_table.f k n (tabB g N)) (encT g N : Int) := by
  unfold impl_votes_table.f
  rw [tabB_len]
  have := ev_range N (fun k i => impl_votes_table.l0 k (encT g i : Int) (tabB g N) (N : Int) (i : Int)) (fun _ => (encT g N : Int)) ?_ ?_ 0 (Nat.zero_le _)
  · exact this
  · refine ev_succ ?_
    simp only [impl_votes_table.l0]
    exact ev_neg (Int.lt_irrefl _) (Ev.now _)
  · intro i hi ih
    have hlt := encT_lt g i
    have h16 : 2 ^ i ≤ 2 ^ 16 := Nat.pow_le_pow_right (by decide) (by omega)
    have h62 : (2 : Nat) ^ 16 < 2 ^ 62 := by decide
    refine ev_succ ?_
    simp only [impl_votes_table.l0]
    rw [rdOf_tab hi, wrap_succ hi (by omega), tabB_len]
    refine ev_pos (by omega) (ev_pos (by omega) (ev_pos (by omega) (ev_bool (fun e => ?_) (fun e => ?_))))
    · rw [shl_one_nat i (by omega), or_nat _ _ (by omega) (by omega)]
      have e1 := Nat.two_pow_add_eq_or_of_lt hlt 1
      rw [Nat.mul_one] at e1
      rw [Nat.or_comm, ← e1, Nat.add_comm]
      rw [encT, if_pos e] at ih
      exact ih
    · rw [encT, if_neg (by rw [e]; decide), Nat.add_zero] at ih
      exact ih
section
variable {α : Type} (tb : α → Nat) (want : Nat) (L : List α) (hL : L.length ≤ 1000000) (htb : ∀ x ∈ L, tb x < 65536) (hw : want < 65536)
include hL htb hw
theorem chosen_ev : ∀ (m p now : Nat), p ≤ L.length → m ≤ 1000 → now < 65536 → Ev (fun k => impl_chosen.f k (L.map fun x => (tb x : Int)) (p : Int) (m : Int) (now : Int) (want : Int)) ((chI tb want (L.drop p) p m now).getD [], (chI tb want (L.drop p) p m now).isSome)
  | 0, p, now, hp, hm, hn => by
    refine ev_succ ?_
    simp only [impl_chosen.f]
    refine ev_pos rfl (ev_eqv (Ev.now _) ?_)
    rw [chI_zero]
    by_cases h : now = want
    · subst h; rw [if_pos rfl, beq_self_eq_true]; rfl
    · rw [if_neg h, beq_eq_false_iff_ne.2 (by omega)]; rfl
  | m + 1, p, now, hp, hm, hn => by
    refine ev_succ ?_
    simp only [impl_chosen.f]
    refine ev_neg (by omega) ?_
    have := ev_range L.length (fun k i => impl_chosen.l0 k (L.map fun x => (tb x : Int)) ((m + 1 : Nat) : Int) (now : Int) (want : Int) (i : Int)) (fun i => ((chI tb want (L.drop i) i (m + 1) now).getD [], (chI tb want (L.drop i) i (m + 1) now).isSome)) ?_ ?_ p hp
    · exact this
    · refine ev_succ ?_
      simp only [impl_chosen.l0]
      rw [List.length_map]
      refine ev_neg (by omega) (ev_eqv (Ev.now _) ?_)
      rw [List.drop_length]; rfl
    · intro i hi ih
      have hr : rd (L.map fun x => (tb x : Int)) (i : Int) = (tb L[i] : Int) := by rw [rd_get (by rw [List.length_map]; exact hi), List.getElem_map]
      have ht := htb L[i] (List.getElem_mem hi)
      have hnb : (now &&& tb L[i]) < 65536 := Nat.lt_of_le_of_lt Nat.and_le_left hn
      refine ev_succ ?_
      simp only [impl_chosen.l0]
      rw [List.length_map, hr, and_nat _ _ (by omega) (by omega), wrap_succ hi (by omega), wrap_pred (show m < 1001 by omega) (by decide)]
      refine ev_pos (by omega) (ev_pos (by omega) ?_)
      have h1 := chosen_ev m (i + 1) (now &&& tb L[i]) hi (by omega) hnb
      have hl1 := chI_len tb want (L.drop (i + 1)) (i + 1) m (now &&& tb L[i])
      rw [List.drop_eq_getElem_cons hi, chI]
      cases e : chI tb want (L.drop (i + 1)) (i + 1) m (now &&& tb L[i]) with
      | some r =>
        rw [e] at h1
        have hl2 := hl1 r e
        refine Ev.bind h1 (ev_pos rfl (ev_bindS rfl (ev_pos ?_ (Ev.now _))))
        simp only [Option.getD_some, List.length_singleton]; omega
      | none =>
        rw [e] at h1
        exact Ev.bind h1 (ev_neg (by decide) ih)
end
theorem weSame_ev (f g : Nat → Bool) (N : Nat) (hN : N ≤ 65536) : Ev (fun k => spec_weSame.f k (tabB f N) (tabB g N)) (decide (encT f N = encT g N)) := by
  have hiff : encT f N = encT g N ↔ ∀ i, i < N → f i = g i := by
    refine ⟨fun h i hi => ?_, fun h => ?_⟩
    · have := congrArg (fun x => Nat.testBit x i) h
      simpa [encT_bit, hi] using this
    · refine Nat.eq_of_testBit_eq fun i => ?_
      rw [encT_bit, encT_bit]
      by_cases hi : i < N
      · rw [h i hi]
      · simp [hi]
  unfold spec_weSame.f
  rw [tabB_len, tabB_len]
  refine ev_pos rfl ?_
  have := ev_range N (fun k i => spec_weSame.l0 k (tabB f N) (tabB g N) (N : Int) (i : Int)) (fun i => ((List.range N).drop i).all fun j => f j == g j) ?_ ?_ 0 (Nat.zero_le _)
  · refine ev_eqv this ?_
    rw [Bool.eq_iff_iff, decide_eq_true_eq, hiff, List.drop_zero, List.all_eq_true]
    exact ⟨fun h i hi => beq_iff_eq.1 (h i (List.mem_range.2 hi)), fun h i hi => beq_iff_eq.2 (h i (List.mem_range.1 hi))⟩
  · refine ev_succ ?_
    simp only [spec_weSame.l0]
    refine ev_neg (Int.lt_irrefl _) (ev_eqv (Ev.now _) ?_)
    rw [List.drop_eq_nil_of_le (by simp)]; rfl
  · intro i hi ih
    refine ev_succ ?_
    simp only [spec_weSame.l0]
    rw [rdOf_tab hi, rdOf_tab hi, wrap_succ hi (by omega), tabB_len, tabB_len, range_drop N i hi, List.all_cons]
    refine ev_pos (by omega) (ev_pos (by omega) (ev_pos (by omega) (ev_pos (by omega) ?_)))
    by_cases e : f i = g i
    · refine ev_neg (by rw [e, bne_self_eq_false]; decide) (ev_eqv ih ?_)
      rw [e, beq_self_eq_true, Bool.true_and]
    · refine ev_pos (by rw [bne_iff_ne]; exact e) (ev_eqv (Ev.now _) ?_)
      rw [beq_eq_false_iff_ne.2 e]; rfl
theorem zip_tab (f g : Nat → Bool) (N : Nat) : List.zipWith (fun x y => x && y) (tabB f N) (tabB g N) = tabB (fun i => f i && g i) N := by
  refine List.ext_getElem (by rw [List.length_zipWith, tabB_len, tabB_len, tabB_len, Nat.min_self]) fun i h1 h2 => ?_
  rw [List.getElem_zipWith, tabB_get, tabB_get, tabB_get]
theorem enc_and (f g : Nat → Bool) (N : Nat) : encT (fun i => f i && g i) N = encT f N &&& encT g N := by
  refine Nat.eq_of_testBit_eq fun i => ?_
  rw [Nat.testBit_and, encT_bit, encT_bit, encT_bit]
  cases decide (i < N) <;> cases f i <;> cases g i <;> rfl
section
variable (n N : Nat) (hN : N ≤ 65536) (want : Nat → Bool) (L : List (List (List Int))) (hg : ∀ s ∈ L, Ev (fun k => spec_gmAll.f k (n : Int) s) (tabB (winB s) N))
include hN hg
theorem chLook_ev : ∀ (m p : Nat) (now : Nat → Bool) (b : List S28), p ≤ L.length → Ev (fun k => spec_chLook.f k (L.map (mkG n)) (tabB want N) m p (tabB now N) b) (match chF (fun s => encT (winB s) N) (encT want N) (L.drop p) m (encT now N) with
    | some r => (b ++ r.map (mkG n), true)
    | none => (if m = 0 then b else [], false))
  | 0, p, now, b, hp => by
    simp only [spec_chLook.f]
    refine Ev.bind (weSame_ev now want N hN) (ev_eqv (Ev.now _) ?_)
    rw [chF_zero]
    by_cases h : encT now N = encT want N
    · rw [if_pos h, decide_eq_true h]; simp
    · rw [if_neg h, decide_eq_false h]; rfl
  | m + 1, p, now, b, hp => by
    simp only [spec_chLook.f]
    have key : ∀ (d p : Nat), p + d = L.length → Ev (fun k => chLoop k (spec_chLook.f k (L.map (mkG n)) (tabB want N) m) (tabB now N) b ((L.map (mkG n)).drop p) p) (match chF (fun s => encT (winB s) N) (encT want N) (L.drop p) (m + 1) (encT now N) with
        | some r => (b ++ r.map (mkG n), true)
        | none => ([], false)) := by
      intro d
      induction d with
      | zero =>
        intro p hp
        rw [← List.map_drop, List.drop_of_length_le (by omega)]
        exact Ev.now _
      | succ d ih =>
        intro p hp
        have hi : p < L.length := by omega
        have h1 := chLook_ev m (p + 1) (fun i => winB L[p] i && now i) (b ++ [mkG n L[p]]) hi
        rw [← List.map_drop, List.drop_eq_getElem_cons hi, List.map_cons, chF]
        unfold chLoop
        rw [enc_and, Nat.and_comm] at h1
        refine Ev.bind (hg L[p] (List.getElem_mem hi)) (ev_pos (by rw [tabB_len, tabB_len]) ?_)
        rw [zip_tab]
        cases e : chF (fun s => encT (winB s) N) (encT want N) (L.drop (p + 1)) m (encT now N &&& encT (winB L[p]) N) with
        | some r =>
          rw [e] at h1
          refine Ev.bind h1 (ev_pos rfl (ev_eqv (Ev.now _) ?_))
          simp
        | none =>
          rw [e] at h1
          refine Ev.bind h1 (ev_neg (by simp) ?_)
          have h2 := ih (p + 1) (by omega)
          rw [← List.map_drop] at h2
          exact h2
    exact key (L.length - p) p (by omega)
end
theorem ne_K : ∀ n : Nat, n < 5 → 1 ≤ n → ∀ t ∈ tabsK n, leastK t ≠ [] ∧ ∀ s ∈ leastK t, s ≠ [] := by decide +kernel
theorem in_K : ∀ n : Nat, n < 5 → 1 ≤ n → ((monoK n).all fun c => c.testBit 0 || !c.testBit (2 ^ n - 1) || ((tabsK n).map codeK).contains c) = true := by decide +kernel
theorem wsB_congr {f g : Nat → Bool} {n i j m : Nat} (hn : n ≤ 9) (hi : i < n) (hj : j < n) (hm : m < 2 ^ n) (h : ∀ x, x < 2 ^ n → f x = g x) : wsB f i j m = wsB g i j m := by
  unfold wsB
  cases e1 : bitB m i with
  | true => rfl
  | false =>
    cases e2 : bitB m j with
    | true => rfl
    | false => rw [h _ (add_lt m j n hn hm hj e2), h _ (add_lt m i n hn hm hi e1)]
theorem allB_congr {p q : Nat → Bool} {N : Nat} (h : ∀ m, m < N → p m = q m) : allB p N 0 = allB q N 0 := by
  unfold allB
  rw [Bool.eq_iff_iff, List.all_eq_true, List.all_eq_true]
  refine forall_congr' fun m => ⟨fun h1 hm => ?_, fun h1 hm => ?_⟩
  · have := List.mem_range.1 hm; rw [← h (0 + m) (by omega)]; exact h1 hm
  · have := List.mem_range.1 hm; rw [h (0 + m) (by omega)]; exact h1 hm
theorem comA_congr {f g : Nat → Bool} {n : Nat} (hn : n ≤ 9) (h : ∀ x, x < 2 ^ n → f x = g x) : comA f n = comA g n := by
  have h1 : ∀ i j, i < n → j < n → comB f n i j = comB g n i j := fun i j hi hj => by
    unfold comB
    rw [allB_congr (fun m hm => wsB_congr hn hi hj hm h), allB_congr (fun m hm => wsB_congr hn hj hi hm h)]
  unfold comA
  rw [Bool.eq_iff_iff, List.all_eq_true, List.all_eq_true]
  have key : ∀ i, i ∈ List.range n → (comI f n i = comI g n i) := fun i hi => by
    have hi := List.mem_range.1 hi
    unfold comI
    rw [Bool.eq_iff_iff, List.all_eq_true, List.all_eq_true]
    refine forall_congr' fun j => ⟨fun h2 hj => ?_, fun h2 hj => ?_⟩
    · have := List.mem_range.1 hj; rw [← h1 i j hi (by omega)]; exact h2 hj
    · have := List.mem_range.1 hj; rw [h1 i j hi (by omega)]; exact h2 hj
  exact forall_congr' fun i => ⟨fun h2 hi => key i hi ▸ h2 hi, fun h2 hi => (key i hi).symm ▸ h2 hi⟩
theorem encT_congr {f g : Nat → Bool} : ∀ {N : Nat}, (∀ x, x < N → f x = g x) → encT f N = encT g N
  | 0, _ => rfl
  | N + 1, h => by rw [encT, encT, encT_congr (fun x hx => h x (by omega)), h N (by omega)]
theorem codeK_tab (g : Nat → Bool) (N : Nat) : codeK (tabB g N) = encT g N := by
  unfold codeK
  rw [tabB_len]
  refine encT_congr fun x hx => ?_
  rw [List.getD_eq_getElem?_getD, List.getElem?_eq_getElem (by rw [tabB_len]; exact hx), tabB_get]; rfl
theorem comT_tab (g : Nat → Bool) (n : Nat) (hn : n ≤ 9) : comT n (tabB g (2 ^ n)) = comA g n := by
  unfold comT
  refine comA_congr hn fun x hx => ?_
  rw [List.getD_eq_getElem?_getD, List.getElem?_eq_getElem (by rw [tabB_len]; exact hx), tabB_get]; rfl
theorem covT_tab (f g : Nat → Bool) (N : Nat) : covT (tabB f N) (tabB g N) = decide (encT g N &&& encT f N = encT f N) := by
  have hd : ∀ (h : Nat → Bool) i, i < N → (tabB h N).getD i false = h i := fun h i hi => by
    rw [List.getD_eq_getElem?_getD, List.getElem?_eq_getElem (by rw [tabB_len]; exact hi), tabB_get]; rfl
  rw [Bool.eq_iff_iff, decide_eq_true_eq]
  unfold covT
  rw [tabB_len, List.all_eq_true]
  constructor
  · intro h
    refine Nat.eq_of_testBit_eq fun i => ?_
    rw [Nat.testBit_and, encT_bit, encT_bit]
    by_cases hi : i < N
    · have := h i (List.mem_range.2 hi)
      rw [hd f i hi, hd g i hi] at this
      revert this
      cases f i <;> cases g i <;> simp
    · simp [hi]
  · intro h i hi
    have hi := List.mem_range.1 hi
    rw [hd f i hi, hd g i hi]
    have := congrArg (fun x => Nat.testBit x i) h
    simp only [Nat.testBit_and, encT_bit, hi, decide_true, Bool.true_and] at this
    revert this
    cases f i <;> cases g i <;> simp
def tbS (n : Nat) (s : List (List Int)) : Nat := encT (winB s) (2 ^ n)
def chP (n w : Nat) (s : List (List Int)) : Bool := decide (tbS n s &&& w = w) && comA (winB s) n
theorem winT_nat (n : Nat) (l : List (List Int)) : winT n l = tabB (winB l) (2 ^ n) := by unfold winT; rw [Int.toNat_natCast]
theorem chG_eq (n : Nat) (hn : n ≤ 9) (l : List (List Int)) : chG n (winT n l) = (gamesK n).filter (chP n (tbS n l)) := by
  unfold chG
  refine List.filter_congr fun s _ => ?_
  rw [winT_nat, winT_nat]
  unfold okT chP
  rw [covT_tab, comT_tab _ _ hn]; rfl
theorem encT_ones : ∀ N, encT (fun _ => true) N = 2 ^ N - 1
  | 0 => rfl
  | N + 1 => by have := Nat.two_pow_pos N; rw [encT, if_pos rfl, encT_ones N, Nat.pow_succ]; omega
theorem enc_full {c N : Nat} (h : c < 2 ^ N) : (2 ^ N - 1) &&& c = c := by
  rw [Nat.and_comm, Nat.and_two_pow_sub_one_eq_mod, Nat.mod_eq_of_lt h]
def chR (n : Nat) (l : List (List Int)) : List (List (List Int)) := chL (tbS n) (tbS n l) (2 ^ 2 ^ n - 1) ((gamesK n).filter (chP n (tbS n l)))
section
variable (n : Nat) (hn : 1 ≤ n ∧ n < 5) (l : List (List Int)) (hl : l.length ≤ 1048576) (hs : SetsOk (n : Int) l) (hne : l ≠ []) (hs0 : ∀ s ∈ l, s ≠ [])
include hn hs hne hs0
theorem ch_some : chF (tbS n) (tbS n l) ((gamesK n).filter (chP n (tbS n l))) 1 (2 ^ 2 ^ n - 1) ≠ none ∨ chF (tbS n) (tbS n l) ((gamesK n).filter (chP n (tbS n l))) 2 (2 ^ 2 ^ n - 1) ≠ none := by
  have hm := mono_mem n (winB l) (winB_mon l _)
  have h1 := List.all_eq_true.1 (in_K n hn.2 hn.1) _ hm
  rw [encT_bit, encT_bit, winB_zero l hs0, winB_all l n hne (fun s hs' => maskN_lt2 n s 0 (Nat.two_pow_pos _) (fun x hx => by
    have h1 := (hs.2 s hs').1
    have := isSetB_mem h1 x hx
    omega))] at h1
  have hpos := Nat.two_pow_pos n
  rw [decide_eq_true (show 2 ^ n - 1 < 2 ^ n by omega)] at h1
  simp only [Bool.and_false, Bool.true_and, Bool.not_true, Bool.or_false, Bool.false_or, List.contains_iff_mem, List.mem_map] at h1
  obtain ⟨t, ht, hc⟩ := h1
  have hmem : ∀ t ∈ tabsK n, leastK t ∈ gamesK n ∧ tbS n (leastK t) = codeK t ∧ comA (winB (leastK t)) n = comT n t := fun t ht => by
    have hw := win_K n hn.2 hn.1 t ht
    rw [winT_nat] at hw
    refine ⟨(sortL_perm lexG _).mem_iff.2 (List.mem_map.2 ⟨t, ht, rfl⟩), ?_, ?_⟩
    · unfold tbS; rw [← codeK_tab, hw]
    · rw [← comT_tab _ _ (by omega), hw]
  have hin : ∀ t ∈ tabsK n, codeK t &&& tbS n l = tbS n l → comT n t = true → leastK t ∈ (gamesK n).filter (chP n (tbS n l)) := fun t ht h1 h2 => by
    obtain ⟨a, b, c⟩ := hmem t ht
    refine List.mem_filter.2 ⟨a, ?_⟩
    unfold chP
    rw [b, c, h2, decide_eq_true h1]; rfl
  have hfull : (2 ^ 2 ^ n - 1) &&& tbS n l = tbS n l := enc_full (encT_lt _ _)
  have hfu : ∀ t ∈ tabsK n, (2 ^ 2 ^ n - 1) &&& tbS n (leastK t) = codeK t := fun t ht => by have h3 := (hmem t ht).2.1; rw [h3]; exact enc_full (by rw [← h3]; exact encT_lt _ _)
  have hd := dim_K n hn.2 hn.1
  unfold dimB dimC at hd
  have hd := List.all_eq_true.1 hd _ (List.mem_map.2 ⟨t, ht, rfl⟩)
  cases h2 : comT n t with
  | true =>
    refine .inl (chF_one _ _ _ _ (leastK t) (hin t ht (by rw [hc]; exact Nat.and_self _) h2) ?_)
    rw [hfu t ht, hc]; rfl
  | false =>
    rw [h2] at hd
    simp only [Bool.false_or, List.any_eq_true, List.mem_map, Bool.and_eq_true, beq_iff_eq, Bool.not_eq_true', beq_eq_false_iff_ne] at hd
    obtain ⟨_, ⟨a, ha, rfl⟩, ⟨ca, cc⟩, _, ⟨b, hb, rfl⟩, ⟨cb, hab⟩, cab⟩ := hd
    dsimp only at ca cc cb hab cab
    rw [hc] at cc cab
    refine .inr (chF_two _ _ _ _ (leastK a) (leastK b) (hin a ha (by rw [Nat.and_comm]; exact cc) ca) (hin b hb (by show codeK b &&& encT (winB l) (2 ^ n) = encT (winB l) (2 ^ n); rw [← cab, Nat.and_comm (codeK a), ← Nat.and_assoc, Nat.and_self]) cb) (fun e => hab ?_) ?_)
    · rw [← (hmem a ha).2.1, ← (hmem b hb).2.1, e]
    · rw [hfu a ha, (hmem b hb).2.1]; exact cab
include hl
theorem chNeeded_ev : Ev (fun k => spec_chNeeded.f k n l) ((chR n l).map (mkG n)) := by
  have h4 : 2 ^ n ≤ 16 := Nat.pow_le_pow_right (n := 2) (by decide) (show n ≤ 4 by omega)
  have hgm : ∀ s : List (List Int), s.length ≤ 1048576 → SetsOk (n : Int) s → Ev (fun k => spec_gmAll.f k (n : Int) s) (tabB (winB s) (2 ^ n)) := fun s h1 h2 => by
    unfold spec_gmAll.f
    exact Ev.bind (gmWins_ev (n : Int) s h1 h2) (ev_eqv (Ev.now _) (winT_nat n s))
  unfold spec_chNeeded.f
  refine ev_pos (by omega) (Ev.bind (chGames_ev hn l hl hs) (Ev.bind (hgm l hl hs) ?_))
  rw [chG_eq n (by omega), Int.toNat_natCast]
  have hlen : ((gamesK n).filter (chP n (tbS n l))).length ≤ 1000000 := by
    refine Nat.le_trans (List.length_filter_le _ _) ?_
    unfold gamesK
    rw [(sortL_perm lexG _).length_eq, List.length_map]
    exact (len_K n hn.2 hn.1).1
  refine ev_pos (by rw [List.length_map]; exact hlen) ?_
  have hev := fun m => chLook_ev n (2 ^ n) (by omega) (winB l) ((gamesK n).filter (chP n (tbS n l))) (fun s hs => by
    obtain ⟨a, b⟩ := gamesK_sets hn (List.mem_filter.1 hs).1
    exact hgm s a b) m 0 (fun _ => true) [] (Nat.zero_le _)
  have hrep : List.replicate (2 ^ n) true = tabB (fun _ => true) (2 ^ n) := (List.eq_replicate_iff.2 ⟨tabB_len _ _, fun b hb => by unfold tabB at hb; obtain ⟨_, _, rfl⟩ := List.mem_map.1 hb; rfl⟩).symm
  simp only [List.drop_zero, encT_ones, List.nil_append] at hev
  have hsome := ch_some n hn l hs hne hs0
  simp only [chNd]
  rw [hrep]
  unfold chR chL
  have e1 := hev 1
  change Ev _ (match chF (tbS n) (tbS n l) _ 1 _ with | some r => _ | none => _) at e1
  cases h1 : chF (tbS n) (tbS n l) ((gamesK n).filter (chP n (tbS n l))) 1 (2 ^ 2 ^ n - 1) with
  | some r =>
    rw [h1] at e1
    exact Ev.bind e1 (ev_pos rfl (Ev.now _))
  | none =>
    rw [h1] at e1 hsome
    refine Ev.bind e1 (ev_neg (by simp) ?_)
    have e2 := hev 2
    change Ev _ (match chF (tbS n) (tbS n l) _ 2 _ with | some r => _ | none => _) at e2
    cases h2 : chF (tbS n) (tbS n l) ((gamesK n).filter (chP n (tbS n l))) 2 (2 ^ 2 ^ n - 1) with
    | some r =>
      rw [h2] at e2
      exact Ev.bind e2 (ev_pos rfl (Ev.now _))
    | none => rw [h2] at hsome; exact absurd hsome (by simp)
end
def vtS (n : Nat) (s : List (List Int)) : S61 := ⟨(n : Int), tabB (winB s) (2 ^ n)⟩
theorem rd_vt {n : Nat} {L : List (List (List Int))} {i : Int} (h0 : 0 ≤ i) (h1 : i < (L.length : Int)) : rd_T61 (L.map (vtS n)) i = vtS n (L.getD i.toNat []) := by
  have h : i.toNat < L.length := by omega
  unfold rd_T61
  rw [List.getD_eq_getElem?_getD, List.getElem?_map, List.getElem?_eq_getElem h, List.getD_eq_getElem?_getD, List.getElem?_eq_getElem h]; rfl
theorem pick_ev (n : Nat) (L : List (List (List Int))) (ix : List Int) (hix : ix.length ≤ 1000) (h : ∀ i ∈ ix, 0 ≤ i ∧ i < (L.length : Int)) : Ev (fun k => impl_votes_chambers.l2 k (L.map (vtS n)) [] ix (ix.length : Int) 0) ((ix.map fun i => L.getD i.toNat []).map (vtS n)) := by
  have := ev_range ix.length (fun k i => impl_votes_chambers.l2 k (L.map (vtS n)) (((ix.take i).map fun i => L.getD i.toNat []).map (vtS n)) ix (ix.length : Int) (i : Int)) (fun _ => (ix.map fun i => L.getD i.toNat []).map (vtS n)) ?_ ?_ 0 (Nat.zero_le _)
  · simpa using this
  · refine ev_succ ?_
    simp only [impl_votes_chambers.l2]
    rw [List.take_length]
    exact ev_neg (Int.lt_irrefl _) (Ev.now _)
  · intro i hi ih
    obtain ⟨j0, j1⟩ := h ix[i] (List.getElem_mem hi)
    refine ev_succ ?_
    simp only [impl_votes_chambers.l2]
    rw [rd_get hi, rd_vt j0 j1, wrap_succ hi (by omega), List.length_map, List.length_map, List.length_map, List.length_take]
    refine ev_pos (by omega) (ev_pos (by omega) (ev_pos (by omega) (ev_pos j0 (ev_pos j1 (ev_pos (by omega) (ev_eqv ?_ rfl))))))
    rw [List.take_succ_eq_append_getElem hi, List.map_append, List.map_append] at ih
    exact ih
section
variable (n : Nat) (hn : 1 ≤ n ∧ n < 5) (l : List (List Int)) (hs : SetsOk (n : Int) l) (hne : l ≠ []) (hs0 : ∀ s ∈ l, s ≠ [])
include hn hs hne hs0
theorem many_ev : Ev (fun k => impl_votes_chambers.l1 k (((gamesK n).filter (chP n (tbS n l))).map (vtS n)) (((gamesK n).filter (chP n (tbS n l))).map fun s => (tbS n s : Int)) (tbS n l : Int) 1 (n : Int) (tabB (winB l) (2 ^ n))) ((chR n l).map (vtS n)) := by
  have h4 : 2 ^ n ≤ 16 := Nat.pow_le_pow_right (n := 2) (by decide) (show n ≤ 4 by omega)
  have hlen : ((gamesK n).filter (chP n (tbS n l))).length ≤ 1000000 := by
    refine Nat.le_trans (List.length_filter_le _ _) ?_
    unfold gamesK
    rw [(sortL_perm lexG _).length_eq, List.length_map]
    exact (len_K n hn.2 hn.1).1
  have hlt : ∀ s, tbS n s < 65536 := fun s => Nat.lt_of_lt_of_le (encT_lt _ _) (Nat.le_trans (Nat.pow_le_pow_right (n := 2) (by decide) h4) (by decide))
  have hfl : 2 ^ 2 ^ n - 1 < 65536 := Nat.lt_of_lt_of_le (Nat.sub_lt (Nat.two_pow_pos _) Nat.one_pos) (Nat.le_trans (Nat.pow_le_pow_right (n := 2) (by decide) h4) (by decide))
  have hfw : wrap64 (shl .i64 1 ((2 ^ n : Nat) : Int) - 1) = ((2 ^ 2 ^ n - 1 : Nat) : Int) := by
    rw [shl_one_nat (2 ^ n) h4]
    have := Nat.two_pow_pos (2 ^ n)
    rw [wrap64_id (by omega)]; omega
  have hch := fun m (hm : m ≤ 1000) => chosen_ev (tbS n) (tbS n l) ((gamesK n).filter (chP n (tbS n l))) hlen (fun s _ => hlt s) (hlt l) m 0 (2 ^ 2 ^ n - 1) (Nat.zero_le _) hm hfl
  have hcI := fun m => chI_chF (tbS n) (tbS n l) ((gamesK n).filter (chP n (tbS n l))) [] _ 0 m (2 ^ 2 ^ n - 1) rfl
  simp only [List.drop_zero] at hch hcI
  have hsome := ch_some n hn l hs hne hs0
  have done : ∀ m ix, m ≤ 1000 → chI (tbS n) (tbS n l) ((gamesK n).filter (chP n (tbS n l))) 0 m (2 ^ 2 ^ n - 1) = some ix → Ev (fun k => impl_votes_chambers.l2 k (((gamesK n).filter (chP n (tbS n l))).map (vtS n)) [] ix (ix.length : Int) 0) ((ix.map fun i => ((gamesK n).filter (chP n (tbS n l))).getD i.toNat []).map (vtS n)) := fun m ix hm h =>
    pick_ev n _ ix (by rw [chI_len _ _ _ _ _ _ _ h]; exact hm) (fun i hi => by have := chI_in _ _ _ _ _ _ _ h i hi; omega)
  unfold chR chL
  refine ev_succ ?_
  simp only [impl_votes_chambers.l1]
  rw [tabB_len, hfw]
  have e1 := hch 1 (by decide)
  have c1 := hcI 1
  cases h1 : chI (tbS n) (tbS n l) ((gamesK n).filter (chP n (tbS n l))) 0 1 (2 ^ 2 ^ n - 1) with
  | some ix =>
    rw [h1] at e1 c1
    rw [← c1]
    exact Ev.bind e1 (ev_pos rfl (done 1 ix (by decide) h1))
  | none =>
    rw [h1] at e1 c1
    rw [← c1] at hsome ⊢
    refine Ev.bind e1 (ev_neg (by simp) ?_)
    refine ev_succ ?_
    rw [show wrap64 (1 + 1) = ((2 : Nat) : Int) from by rw [wrap64_id (by omega)]; rfl]
    simp only [impl_votes_chambers.l1]
    rw [tabB_len, hfw]
    have e2 := hch 2 (by decide)
    have c2 := hcI 2
    cases h2 : chI (tbS n) (tbS n l) ((gamesK n).filter (chP n (tbS n l))) 0 2 (2 ^ 2 ^ n - 1) with
    | some ix =>
      rw [h2] at e2 c2
      rw [← c2]
      exact Ev.bind e2 (ev_pos rfl (done 2 ix (by decide) h2))
    | none => rw [h2] at c2; rw [← c2] at hsome; exact absurd hsome (by simp)
theorem chambers_ev : Ev (fun k => impl_votes_chambers.f k (n : Int) (tabB (winB l) (2 ^ n))) ((chR n l).map (vtS n)) := by
  have h4 : 2 ^ n ≤ 16 := Nat.pow_le_pow_right (n := 2) (by decide) (show n ≤ 4 by omega)
  have hgl : (gamesK n).length ≤ 1000000 := by
    unfold gamesK
    rw [(sortL_perm lexG _).length_eq, List.length_map]
    exact (len_K n hn.2 hn.1).1
  have hlt : ∀ s, tbS n s < 65536 := fun s => Nat.lt_of_lt_of_le (encT_lt _ _) (Nat.le_trans (Nat.pow_le_pow_right (n := 2) (by decide) h4) (by decide))
  unfold impl_votes_chambers.f
  refine Ev.bind (table_ev n (winB l) (2 ^ n) h4) (Ev.bind (allGames_ev hn) ?_)
  rw [List.length_map]
  have := ev_range (gamesK n).length (fun k i => impl_votes_chambers.l0 k ((((gamesK n).take i).filter (chP n (tbS n l))).map (vtS n)) ((((gamesK n).take i).filter (chP n (tbS n l))).map fun s => (tbS n s : Int)) (tbS n l : Int) ((gamesK n).map (mkG n)) ((gamesK n).length : Int) (i : Int) (n : Int) (tabB (winB l) (2 ^ n))) (fun _ => (chR n l).map (vtS n)) ?_ ?_ 0 (Nat.zero_le _)
  · simpa [tbS] using this
  · refine ev_succ ?_
    simp only [impl_votes_chambers.l0]
    rw [List.take_length]
    exact ev_neg (Int.lt_irrefl _) (many_ev n hn l hs hne hs0)
  · intro i hi ih
    have hmem : (gamesK n)[i] ∈ gamesK n := List.getElem_mem hi
    have hr : rd_T28 ((gamesK n).map (mkG n)) (i : Int) = mkG n (gamesK n)[i] := by
      unfold rd_T28
      rw [Int.toNat_natCast, List.getD_eq_getElem?_getD, List.getElem?_map, List.getElem?_eq_getElem hi]; rfl
    obtain ⟨k1, k2⟩ := gamesK_sets hn hmem
    obtain ⟨t, ht, e⟩ := gamesK_mem hmem
    have hne2 := ne_K n hn.2 hn.1 t ht
    rw [← e] at hne2
    obtain ⟨f1, f2⟩ := find2_ev n (gamesK n)[i] k1 k2 ⟨hn.1, by omega⟩ hne2.1 hne2.2
    have hv : Ev (fun k => impl_Game_votes.f k (n : Int) (gamesK n)[i]) ((n : Int), tabB (winB (gamesK n)[i]) (2 ^ n)) := ev_eqv (Game_votes_ev (n : Int) _ k1 k2) (by rw [winT_nat])
    have hfl : ∀ q, ((((gamesK n).take i).filter q)).length ≤ 1000000 := fun q => Nat.le_trans (List.length_filter_le _ _) (by rw [List.length_take]; omega)
    have hnat : ∀ x : Int, Int.toNat (i : Int) = i := fun _ => Int.toNat_natCast i
    rw [List.take_succ_eq_append_getElem hi, List.filter_append] at ih
    refine ev_succ ?_
    simp only [impl_votes_chambers.l0]
    rw [hr, wrap_succ hi (by omega), List.length_map]
    refine ev_pos (by omega) (ev_pos (by omega) (ev_pos (by omega) (Ev.bind hv (Ev.bind (table_ev n (winB (gamesK n)[i]) (2 ^ n) h4) ?_))))
    have ea : Go.bits .and .i64 (tbS n (gamesK n)[i] : Int) (tbS n l : Int) = ((tbS n (gamesK n)[i] &&& tbS n l : Nat) : Int) := and_nat _ _ (Nat.lt_trans (hlt _) (by decide)) (Nat.lt_trans (hlt _) (by decide))
    change Ev (fun k => if Go.bits .and .i64 (tbS n (gamesK n)[i] : Int) (tbS n l : Int) = (tbS n l : Int) then _ else _) _
    rw [ea]
    by_cases hc : tbS n (gamesK n)[i] &&& tbS n l = tbS n l
    · refine ev_pos (by rw [hc]) ?_
      cases hcom : comA (winB (gamesK n)[i]) n with
      | true =>
        obtain ⟨p, _, _, _, h3⟩ := f1 hcom
        rw [List.filter_cons_of_pos (by unfold chP; rw [hcom, decide_eq_true hc]; rfl), List.filter_nil, List.map_append, List.map_append] at ih
        refine Ev.bind h3 (ev_neg (by simp) (ev_pos ?_ (ev_pos ?_ ih)))
        · rw [List.length_map]; exact Nat.lt_of_le_of_lt (hfl _) (by decide)
        · rw [List.length_map]; exact Nat.lt_of_le_of_lt (hfl _) (by decide)
      | false =>
        obtain ⟨a, b, _, _, h3⟩ := f2 hcom
        rw [List.filter_cons_of_neg (by unfold chP; rw [hcom, Bool.and_false]; decide), List.filter_nil, List.append_nil] at ih
        exact Ev.bind h3 (ev_pos rfl ih)
    · rw [List.filter_cons_of_neg (by unfold chP; rw [decide_eq_false hc, Bool.false_and]; decide), List.filter_nil, List.append_nil] at ih
      exact ev_neg (by omega) ih
end
def chains9 : List (List Nat) := [[0, 1, 3, 7, 15, 31, 63, 127, 255, 511], [2, 6, 14, 30, 62, 126, 254, 510], [4, 5, 13, 29, 61, 125, 253, 509], [8, 9, 11, 27, 59, 123, 251, 507], [16, 17, 19, 23, 55, 119, 247, 503], [32, 33, 35, 39, 47, 111, 239, 495], [64, 65, 67, 71, 79, 95, 223, 479], [128, 129, 131, 135, 143, 159, 191, 447], [256, 257, 259, 263, 271, 287, 319, 383], [10, 26, 58, 122, 250, 506], [12, 28, 60, 124, 252, 508], [18, 22, 54, 118, 246, 502], [20, 21, 53, 117, 245, 501], [24, 25, 57, 121, 249, 505], [34, 38, 46, 110, 238, 494], [36, 37, 45, 109, 237, 493], [40, 41, 43, 107, 235, 491], [48, 49, 51, 115, 243, 499], [66, 70, 78, 94, 222, 478], [68, 69, 77, 93, 221, 477], [72, 73, 75, 91, 219, 475], [80, 81, 83, 87, 215, 471], [96, 97, 99, 103, 231, 487], [130, 134, 142, 158, 190, 446], [132, 133, 141, 157, 189, 445], [136, 137, 139, 155, 187, 443], [144, 145, 147, 151, 183, 439], [160, 161, 163, 167, 175, 431], [192, 193, 195, 199, 207, 463], [258, 262, 270, 286, 318, 382], [260, 261, 269, 285, 317, 381], [264, 265, 267, 283, 315, 379], [272, 273, 275, 279, 311, 375], [288, 289, 291, 295, 303, 367], [320, 321, 323, 327, 335, 351], [384, 385, 387, 391, 399, 415], [42, 106, 234, 490], [44, 108, 236, 492], [50, 114, 242, 498], [52, 116, 244, 500], [56, 120, 248, 504], [74, 90, 218, 474], [76, 92, 220, 476], [82, 86, 214, 470], [84, 85, 213, 469], [88, 89, 217, 473], [98, 102, 230, 486], [100, 101, 229, 485], [104, 105, 233, 489], [112, 113, 241, 497], [138, 154, 186, 442], [140, 156, 188, 444], [146, 150, 182, 438], [148, 149, 181, 437], [152, 153, 185, 441], [162, 166, 174, 430], [164, 165, 173, 429], [168, 169, 171, 427], [176, 177, 179, 435], [194, 198, 206, 462], [196, 197, 205, 461], [200, 201, 203, 459], [208, 209, 211, 467], [224, 225, 227, 483], [266, 282, 314, 378], [268, 284, 316, 380], [274, 278, 310, 374], [276, 277, 309, 373], [280, 281, 313, 377], [290, 294, 302, 366], [292, 293, 301, 365], [296, 297, 299, 363], [304, 305, 307, 371], [322, 326, 334, 350], [324, 325, 333, 349], [328, 329, 331, 347], [336, 337, 339, 343], [352, 353, 355, 359], [386, 390, 398, 414], [388, 389, 397, 413], [392, 393, 395, 411], [400, 401, 403, 407], [416, 417, 419, 423], [448, 449, 451, 455], [170, 426], [172, 428], [178, 434], [180, 436], [184, 440], [202, 458], [204, 460], [210, 466], [212, 468], [216, 472], [226, 482], [228, 484], [232, 488], [240, 496], [298, 362], [300, 364], [306, 370], [308, 372], [312, 376], [330, 346], [332, 348], [338, 342], [340, 341], [344, 345], [354, 358], [356, 357], [360, 361], [368, 369], [394, 410], [396, 412], [402, 406], [404, 405], [408, 409], [418, 422], [420, 421], [424, 425], [432, 433], [450, 454], [452, 453], [456, 457], [464, 465], [480, 481]]
set_option maxRecDepth 100000 in
theorem chains9_len : chains9.length = 126 := by kernel_rfl
set_option maxRecDepth 100000 in
theorem chains9_all : ((List.range 512).all fun m => chains9.any fun c => c.contains m) = true := by kernel_rfl
set_option maxRecDepth 100000 in
theorem chains9_each : (chains9.all fun c => c.all fun a => c.all fun b => (a &&& b == a) || (a &&& b == b)) = true := by kernel_rfl
theorem pigeon : ∀ (n : Nat) (l : List Nat), l.Nodup → (∀ x ∈ l, x < n) → l.length ≤ n
  | 0, [], _, _ => Nat.le_refl _
  | 0, x :: l, _, h => absurd (h x (List.mem_cons_self ..)) (by omega)
  | n + 1, l, hd, h => by
    by_cases hm : n ∈ l
    · have := pigeon n (l.erase n) (hd.erase n) (fun x hx => by
        have h1 := h x (List.mem_of_mem_erase hx)
        have h2 : x ≠ n := fun e => (List.Nodup.not_mem_erase hd) (e ▸ hx)
        omega)
      rw [List.length_erase_of_mem hm] at this
      omega
    · exact Nat.le_trans (pigeon n l hd (fun x hx => by
        have h1 := h x hx
        have h2 : x ≠ n := fun e => hm (e ▸ hx)
        omega)) (Nat.le_succ n)
theorem antichain9 (l : List Nat) (h : ∀ x ∈ l, x < 512) (ha : l.Pairwise fun a b => a &&& b ≠ a ∧ a &&& b ≠ b) : l.length ≤ 126 := by
  have hf : ∀ m, m < 512 → ∃ c ∈ chains9, m ∈ c := fun m hm => by
    have := List.all_eq_true.1 chains9_all m (List.mem_range.2 hm)
    obtain ⟨c, hc, hmc⟩ := List.any_eq_true.1 this
    exact ⟨c, hc, by simpa using hmc⟩
  let f := fun m => chains9.findIdx fun c => c.contains m
  have hlt : ∀ m, m < 512 → f m < 126 := fun m hm => by
    obtain ⟨c, hc, hmc⟩ := hf m hm
    rw [← chains9_len]
    exact List.findIdx_lt_length_of_exists ⟨c, hc, by simpa using hmc⟩
  have heq : ∀ a b, a < 512 → b < 512 → f a = f b → a &&& b = a ∨ a &&& b = b := fun a b hA hB e => by
    have la : f a < chains9.length := by rw [chains9_len]; exact hlt a hA
    have lb : f b < chains9.length := by rw [chains9_len]; exact hlt b hB
    have h1 : (chains9[f a]).contains a = true := List.findIdx_getElem (w := la)
    have h2 : (chains9[f b]).contains b = true := List.findIdx_getElem (w := lb)
    have h3 : chains9[f b] = chains9[f a] := by simp only [e]
    rw [h3] at h2
    have := List.all_eq_true.1 (List.all_eq_true.1 (List.all_eq_true.1 chains9_each _ (List.getElem_mem la)) a (by simpa using h1)) b (by simpa using h2)
    simpa using this
  have hn : (l.map f).Nodup := by
    rw [List.Nodup, List.pairwise_map]
    refine ha.imp_of_mem fun {a b} hA hB hab e => ?_
    rcases heq a b (h a hA) (h b hB) e with h1 | h1
    · exact hab.1 h1
    · exact hab.2 h1
  have := pigeon 126 (l.map f) hn (fun x hx => by
    obtain ⟨m, hm, rfl⟩ := List.mem_map.1 hx
    exact hlt m (h m hm))
  rwa [List.length_map] at this
theorem areSets_ev (l : List (List Int)) (n : Int) (hn : -1000000 ≤ n ∧ n ≤ 1000000) (hl : ∀ x ∈ l, x.length ≤ 1048576) : Ev (fun k => impl_areSets.f k l n) (l.all fun s => decide (s ≠ []) && isSetB s n) := by
  unfold impl_areSets.f
  refine ev_eqv (Ev.bind (ev_anyO (fun k => impl_areSets_1.f k n) (fun s => !(decide (s ≠ []) && isSetB s n)) l (fun x hx => ?_)) (Ev.now _)) (any_not_all _ _)
  unfold impl_areSets_1.f
  by_cases h : x = []
  · subst h; exact ev_pos (by simp) (Ev.now _)
  · have : x.length ≠ 0 := fun e => h (List.length_eq_zero_iff.1 e)
    refine ev_neg (by omega) (ev_eqv (Ev.bind (isSet_ev x n hn (Nat.le_trans (hl x hx) (by decide))) (Ev.now _)) ?_)
    rw [decide_eq_true h, Bool.true_and]
theorem IsGame_l0 (m : Int) (l : List (List Int)) (hl : l.length ≤ 1048576) (h : SetsOk m l) : Ev (fun k => impl_IsGame.l0 k l (l.length : Int) 0 m l) (allR (fun i => rises l i && apartI l i) l.length 0) := by
  refine ev_range l.length (fun k i => impl_IsGame.l0 k l (l.length : Int) (i : Int) m l) (fun i => allR (fun i => rises l i && apartI l i) l.length i) ?_ ?_ 0 (Nat.zero_le _)
  · refine ev_succ ?_
    simp only [impl_IsGame.l0]
    exact ev_neg (by omega) (ev_eqv (Ev.now _) (allR_end _ _).symm)
  · intro i hi ih
    rw [allR_step _ _ _ hi]
    have inner : rises l i = true → Ev (fun k => impl_IsGame.l1 k (i : Int) l[i] l (l.length : Int) (i : Int) l (l.length : Int) 0 m l) ((rises l i && apartI l i) && allR (fun i => rises l i && apartI l i) l.length (i + 1)) := by
      intro hr
      rw [hr, Bool.true_and]
      refine ev_range l.length (fun k h => impl_IsGame.l1 k (i : Int) l[i] l (l.length : Int) (i : Int) l (l.length : Int) (h : Int) m l) (fun h => allR (fun h => decide (h = i) || !(mk l i &&& mk l h == mk l h)) l.length h && allR (fun i => rises l i && apartI l i) l.length (i + 1)) ?_ ?_ 0 (Nat.zero_le _)
      · refine ev_succ ?_
        simp only [impl_IsGame.l1]
        refine ev_neg (by omega) ?_
        rw [allR_end, Bool.true_and, wrap_succ hi (by omega)]
        exact ih
      · intro j hj ihj
        refine ev_succ ?_
        simp only [impl_IsGame.l1]
        refine ev_pos (by omega) (ev_pos (by omega) (ev_pos (by omega) ?_))
        rw [rdL1_get hj, wrap_succ hj (by omega), allR_step _ _ _ hj]
        by_cases e : j = i
        · refine ev_pos (by omega) ?_
          rw [decide_eq_true e]
          exact ihj
        · refine ev_neg (by omega) (Ev.bind (h.masks hi).1 (Ev.bind (h.masks hj).1 ?_))
          rw [decide_eq_false e]
          by_cases c : (mk l i &&& mk l j == mk l j) = true
          · refine ev_pos ((and_eq_nat (h.lt hi) (h.lt hj)).2 c) ?_
            rw [c]; exact Ev.now _
          · refine ev_neg (fun x => c ((and_eq_nat (h.lt hi) (h.lt hj)).1 x)) ?_
            rw [Bool.not_eq_true] at c
            rw [c]; exact ihj
    refine ev_succ ?_
    simp only [impl_IsGame.l0]
    refine ev_pos (by omega) (ev_pos (by omega) (ev_pos (by omega) ?_))
    rw [rdL1_get hi]
    by_cases h0 : i = 0
    · subst h0
      refine ev_neg (by omega) (ev_succ ?_)
      simp only [impl_IsGame.j2]
      exact ev_neg (by simp) (inner (by simp [rises]))
    · have hp : i - 1 < l.length := by omega
      refine ev_pos (by omega) ?_
      rw [wrap_pred2 (by omega) (by omega)]
      refine ev_pos (by omega) (ev_pos (by omega) ?_)
      rw [rdL1_get hp]
      refine Ev.bind (Compare_ev _ _ (Nat.le_trans (h.2 _ (List.getElem_mem hp)).2 (by decide))) (ev_succ ?_)
      simp only [impl_IsGame.j2]
      have hr : rises l i = lexB l[i - 1] l[i] := by unfold rises; rw [decide_eq_false h0, Bool.false_or, getD_get hp, getD_get hi]
      rw [cmpL_ge, ← hr]
      cases hq : rises l i
      · exact ev_pos (by simp) (Ev.now _)
      · refine ev_neg (by simp) ?_
        have := inner hq
        rw [hq] at this
        exact this
theorem gmGood_l0 (m : Int) (l : List (List Int)) (hl : l.length ≤ 1048576) (h : SetsOk m l) : Ev (fun k => spec_gmGood.l0 k l (l.length : Int) 0 m l) (allR (fun i => rises l i && apartS l i) l.length 0) := by
  refine ev_range l.length (fun k i => spec_gmGood.l0 k l (l.length : Int) (i : Int) m l) (fun i => allR (fun i => rises l i && apartS l i) l.length i) ?_ ?_ 0 (Nat.zero_le _)
  · refine ev_succ ?_
    simp only [spec_gmGood.l0]
    exact ev_neg (by omega) (ev_eqv (Ev.now _) (allR_end _ _).symm)
  · intro i hi ih
    rw [allR_step _ _ _ hi]
    have inner : rises l i = true → Ev (fun k => spec_gmGood.l1 k (mk l i : Int) l (l.length : Int) (i : Int) (l.take i) ((l.take i).length : Int) 0 m l) ((rises l i && apartS l i) && allR (fun i => rises l i && apartS l i) l.length (i + 1)) := by
      intro hr
      rw [hr, Bool.true_and]
      have ht : (l.take i).length = i := by rw [List.length_take]; omega
      rw [ht]
      refine ev_range i (fun k h => spec_gmGood.l1 k (mk l i : Int) l (l.length : Int) (i : Int) (l.take i) (i : Int) (h : Int) m l) (fun h => allR (fun h => !(mk l i &&& mk l h == mk l i) && !(mk l i &&& mk l h == mk l h)) i h && allR (fun i => rises l i && apartS l i) l.length (i + 1)) ?_ ?_ 0 (Nat.zero_le _)
      · refine ev_succ ?_
        simp only [spec_gmGood.l1]
        refine ev_neg (by omega) ?_
        rw [allR_end, Bool.true_and, wrap_succ hi (by omega)]
        exact ih
      · intro j hj ihj
        have hjl : j < l.length := by omega
        have hjt : j < (l.take i).length := by omega
        refine ev_succ ?_
        simp only [spec_gmGood.l1]
        refine ev_pos (by omega) (ev_pos (by omega) (ev_pos (by omega) ?_))
        rw [rdL1_get hjt, List.getElem_take, wrap_succ hj (by omega), allR_step _ _ _ hj]
        refine Ev.bind (h.masks hjl).2 ?_
        by_cases c : (mk l i &&& mk l j == mk l i) = true
        · refine ev_pos ((and_eq_nat (h.lt hi) (h.lt hjl)).2 c) ?_
          rw [c]; exact Ev.now _
        · refine ev_neg (fun x => c ((and_eq_nat (h.lt hi) (h.lt hjl)).1 x)) ?_
          rw [Bool.not_eq_true] at c
          rw [c]
          by_cases c2 : (mk l i &&& mk l j == mk l j) = true
          · refine ev_pos ((and_eq_nat (h.lt hi) (h.lt hjl)).2 c2) ?_
            rw [c2]; exact Ev.now _
          · refine ev_neg (fun x => c2 ((and_eq_nat (h.lt hi) (h.lt hjl)).1 x)) ?_
            rw [Bool.not_eq_true] at c2
            rw [c2]; exact ihj
    have step : rises l i = true → Ev (fun k => spec_gmGood.j1 k (i : Int) l[i] l (l.length : Int) (i : Int) false m l) ((rises l i && apartS l i) && allR (fun i => rises l i && apartS l i) l.length (i + 1)) := by
      intro hr
      refine ev_succ ?_
      simp only [spec_gmGood.j1]
      refine ev_neg (by simp) (Ev.bind (h.masks hi).2 (ev_pos (by omega) (ev_pos (by omega) ?_)))
      simp only [Int.toNat_natCast, Option.bind_some]
      exact inner hr
    refine ev_succ ?_
    simp only [spec_gmGood.l0]
    refine ev_pos (by omega) (ev_pos (by omega) (ev_pos (by omega) ?_))
    rw [rdL1_get hi]
    by_cases h0 : i = 0
    · subst h0
      exact ev_neg (by omega) (step (by simp [rises]))
    · have hp : i - 1 < l.length := by omega
      refine ev_pos (by omega) ?_
      rw [wrap_pred2 (by omega) (by omega)]
      refine ev_pos (by omega) (ev_pos (by omega) ?_)
      rw [rdL1_get hp]
      have hr : rises l i = lexB l[i - 1] l[i] := by unfold rises; rw [decide_eq_false h0, Bool.false_or, getD_get hp, getD_get hi]
      refine Ev.bind (voBefore_ev _ _ (Nat.le_trans (h.2 _ (List.getElem_mem hp)).2 (by decide))) ?_
      rw [← hr]
      cases hq : rises l i
      · refine ev_succ ?_
        simp only [spec_gmGood.j1]
        exact ev_pos (by simp) (Ev.now _)
      · have := step hq
        rw [hq] at this
        exact this
theorem apart_same (l : List (List Int)) : allR (fun i => rises l i && apartS l i) l.length 0 = allR (fun i => rises l i && apartI l i) l.length 0 := by
  rw [Bool.eq_iff_iff, allR_iff, allR_iff]
  constructor
  · intro h i hi
    have hi' := h i hi
    rw [Bool.and_eq_true] at hi' ⊢
    refine ⟨hi'.1, (allR_iff _ _).2 fun j hj => ?_⟩
    rcases Nat.lt_trichotomy j i with c | c | c
    · have := (allR_iff _ _).1 hi'.2 j c
      rw [Bool.and_eq_true] at this
      rw [this.2, Bool.or_true]
    · rw [decide_eq_true c, Bool.true_or]
    · have hj' := h j hj
      rw [Bool.and_eq_true] at hj'
      have := (allR_iff _ _).1 hj'.2 i c
      rw [Bool.and_eq_true] at this
      rw [Nat.and_comm, this.1, Bool.or_true]
  · intro h i hi
    have hi' := h i hi
    rw [Bool.and_eq_true] at hi' ⊢
    refine ⟨hi'.1, (allR_iff _ _).2 fun j hj => ?_⟩
    have hjl : j < l.length := by omega
    have h1 := (allR_iff _ _).1 hi'.2 j hjl
    have hj' := h j hjl
    rw [Bool.and_eq_true] at hj'
    have h2 := (allR_iff _ _).1 hj'.2 i hi
    rw [decide_eq_false (by omega), Bool.false_or] at h1 h2
    rw [Nat.and_comm] at h2
    rw [h1, h2]; rfl
theorem few_sets {m : Int} {l : List (List Int)} (h : SetsOk m l) (ha : allR (fun i => rises l i && apartI l i) l.length 0 = true) : l.length ≤ 126 := by
  have hlen : ((List.range l.length).map (mk l)).length = l.length := by simp
  rw [← hlen]
  refine antichain9 _ (fun x hx => ?_) ?_
  · obtain ⟨i, hi, rfl⟩ := List.mem_map.1 hx
    exact h.lt (List.mem_range.1 hi)
  · rw [List.pairwise_map]
    refine List.pairwise_lt_range.imp_of_mem fun {i j} hi hj hij => ?_
    have key : ∀ i j, i < l.length → j < l.length → i ≠ j → mk l i &&& mk l j ≠ mk l j := fun i j hi hj hne => by
      have := (allR_iff _ _).1 ha i hi
      rw [Bool.and_eq_true] at this
      have := (allR_iff _ _).1 this.2 j hj
      rw [decide_eq_false (by omega), Bool.false_or] at this
      simpa using this
    have hi' := List.mem_range.1 hi
    have hj' := List.mem_range.1 hj
    exact ⟨by rw [Nat.and_comm]; exact key j i hj' hi' (by omega), key i j hi' hj' (by omega)⟩
theorem IsGame_ev (m : Int) (l : List (List Int)) (hl : l.length ≤ 1048576) (hb : ∀ x ∈ l, x.length ≤ 1048576) : Ev (fun k => impl_IsGame.f k m l) (gmOk m l) := by
  unfold impl_IsGame.f gmOk
  simp only [within_eq, Option.bind_some]
  refine ev_bool (fun hm => ?_) (fun hm => ?_)
  · rw [hm]
    have hm' := inB_iff.1 hm
    by_cases h0 : l = []
    · subst h0
      refine ev_pos rfl (ev_succ ?_)
      simp only [impl_IsGame.j0]
      exact ev_pos (by simp) (Ev.now _)
    · have : l.length ≠ 0 := fun e => h0 (List.length_eq_zero_iff.1 e)
      refine ev_neg (by omega) (Ev.bind (areSets_ev l m (by omega) hb) (ev_succ ?_))
      rw [decide_eq_true h0]
      simp only [impl_IsGame.j0]
      cases hs : l.all fun s => decide (s ≠ []) && isSetB s m
      · exact ev_pos (by simp) (Ev.now _)
      · exact ev_neg (by simp) (IsGame_l0 m l hl (SetsOk.of hm hs hb))
  · rw [hm]
    refine ev_succ ?_
    simp only [impl_IsGame.j0]
    exact ev_pos (by simp) (Ev.now _)
theorem gmSets_l0 (m : Int) (l : List (List Int)) (hm : 1 ≤ m ∧ m ≤ 9) (hl : l.length ≤ 1048576) (hb : ∀ x ∈ l, x.length ≤ 1048576) : Ev (fun k => spec_gmSets.l0 k m l (l.length : Int) 0) (l.all fun s => decide (s ≠ []) && isSetB s m) := by
  have := ev_range l.length (fun k i => spec_gmSets.l0 k m l (l.length : Int) (i : Int)) (fun i => (l.drop i).all fun s => decide (s ≠ []) && isSetB s m) ?_ ?_ 0 (Nat.zero_le _)
  · simpa using this
  · refine ev_succ ?_
    simp only [spec_gmSets.l0]
    exact ev_neg (by omega) (ev_eqv (Ev.now _) (by rw [drop_end]; rfl))
  · intro i hi ih
    refine ev_succ ?_
    simp only [spec_gmSets.l0]
    refine ev_pos (by omega) (ev_pos (by omega) (ev_pos (by omega) ?_))
    rw [rdL1_get hi, wrap_succ hi (by omega), all_drop _ _ _ hi]
    by_cases h0 : l[i] = []
    · refine ev_pos (by rw [h0]; rfl) (ev_eqv (Ev.now _) ?_)
      rw [decide_eq_false (by simpa using h0)]; rfl
    · have : l[i].length ≠ 0 := fun e => h0 (List.length_eq_zero_iff.1 e)
      refine ev_neg (by omega) (Ev.bind (voSet_ev l[i] m (by omega) (Nat.le_trans (hb _ (List.getElem_mem hi)) (by decide))) ?_)
      rw [decide_eq_true h0, Bool.true_and]
      exact ev_bool (fun h => by rw [h]; exact ih) (fun h => by rw [h]; exact Ev.now _)
theorem gmGood_ev (m : Int) (l : List (List Int)) (hl : l.length ≤ 1048576) (hb : ∀ x ∈ l, x.length ≤ 1048576) : Ev (fun k => spec_gmGood.f k m l) (gmOk m l) := by
  unfold spec_gmGood.f
  have hS : Ev (fun k => spec_gmSets.f k m l 126) (inB m 1 9 && (inB (l.length : Int) 1 126 && l.all fun s => decide (s ≠ []) && isSetB s m)) := by
    unfold spec_gmSets.f
    simp only [l1In_eq, Option.bind_some]
    refine ev_bool (fun hm => ?_) (fun hm => ?_)
    · rw [hm]
      refine ev_succ ?_
      simp only [spec_gmSets.j0]
      cases hn : inB (l.length : Int) 1 126
      · exact ev_pos (by simp) (Ev.now _)
      · exact ev_neg (by simp) (gmSets_l0 m l (inB_iff.1 hm) hl hb)
    · rw [hm]
      refine ev_succ ?_
      simp only [spec_gmSets.j0]
      exact ev_pos (by simp) (Ev.now _)
  refine Ev.bind hS (ev_bool (fun h => ?_) (fun h => ?_))
  · rw [Bool.and_eq_true, Bool.and_eq_true] at h
    refine ev_eqv (gmGood_l0 m l hl (SetsOk.of h.1 h.2.2 hb)) ?_
    have hn := inB_iff.1 h.2.1
    unfold gmOk
    rw [h.1, h.2.2, decide_eq_true (show l ≠ [] from fun e => by subst e; simp at hn), apart_same]; rfl
  · refine ev_eqv (Ev.now _) ?_
    symm
    rw [← Bool.not_eq_true]
    intro hg
    unfold gmOk at hg
    rw [Bool.and_eq_true, Bool.and_eq_true, Bool.and_eq_true] at hg
    obtain ⟨hm, h0, hs, ha⟩ := hg
    have := few_sets (SetsOk.of hm hs hb) ha
    have h0' : l.length ≠ 0 := fun e => (of_decide_eq_true h0) (List.length_eq_zero_iff.1 e)
    rw [hm, hs, show inB (l.length : Int) 1 126 = true from inB_iff.2 (by omega)] at h
    cases h
theorem chNeeds_ev (m : Int) (l : List (List Int)) (hl : l.length ≤ 1048576) (hb : ∀ x ∈ l, x.length ≤ 1048576) : Ev (fun k => spec_chNeeds.f k m l) (gmOk m l && decide (m ≤ 4)) ∧ Ev (fun k => impl_isNeededGame.f k m l) (gmOk m l && decide (m ≤ 4)) := by
  constructor
  · unfold spec_chNeeds.f
    exact Ev.bind (gmGood_ev m l hl hb) (ev_bool (fun h => by rw [h, Bool.true_and]; exact Ev.now _) (fun h => by rw [h, Bool.false_and]; exact Ev.now _))
  · unfold impl_isNeededGame.f
    exact Ev.bind (IsGame_ev m l hl hb) (ev_bool (fun h => by rw [h, Bool.true_and]; exact Ev.now _) (fun h => by rw [h, Bool.false_and]; exact Ev.now _))
theorem chOk {m : Int} {l : List (List Int)} (hb : ∀ x ∈ l, x.length ≤ 1048576) (h : (gmOk m l && decide (m ≤ 4)) = true) : ∃ n : Nat, m = (n : Int) ∧ (1 ≤ n ∧ n < 5) ∧ SetsOk (n : Int) l ∧ l ≠ [] ∧ ∀ s ∈ l, s ≠ [] := by
  rw [Bool.and_eq_true, decide_eq_true_eq] at h
  obtain ⟨hok, h5⟩ := h
  unfold gmOk at hok
  simp only [Bool.and_eq_true, decide_eq_true_eq] at hok
  obtain ⟨hm, hne, hall, _⟩ := hok
  have hs := SetsOk.of hm hall hb
  obtain ⟨n, rfl⟩ := Int.eq_ofNat_of_zero_le (show 0 ≤ m by have := hs.1; omega)
  exact ⟨n, rfl, by have := hs.1; omega, hs, hne, fun s hs => of_decide_eq_true ((Bool.and_eq_true ..).mp (List.all_eq_true.1 hall s hs)).1⟩
theorem szIntS_eq (l : List Int) (n : Nat) (hn : n ≤ 1048576) (hl : l.length ≤ 9223372036854775807) : ∃ q, laws_szIntS.f l (n : Int) = some q ∧ (¬ q < 0 → ∃ m : Nat, q = m ∧ m ≤ n ∧ l.length ≤ n) := by
  unfold laws_szIntS.f
  rw [wrap64_id (by omega)]
  by_cases h : (n : Int) - (l.length : Int) < 0
  · exact ⟨-1, by rw [if_pos h], fun h => absurd (by decide) h⟩
  · exact ⟨_, by rw [if_neg h], fun _ => ⟨n - l.length, by omega, by omega, by omega⟩⟩
theorem szIntSS_ev (l : List (List Int)) (n : Nat) (hn : n ≤ 1048576) (hl : l.length ≤ 9223372036854775807) (hx : ∀ x ∈ l, x.length ≤ 9223372036854775807) :
    ∃ q, Ev (fun k => laws_szIntSS.f k l (n : Int)) q ∧ (¬ q < 0 → ∃ m : Nat, q = m ∧ m ≤ n ∧ l.length ≤ n ∧ ∀ x ∈ l, x.length ≤ n) := by
  unfold laws_szIntSS.f
  rw [wrap64_id (by omega)]
  by_cases h : (n : Int) - (l.length : Int) < 0
  · exact ⟨-1, ev_pos h (Ev.now _), fun h => absurd (by decide) h⟩
  have key : ∀ (d i m : Nat), i + d = l.length → m ≤ n → ∃ q, Ev (fun k => laws_szIntSS.l0 k l (m : Int) (i : Int)) q ∧ (¬ q < 0 → ∃ m' : Nat, q = m' ∧ m' ≤ m ∧ ∀ x ∈ l.drop i, x.length ≤ n) := by
    intro d
    induction d with
    | zero =>
      intro i m hi hm
      refine ⟨m, ev_succ ?_, fun _ => ⟨m, rfl, Nat.le_refl _, fun x hx => ?_⟩⟩
      · simp only [laws_szIntSS.l0]; exact ev_neg (by omega) (Ev.now _)
      · rw [List.drop_of_length_le (by omega)] at hx; cases hx
    | succ d ih =>
      intro i m hi hm
      have h1 : i < l.length := by omega
      obtain ⟨q, hq, hq2⟩ := szIntS_eq l[i] m (by omega) (hx _ (List.getElem_mem h1))
      by_cases c : q < 0
      · refine ⟨-1, ev_succ ?_, fun h => absurd (by decide) h⟩
        simp only [laws_szIntSS.l0, rdL1_get h1, hq, Option.bind_some]
        exact ev_pos (by omega) (ev_pos (by omega) (ev_pos c (Ev.now _)))
      · obtain ⟨m', rfl, h2, h3⟩ := hq2 c
        obtain ⟨q2, e2, p2⟩ := ih (i + 1) m' (by omega) (by omega)
        refine ⟨q2, ev_succ ?_, fun hn2 => ?_⟩
        · simp only [laws_szIntSS.l0, rdL1_get h1, hq, Option.bind_some, wrap_succ (i := i) (n := 1048576) (by omega) (by decide)]
          exact ev_pos (by omega) (ev_pos (by omega) (ev_neg c e2))
        · obtain ⟨m'', r1, r2, r3⟩ := p2 hn2
          refine ⟨m'', r1, by omega, fun x hx => ?_⟩
          rw [List.drop_eq_getElem_cons h1] at hx
          rcases List.mem_cons.1 hx with rfl | hx
          · omega
          · exact r3 x hx
  obtain ⟨q, e, p⟩ := key l.length 0 (n - l.length) (by omega) (by omega)
  refine ⟨q, ev_neg h ?_, fun hq => ?_⟩
  · rw [show (n : Int) - (l.length : Int) = ((n - l.length : Nat) : Int) by omega]; exact e
  · obtain ⟨m, r1, r2, r3⟩ := p hq
    exact ⟨m, r1, by omega, by omega, by simpa using r3⟩
theorem szGame_ev (a : Int) (l : List (List Int)) (n : Nat) (hn : n ≤ 1048576) (hl : l.length ≤ 9223372036854775807) (hx : ∀ x ∈ l, x.length ≤ 9223372036854775807) :
    ∃ q, Ev (fun k => laws_szGame.f k a l (n : Int)) q ∧ (¬ q < 0 → ∃ m : Nat, q = m ∧ m ≤ n ∧ l.length ≤ n ∧ ∀ x ∈ l, x.length ≤ n) := by
  obtain ⟨q, e, p⟩ := szIntSS_ev l n hn hl hx
  unfold laws_szGame.f
  by_cases h : q < 0
  · exact ⟨-1, Ev.bind e (ev_pos h (Ev.now _)), fun h => absurd (by decide) h⟩
  · exact ⟨q, Ev.bind e (ev_neg h (Ev.now _)), p⟩
theorem toIntSS_ev (l : List (List Int)) (hl : l.length ≤ 1152921504606) (hx : ∀ x ∈ l, x.length ≤ 1152921504606) : Ev (fun k => laws_toIntSS.f k l) l := by
  unfold laws_toIntSS.f
  refine ev_pos (by omega) (ev_pos (by omega) ?_)
  rw [Int.toNat_natCast]
  have := ev_range l.length (fun k i => laws_toIntSS.l0 k l ((l.take i).map id ++ List.replicate (l.length - i) []) (i : Int)) (fun _ => l) ?_ ?_ 0 (Nat.zero_le _)
  · simpa using this
  · refine ev_succ ?_
    simp only [laws_toIntSS.l0]
    exact ev_neg (by omega) (ev_eqv (Ev.now _) (by simp))
  · intro i hi ih
    refine ev_succ ?_
    simp only [laws_toIntSS.l0]
    refine ev_pos (by omega) (ev_pos (by omega) ?_)
    rw [rdL1_get hi]
    refine Ev.bind (toIntS_ev l[i] (hx _ (List.getElem_mem hi))) (ev_pos (by rw [copy_len _ _ _ _ (by omega)]; omega) ?_)
    rw [wrap_succ hi (by omega), Int.toNat_natCast, show l[i] = id l[i] from rfl, set_copy id _ l i hi]
    exact ih
theorem toGame_ev (m : Int) (l : List (List Int)) (hl : l.length ≤ 1152921504606) (hx : ∀ x ∈ l, x.length ≤ 1152921504606) : Ev (fun k => laws_toGame.f k m l) (m, l) := by
  unfold laws_toGame.f
  exact Ev.bind (toIntSS_ev l hl hx) (Ev.now _)
theorem eqIntSS_ev (a b : List (List Int)) (ha : a.length ≤ 1152921504606) (hx : ∀ x ∈ a, x.length ≤ 1152921504606) : Ev (fun k => laws_eqIntSS.f k a b) (decide (a = b)) := by
  unfold laws_eqIntSS.f
  by_cases hl : a.length = b.length
  · refine ev_pos (by omega) ?_
    refine ev_range a.length (fun k i => laws_eqIntSS.l0 k a b (i : Int)) (fun i => decide (a.drop i = b.drop i)) ?_ ?_ 0 (Nat.zero_le _)
    · refine ev_succ ?_
      simp only [laws_eqIntSS.l0]
      refine ev_neg (by omega) (ev_eqv (Ev.now _) ?_)
      rw [List.drop_of_length_le (by omega), List.drop_of_length_le (by omega)]; simp
    · intro i hi ih
      have h2 : i < b.length := by omega
      refine ev_succ ?_
      simp only [laws_eqIntSS.l0]
      refine ev_pos (by omega) (ev_pos (by omega) (ev_pos (by omega) ?_))
      rw [rdL1_get hi, rdL1_get h2, wrap_succ hi (by omega), eq_drop a b i hi h2]
      refine Ev.bind (eqIntS_ev a[i] b[i] (Nat.le_trans (hx _ (List.getElem_mem hi)) (by decide))) (ev_bool (fun h => ?_) (fun h => ?_))
      · rw [h]; exact ih
      · rw [h]; exact Ev.now _
  · refine ev_neg (by omega) (ev_eqv (Ev.now false) ?_)
    exact (decide_eq_false fun e => hl (by rw [e])).symm
theorem eqGame_ev (m n : Int) (a b : List (List Int)) (ha : a.length ≤ 1152921504606) (hx : ∀ x ∈ a, x.length ≤ 1152921504606) : Ev (fun k => laws_eqGame.f k m a n b) (decide (m = n ∧ a = b)) := by
  unfold laws_eqGame.f
  by_cases hm : m = n
  · refine ev_pos hm (Ev.bind (eqIntSS_ev a b ha hx) (ev_bool (fun h => ev_eqv (Ev.now _) ?_) (fun h => ev_eqv (Ev.now _) ?_)))
    · exact (decide_eq_true ⟨hm, of_decide_eq_true h⟩).symm
    · exact (decide_eq_false fun e => of_decide_eq_false h e.2).symm
  · exact ev_neg hm (ev_eqv (Ev.now _) (decide_eq_false fun e => hm e.1).symm)
theorem ChambersNeeded_ev (m : Int) (l : List (List Int)) (hl : l.length ≤ 1048576) (hb : ∀ x ∈ l, x.length ≤ 1048576) : ∃ (c : Int) (b : Bool), Ev (fun k => spec_ChambersNeeded.f k m l) (c, b) ∧ Ev (fun k => impl_ChambersNeeded.f k m l) (c, b) := by
  obtain ⟨hS, hI⟩ := chNeeds_ev m l hl hb
  unfold spec_ChambersNeeded.f impl_ChambersNeeded.f
  cases hc : (gmOk m l && decide (m ≤ 4)) with
  | false =>
    rw [hc] at hS hI
    exact ⟨0, false, Ev.bind hS (ev_neg (by decide) (Ev.now _)), Ev.bind hI (ev_neg (by decide) (Ev.now _))⟩
  | true =>
    rw [hc] at hS hI
    obtain ⟨n, rfl, hn, hs, hne, hs0⟩ := chOk hb hc
    have hv : Ev (fun k => impl_Game_votes.f k (n : Int) l) ((n : Int), tabB (winB l) (2 ^ n)) := ev_eqv (Game_votes_ev (n : Int) l hl hs) (by rw [winT_nat])
    exact ⟨((chR n l).length : Int), true, Ev.bind hS (ev_pos rfl (Ev.bind (chNeeded_ev n hn l hl hs hne hs0) (ev_eqv (Ev.now _) (by rw [List.length_map])))), Ev.bind hI (ev_pos rfl (Ev.bind hv (Ev.bind (chambers_ev n hn l hs hne hs0) (ev_eqv (Ev.now _) (by rw [List.length_map])))))⟩
theorem FnExactChambersNeeded_pure (a0_0 : Int) (l0_1 : List (List Int)) (g0 : I64 a0_0 ∧ ∀ y ∈ l0_1, ∀ z ∈ y, I64 z) (h1 : l0_1.length ≤ 9223372036854775807) (h2 : ∀ x ∈ l0_1, x.length ≤ 9223372036854775807) : ∃ k, laws_FnExactChambersNeeded.f k a0_0 l0_1 = some true := by
  refine Ev.rounds ?_
  unfold laws_FnExactChambersNeeded.f
  obtain ⟨q, hq, hq2⟩ := szGame_ev a0_0 l0_1 1048576 (by decide) h1 h2
  refine Ev.bind hq ?_
  by_cases h : q < 0
  · exact ev_pos h (Ev.now _)
  refine ev_neg h ?_
  obtain ⟨_, _, _, n1, n2⟩ := hq2 h
  have n3 : ∀ x ∈ l0_1, x.length ≤ 1152921504606 := fun x hx => Nat.le_trans (n2 x hx) (by decide)
  have ht := toGame_ev a0_0 l0_1 (by omega) n3
  obtain ⟨c, b, hs, hi⟩ := ChambersNeeded_ev a0_0 l0_1 n1 n2
  have e2 : Ev (fun k => laws_eqGame.f k a0_0 l0_1 a0_0 l0_1) true := ev_eqv (eqGame_ev a0_0 a0_0 l0_1 l0_1 (by omega) n3) (by simp)
  exact Ev.bind ht (Ev.bind hs (Ev.bind ht (Ev.bind hi (ev_pos rfl (ev_neg (by simp) (Ev.bind ht (Ev.bind e2 (ev_pos rfl (Ev.now _)))))))))
end Go.Proofs.YtmbkmabpebjboaaGreat.Q
end
section
namespace Go.Proofs.YtmbkmabpebjboaaGreat.Q
open Go.RowKit Go.Proofs.YtmbkmabpebjboaaGreatW.PrintWords Go.Proofs.YtmbkmabpebjboaaGreatW.PrintLast Go.Proofs.YtmbkmabpebjboaaGreatW.PrintMore
set_option linter.unusedVariables false
set_option linter.unusedSimpArgs false
set_option maxRecDepth 100000
section
variable {H : Type} {enc : TypeId × Value → H} {W : World}
theorem opens_ints : Opens enc Tryz.prog W 65 (Kd.slice 3 (Kd.int .i64)) (fun x => ∀ y ∈ x, I64 y) := opens_slice Tryz.underlying65 (by kernel_rfl) (opens_int Tryz.underlying3)
theorem opens_Game : Opens enc Tryz.prog W 24 (Kd.pair (Kd.int .i64) (Kd.slice 65 (Kd.slice 3 (Kd.int .i64)))) (fun x => I64 x.1 ∧ ∀ y ∈ x.2, ∀ z ∈ y, I64 z) :=
  opens_pair Tryz.underlying24 (by kernel_rfl) rfl rfl (by kernel_rfl) (by kernel_rfl) (opens_int Tryz.underlying3) (opens_slice Tryz.underlying22 (by kernel_rfl) opens_ints)
end
open Go.ChangeShapes Go.WideShapes Go.ChangeAt Go.Deep
section
variable {H : Type} {enc : TypeId × Value → H} {W : World} {r : Reach} {b0 : Nat} {v : Value} {y : DataW H} {p : List MemPlace}
theorem arg_Game (hv : Value.okWide Tryz.prog W r b0 24 v) (hr : DataW.Trod enc Tryz.prog W 0 (fun _ => true) true 24 v y p) :
    ∃ a A c l, v = .agg #[.int .i64 a, .slice A (l : List (List Int)).length c] ∧ l.length ≤ c ∧ Kd.C (Kd.slice 3 (Kd.int .i64)) W A l.length l ∧ I64 a ∧ ∀ y ∈ l, ∀ z ∈ y, I64 z := by
  obtain ⟨x, ⟨l⟩, rfl, k, g⟩ := open_struct Tryz.underlying24 hv hr opens_Game
  obtain ⟨_, _, rfl, rfl, ⟨A, c, rfl, hl, hC⟩⟩ := k
  exact ⟨_, A, c, _, rfl, hl, hC, g⟩
theorem C_inner {w : World} {A : Option Addr} {n : Nat} {xs : List (List Int)} (h : Kd.C (Kd.slice 3 (Kd.int .i64)) w A n xs) : ∀ x ∈ xs, x.length ≤ 9223372036854775807 := fun x hx => by
  obtain ⟨j, hj, rfl⟩ := List.mem_iff_getElem.1 hx
  obtain ⟨ad, _, hc⟩ := h.2.2 (by have := h.1; omega)
  obtain ⟨c, _, ⟨_, _, _, _, hC⟩, _⟩ := hc j _ (List.getElem?_eq_getElem hj)
  exact hC.2.1
end
end Go.Proofs.YtmbkmabpebjboaaGreat.Q
end
section
namespace Go.Proofs.YtmbkmabpebjboaaGreat.fnExactChambersNeeded
open Go.ChangeShapes Go.WideShapes Go.ChangeAt Go.RowKit Go.Proofs.YtmbkmabpebjboaaGreat.Q
open Go.ChangeMaps (open_string shut_string)
set_option linter.unusedVariables false
theorem own : ownKnob Tryz.prog.godebug = none := by kernel_rfl
theorem laidOut : laidOutB Tryz.prog = true := by kernel_rfl
set_option maxRecDepth 100000 in
theorem lifted (os : Os) (started : os.Started) (H : Type) (enc : TypeId × Value → H) :
    ReturnsInHanded {} Tryz.checked os 3 .any (Rows.fnExactChambersNeededSpec.pre6 enc Tryz.prog Tryz.f3 Rows.fnExactChambersNeededRow.domain false) (Rows.fnExactChambersNeededSpec.post enc Tryz.prog Tryz.f3 false true false false) := by
  refine returnsInHanded_of_change_sized (C := Tryz.checked) own started (by kernel_rfl) Tryz.func3
    (ChangeSpec.witness6 (enc := enc) (C := Tryz.checked) false ⟨#[], #[.agg #[.int .i64 0, .slice none 0 0]], []⟩ 8 (by kernel_rfl) (by kernel_rfl) (by kernel_rfl) (by kernel_rfl)) ?_
  intro W base args ds gs before hval0 hW hcnd hsz0 _
  have hsz : (DataW.weightsEach Tryz.prog (Tryz.f3.params.toList ++ Rows.fnExactChambersNeededSpec.plain.varTypes Tryz.prog) (ds ++ gs)).all (· ≤ reachBytes) = true := hsz0
  have hval : ∀ (j : Nat) t v, Tryz.f3.params[j]? = some t → args[j]? = some v → Value.okWide Tryz.prog W .any base t v := hval0
  have hW' := hW
  obtain ⟨p, q, hA0, hV, rfl, hfz, hnd⟩ := hW
  have hA : DataW.TrodAll enc Tryz.prog W 0 (fun _ => true) true Tryz.f3.params.toList args.toList ds p := hA0
  rw [Tryz.params3] at hA hval hsz
  obtain ⟨v0, vs0, d0, ds0, p0, q0, hargs, rfl, rfl, h0, r0⟩ := trodAll_cons hA
  obtain ⟨rfl, rfl, rfl⟩ := trodAll_nil r0
  obtain rfl : args = #[v0] := by cases args; simp_all
  obtain ⟨rfl, rfl⟩ := trodVars_none hV
  have k0 := h0
  have lt0 : ∀ x ∈ p0, x.block < W.heap.size := by obtain ⟨m, hm⟩ := k0; exact DataW.trod_lt m _ _ _ hm
  obtain ⟨a0_0, A0_1, c0_1, l0_1, rfl, hc0_1, hr0_1, g0⟩ := arg_Game (hval 0 24 v0 rfl rfl) h0
  clear hA0 hval0 hsz0 hsz
  obtain ⟨k, hk⟩ := FnExactChambersNeeded_pure a0_0 l0_1 g0 hr0_1.2.1 (C_inner hr0_1)
  refine (laws_FnExactChambersNeeded.calls k a0_0 A0_1 c0_1 l0_1 true W hr0_1 hc0_1 hk).mono fun e W' ⟨he, bel⟩ => ?_
  subst he
  exact ⟨_, rfl, _, _, _, [], _, [], hW', trodAll_mk1 (shut_bool Tryz.underlying4 _), (trodAll_cons_mk (Below.trod laidOut (by kernel_rfl) (of_decide_eq_true (by kernel_rfl)) k0 bel lt0) trodAll_mk0), rfl, bel.frame _, fun h => by cases h⟩
theorem over : Rows.fnExactChambersNeededRow.holds Tryz.pinned (OpenSpec.ofChange Rows.fnExactChambersNeededSpec) :=
  OpenClaim.holds_of_wide 3 Tryz.f3 rfl rfl rfl rfl rfl rfl rfl ⟨rfl, rfl, rfl, rfl, rfl⟩ rfl rfl rfl rfl rfl (by kernel_rfl) Tryz.func3 (by kernel_rfl)
    (of_decide_eq_true (by kernel_rfl)) (by unfold Func.isWrapper; first | (rw [if_pos (by decide +kernel)]; kernel_rfl) | (rw [if_neg (by decide +kernel)]; exact ⟨rfl, rfl⟩))
    (fun os started H enc _ => lifted os started H enc)
theorem proved : Rows.FnExactChambersNeededSaid := over
end Go.Proofs.YtmbkmabpebjboaaGreat.fnExactChambersNeeded
namespace Go.Proofs.YtmbkmabpebjboaaGreat
theorem fnExactChambersNeeded_holds : Rows.FnExactChambersNeededSaid := fnExactChambersNeeded.proved
end Go.Proofs.YtmbkmabpebjboaaGreat
end
#print axioms Go.Proofs.YtmbkmabpebjboaaGreat.fnExactChambersNeeded_holds

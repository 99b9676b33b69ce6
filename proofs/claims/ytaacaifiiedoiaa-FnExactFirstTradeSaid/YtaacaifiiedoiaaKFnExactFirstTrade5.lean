/- The row of the law FnExactFirstTrade: for every input it returns true, and its arguments read afterwards as before. No condition: FnExactFirstTrade_pure says that its pure form answers true at every input, and laws_FnExactFirstTrade.calls that the machine comes to just that. -/
import Derived.Test.YtaacaifiiedoiaaKFnExactFirstTrade4
import Derived.Test.YtaacaifiiedoiaaRows
import Derived.Laws.StructEq
import Derived.ProofKit
import Derived.OpenShut
import Derived.ShutString
import Derived.ChangeOld
import Derived.SizedLaws
import Derived.Deep.Slices
import Derived.Deep.Strs
section
namespace Go.Proofs.Ytaacaifiiedoiaa.Q
open Go.RowKit Go.Proofs.YtaacaifiiedoiaaW.PrintWords Go.Proofs.YtaacaifiiedoiaaW.PrintLast Go.Proofs.YtaacaifiiedoiaaW.PrintMore
attribute [local go_sem] max2_int min2_int max_two min_two max_three min_three max_four min_four
set_option linter.unusedVariables false
set_option linter.unusedSimpArgs false
def impl_votes_firstTrade.f (k : Nat) (a0_0 : Int) (l0_1 : List Bool) : Option ((List (List Int)) × (List (List Int)) × Bool) := (firstOfAny.f k a0_0 l0_1).bind fun bt802 => (some (bt802.1, bt802.2.1, bt802.2.2))
set_option maxHeartbeats 8000000 in
set_option maxRecDepth 100000 in
theorem impl_votes_firstTrade.calls (k : Nat) (a0_0 : Int) (A0_1 : Option Addr) (c0_1 : Nat) (l0_1 : List Bool) (r1 : List (List Int)) (r2 : List (List Int)) (r3 : Bool) (w : World) (hr0_1 : Kd.C Kd.bool w A0_1 l0_1.length l0_1) (hc0_1 : l0_1.length ≤ c0_1) (h : impl_votes_firstTrade.f k a0_0 l0_1 = some (r1, r2, r3)) :
  Calls Try.prog 63 #[.agg #[.int .i64 a0_0, .slice A0_1 l0_1.length c0_1]] w fun e w' => ∃ v0_ v1_ : Value, e = .returned (.tuple #[.agg #[v0_, v1_], .bool r3]) ∧ ∃ ow_ : Nat → Bool, Kd.S (Kd.slice 3 (Kd.int .i64)) 71 w' w.heap.size (fun k_ => ow_ k_ = true) v0_ r1 ∧ Kd.S (Kd.slice 3 (Kd.int .i64)) 71 w' w.heap.size (fun k_ => ow_ k_ = false) v1_ r2 ∧ Below w.heap.size w w' := by
 have hu62 := Try.underlying62
 have hu46 := Try.underlying46
 have HR0_1 := Aside0.mk hr0_1
 have HC0_1 := Aside0.mk hc0_1
 clear hr0_1 hc0_1
 have HB := Aside0.mk (Below.refl w.heap.size w)
 have H : ((firstOfAny.f k a0_0 l0_1).bind fun bt802 => (some (bt802.1, bt802.2.1, bt802.2.2))) = some (r1, r2, r3) := h
 clear h
 replace H := Option.bind_eq_some_iff.mp H
 obtain ⟨⟨t802, t805, t808⟩, A20, H⟩ := H
 replace H : (some (t802, t805, t808)) = some (r1, r2, r3) := H
 have A2 := Aside0.mk A20
 clear A20
 simp only [Option.some.injEq, Prod.mk.injEq] at H
 obtain ⟨rfl, rfl, rfl⟩ := H
 go_enter Try.func63, Try.ntmps63
 go_wp2_with (first | ((with_reducible refine gate_dst (N := 1) rfl ?_); refine box_event ?hg (N := 1) ?hd (cs := #[.int .i64 a0_0, .slice A0_1 l0_1.length c0_1]) (t := 62) ?hr ?_; (case hd => rfl); (case hg => rfl); (case hr => first | (go_simp; done) | (go_simp; rfl)); intro gb800 hg w3 hbox hb; have n2_ := Aside0.mk ((by rw [hg]; exact (below_size (zh HB.out)) : w.heap.size ≤ gb800)); replace HB := Aside0.mk (below_step (zh HB.out) hb); have BK800 := Aside0.mk hbox; have GW800 := n2_; have GE800 := n2_; clear n2_ hb hbox hg) | ((with_reducible refine gate_dst (N := 2) rfl ?_); refine box_event ?hg (N := 2) ?hd (cs := #[.slice none 0 0, .slice none 0 0]) (t := 46) ?hr ?_; (case hd => rfl); (case hg => rfl); (case hr => first | (go_simp; done) | (go_simp; rfl)); intro gb801 hg w4 hbox hb; have n0_ := Aside0.mk (blk_below (g := gb800) (o := .cells #[.int .i64 a0_0, .slice A0_1 l0_1.length c0_1] 62 (0, 0)) (zb BK800.out) hb); have n1_ := Aside0.mk (below_step (zh HB.out) hb); have n2_ := Aside0.mk (hbox); have n3_ := Aside0.mk ((by rw [hg]; exact (below_size (zh HB.out)) : w.heap.size ≤ gb801)); have n4_ := Aside0.mk ((by rw [hg]; exact (below_size (zh HB.out)) : w.heap.size ≤ gb801)); have n5_ := Aside0.mk ((by rw [hg]; exact Nat.ne_of_lt (blk_lt (g := gb800) (o := .cells #[.int .i64 a0_0, .slice A0_1 l0_1.length c0_1] 62 (0, 0)) (zb BK800.out)) : gb800 ≠ gb801)); have n6_ := Aside0.mk ((by rw [hg]; exact Nat.ne_of_gt (blk_lt (g := gb800) (o := .cells #[.int .i64 a0_0, .slice A0_1 l0_1.length c0_1] 62 (0, 0)) (zb BK800.out)) : gb801 ≠ gb800)); clear BK800; clear HB; have BK800 := n0_; have HB := n1_; have BK801 := n2_; have GW801 := n3_; have GE801 := n4_; have NB800_801 := n5_; have NB801_800 := n6_; clear n0_ n1_ n2_ n3_ n4_ n5_ n6_; clear hb hbox hg; have hnb5 := NB800_801.out; have hnc5 := NB801_800.out; have hcz6_0 : w4.cell? ⟨gb800, 0, none⟩ = some (.int .i64 a0_0) := (blk_cell BK800.out 0).trans rfl; have hcz6_1 : w4.cell? ⟨gb800, 1, none⟩ = some (.slice A0_1 l0_1.length c0_1) := (blk_cell BK800.out 1).trans rfl; have hfz6_0 := blk_frozen BK800.out 0; have hfz6_1 := blk_frozen BK800.out 1) | ((with_reducible refine gate_callee (f := 64) rfl ?_); refine goesL_ (some 5) rfl rfl Try.func64 (by kernel_rfl) rfl #[.agg #[.int .i64 a0_0, .slice A0_1 l0_1.length c0_1], .func (.func 95) #[] #[]] rfl (by (try simp only [List.map_toArray, List.map_cons, List.map_nil]); first | done | rfl | (simp only [List.length_drop, List.length_take]; rfl)) ?_; (with_reducible refine (firstOfAny.calls k a0_0 _ _ l0_1 t802 t805 t808 _ ?side1 ?side2 A2.out).mono ?_); (case side1 => repeat (first | exact (Kd.C_below HR0_1.out HB.out) | (with_reducible refine Kd.C_alloc ?_ _) | (with_reducible refine Kd.C_drewN ?_ _) | (with_reducible refine Kd.C_drew ?_))); (case side2 => exact HC0_1.out); rintro e w7 ⟨v803, v806, rfl, ow_, ho0, ho1, hb⟩; refine ⟨_, rfl, ?_⟩; have n0_ := Aside0.mk (Kd.S_lower ho0 (below_size (zh HB.out))); have n1_ := Aside0.mk (Kd.S_lower ho1 (below_size (zh HB.out))); have n2_ := Aside0.mk (blk_below (g := gb800) (o := .cells #[.int .i64 a0_0, .slice A0_1 l0_1.length c0_1] 62 (0, 0)) (zb BK800.out) hb); have n3_ := Aside0.mk (blk_below (g := gb801) (o := .cells #[.slice none 0 0, .slice none 0 0] 46 (0, 0)) (zb BK801.out) hb); have n4_ := Aside0.mk (below_step (zh HB.out) hb); clear BK800; clear BK801; clear HB; have HO804 := n0_; have HO807 := n1_; have BK800 := n2_; have BK801 := n3_; have HB := n4_; clear n0_ n1_ n2_ n3_ n4_; (try clear hb); (try clear hb2); (try clear hk); (try clear hi); (try clear ho0); (try clear ho1); obtain ⟨Ao8, co8, eo8⟩ := Kd.S_slice HO804.out; subst eo8; have hcz9_0 : w7.cell? ⟨gb801, 0, none⟩ = some (.slice none 0 0) := (blk_cell BK801.out 0).trans rfl; have hcz9_1 : w7.cell? ⟨gb801, 1, none⟩ = some (.slice none 0 0) := (blk_cell BK801.out 1).trans rfl; have hfz9_0 := blk_frozen BK801.out 0; have hfz9_1 := blk_frozen BK801.out 1; obtain ⟨Ao10, co10, eo10⟩ := Kd.S_slice HO807.out; subst eo10))
 refine bodyPost_ret (results_ct rfl _ _ gb801 46 #[.slice Ao8 t802.length co8, .slice Ao10 t805.length co10] (0, 0) _ rfl (by (with_reducible repeat (first | refine blk_drewN ?_ _ | refine blk_drew ?_ | refine blk_alloc ?_ _)); refine blk_put (cs := #[.slice Ao8 t802.length co8, .slice none 0 0]) ?_ 1 _ rfl; (with_reducible repeat (first | refine blk_drewN ?_ _ | refine blk_drew ?_ | refine blk_alloc ?_ _)); refine blk_put (cs := #[.slice none 0 0, .slice none 0 0]) ?_ 0 _ rfl; (with_reducible repeat (first | refine blk_drewN ?_ _ | refine blk_drew ?_ | refine blk_alloc ?_ _)); exact BK801.out) Try.underlying46 rfl (by kernel_rfl)) rfl ?_
 exact ⟨_, _, by first | rfl | (simp [*, errW_none, errW_some] <;> rfl), ow_, by (with_reducible repeat (first | apply Kd.S_alloc | apply Kd.S_drewN | apply Kd.S_drew)); exact Kd.S_mono (Kd.S_far (p := ⟨gb801, 1, none⟩) (Kd.S_far (p := ⟨gb801, 0, none⟩) (Kd.S_types HO804.out BK801.out (by decide)) (fun _ hk => hk.2) (.slice Ao8 t802.length co8)) (fun _ hk => hk.2) (.slice Ao10 t805.length co10)) (fun _ hk => hk.1), by (with_reducible repeat (first | apply Kd.S_alloc | apply Kd.S_drewN | apply Kd.S_drew)); exact Kd.S_mono (Kd.S_far (p := ⟨gb801, 1, none⟩) (Kd.S_far (p := ⟨gb801, 0, none⟩) (Kd.S_types HO807.out BK801.out (by decide)) (fun _ hk => hk.2) (.slice Ao8 t802.length co8)) (fun _ hk => hk.2) (.slice Ao10 t805.length co10)) (fun _ hk => hk.1), zh HB.out⟩
def impl_FirstTrade.f (k : Nat) (a0_0 : Int) (l0_1 : List (List Int)) : Option ((List (List Int)) × (List (List Int)) × Bool) := (impl_isTradedGame.f k a0_0 l0_1).bind fun t811 => (if t811 = true then ((impl_Game_votes.f k a0_0 l0_1).bind fun bt812 => ((impl_votes_firstTrade.f k bt812.1 bt812.2).bind fun bt816 => (some (bt816.1, bt816.2.1, bt816.2.2)))) else (some (([] : List (List Int)), ([] : List (List Int)), false)))
set_option maxHeartbeats 8000000 in
set_option maxRecDepth 100000 in
theorem impl_FirstTrade.calls (k : Nat) (a0_0 : Int) (A0_1 : Option Addr) (c0_1 : Nat) (l0_1 : List (List Int)) (r1 : List (List Int)) (r2 : List (List Int)) (r3 : Bool) (w : World) (hr0_1 : Kd.C (Kd.slice 3 (Kd.int .i64)) w A0_1 l0_1.length l0_1) (hc0_1 : l0_1.length ≤ c0_1) (h : impl_FirstTrade.f k a0_0 l0_1 = some (r1, r2, r3)) :
  Calls Try.prog 28 #[.agg #[.int .i64 a0_0, .slice A0_1 l0_1.length c0_1]] w fun e w' => ∃ v0_ v1_ : Value, e = .returned (.tuple #[.agg #[v0_, v1_], .bool r3]) ∧ ∃ ow_ : Nat → Bool, Kd.S (Kd.slice 3 (Kd.int .i64)) 71 w' w.heap.size (fun k_ => ow_ k_ = true) v0_ r1 ∧ Kd.S (Kd.slice 3 (Kd.int .i64)) 71 w' w.heap.size (fun k_ => ow_ k_ = false) v1_ r2 ∧ Below w.heap.size w w' := by
 have hu31 := Try.underlying31
 have hu46 := Try.underlying46
 have HR0_1 := Aside0.mk hr0_1
 have HC0_1 := Aside0.mk hc0_1
 clear hr0_1 hc0_1
 have HB := Aside0.mk (Below.refl w.heap.size w)
 have H : ((impl_isTradedGame.f k a0_0 l0_1).bind fun t811 => (if t811 = true then ((impl_Game_votes.f k a0_0 l0_1).bind fun bt812 => ((impl_votes_firstTrade.f k bt812.1 bt812.2).bind fun bt816 => (some (bt816.1, bt816.2.1, bt816.2.2)))) else (some (([] : List (List Int)), ([] : List (List Int)), false)))) = some (r1, r2, r3) := h
 clear h
 replace H := Option.bind_eq_some_iff.mp H
 obtain ⟨t811, A20, H⟩ := H
 replace H : (if t811 = true then ((impl_Game_votes.f k a0_0 l0_1).bind fun bt812 => ((impl_votes_firstTrade.f k bt812.1 bt812.2).bind fun bt816 => (some (bt816.1, bt816.2.1, bt816.2.2)))) else (some (([] : List (List Int)), ([] : List (List Int)), false))) = some (r1, r2, r3) := H
 have A2 := Aside0.mk A20
 clear A20
 by_cases c3 : t811 = true
 rotate_left
 ·replace c3 := Bool.eq_false_iff.mpr c3
  subst c3
  have H1 : (some (([] : List (List Int)), ([] : List (List Int)), false)) = some (r1, r2, r3) := by rw [if_neg (show ¬ (false = true) by decide)] at H; exact H
  clear H
  have H := H1
  clear H1
  simp only [Option.some.injEq, Prod.mk.injEq] at H
  obtain ⟨rfl, rfl, rfl⟩ := H
  go_enter Try.func28, Try.ntmps28
  go_wp2_with (first | ((with_reducible refine gate_dst (N := 1) rfl ?_); refine box_event ?hg (N := 1) ?hd (cs := #[.int .i64 a0_0, .slice A0_1 l0_1.length c0_1]) (t := 31) ?hr ?_; (case hd => rfl); (case hg => rfl); (case hr => first | (go_simp; done) | (go_simp; rfl)); intro gb809 hg w18 hbox hb; have n2_ := Aside0.mk ((by rw [hg]; exact (below_size (zh HB.out)) : w.heap.size ≤ gb809)); replace HB := Aside0.mk (below_step (zh HB.out) hb); have BK809 := Aside0.mk hbox; have GW809 := n2_; have GE809 := n2_; clear n2_ hb hbox hg) | ((with_reducible refine gate_dst (N := 2) rfl ?_); refine box_event ?hg (N := 2) ?hd (cs := #[.slice none 0 0, .slice none 0 0]) (t := 46) ?hr ?_; (case hd => rfl); (case hg => rfl); (case hr => first | (go_simp; done) | (go_simp; rfl)); intro gb810 hg w19 hbox hb; have n0_ := Aside0.mk (blk_below (g := gb809) (o := .cells #[.int .i64 a0_0, .slice A0_1 l0_1.length c0_1] 31 (0, 0)) (zb BK809.out) hb); have n1_ := Aside0.mk (below_step (zh HB.out) hb); have n2_ := Aside0.mk (hbox); have n3_ := Aside0.mk ((by rw [hg]; exact (below_size (zh HB.out)) : w.heap.size ≤ gb810)); have n4_ := Aside0.mk ((by rw [hg]; exact (below_size (zh HB.out)) : w.heap.size ≤ gb810)); have n5_ := Aside0.mk ((by rw [hg]; exact Nat.ne_of_lt (blk_lt (g := gb809) (o := .cells #[.int .i64 a0_0, .slice A0_1 l0_1.length c0_1] 31 (0, 0)) (zb BK809.out)) : gb809 ≠ gb810)); have n6_ := Aside0.mk ((by rw [hg]; exact Nat.ne_of_gt (blk_lt (g := gb809) (o := .cells #[.int .i64 a0_0, .slice A0_1 l0_1.length c0_1] 31 (0, 0)) (zb BK809.out)) : gb810 ≠ gb809)); clear BK809; clear HB; have BK809 := n0_; have HB := n1_; have BK810 := n2_; have GW810 := n3_; have GE810 := n4_; have NB809_810 := n5_; have NB810_809 := n6_; clear n0_ n1_ n2_ n3_ n4_ n5_ n6_; clear hb hbox hg; have hnb20 := NB809_810.out; have hnc20 := NB810_809.out; have hcz21_0 : w19.cell? ⟨gb809, 0, none⟩ = some (.int .i64 a0_0) := (blk_cell BK809.out 0).trans rfl; have hcz21_1 : w19.cell? ⟨gb809, 1, none⟩ = some (.slice A0_1 l0_1.length c0_1) := (blk_cell BK809.out 1).trans rfl; have hfz21_0 := blk_frozen BK809.out 0; have hfz21_1 := blk_frozen BK809.out 1) | ((with_reducible refine gate_callee (f := 61) rfl ?_); refine goesL_ (some 5) rfl rfl Try.func61 (by kernel_rfl) rfl #[.agg #[.int .i64 a0_0, .slice A0_1 l0_1.length c0_1]] rfl (by (try simp only [List.map_toArray, List.map_cons, List.map_nil]); first | done | rfl | (simp only [List.length_drop, List.length_take]; rfl)) ?_; (with_reducible refine (impl_isTradedGame.calls k a0_0 _ _ l0_1 false _ ?side1 ?side2 A2.out).mono ?_); (case side1 => repeat (first | exact (Kd.C_below HR0_1.out HB.out) | (with_reducible refine Kd.C_alloc ?_ _) | (with_reducible refine Kd.C_drewN ?_ _) | (with_reducible refine Kd.C_drew ?_))); (case side2 => exact HC0_1.out); rintro e w22 ⟨rfl, hb⟩; refine ⟨_, rfl, ?_⟩; have n0_ := Aside0.mk (blk_below (g := gb809) (o := .cells #[.int .i64 a0_0, .slice A0_1 l0_1.length c0_1] 31 (0, 0)) (zb BK809.out) hb); have n1_ := Aside0.mk (blk_below (g := gb810) (o := .cells #[.slice none 0 0, .slice none 0 0] 46 (0, 0)) (zb BK810.out) hb); have n2_ := Aside0.mk (below_step (zh HB.out) hb); clear BK809; clear BK810; clear HB; have BK809 := n0_; have BK810 := n1_; have HB := n2_; clear n0_ n1_ n2_; (try clear hb); (try clear hb2); (try clear hk); (try clear hi); have hcz23_0 : w22.cell? ⟨gb810, 0, none⟩ = some (.slice none 0 0) := (blk_cell BK810.out 0).trans rfl; have hcz23_1 : w22.cell? ⟨gb810, 1, none⟩ = some (.slice none 0 0) := (blk_cell BK810.out 1).trans rfl; have hfz23_0 := blk_frozen BK810.out 0; have hfz23_1 := blk_frozen BK810.out 1))
  refine bodyPost_ret (results_ct rfl _ _ gb810 46 #[.slice none 0 0, .slice none 0 0] (0, 0) _ rfl (by (with_reducible repeat (first | refine blk_drewN ?_ _ | refine blk_drew ?_ | refine blk_alloc ?_ _)); refine blk_put (cs := #[.slice none 0 0, .slice none 0 0]) ?_ 1 _ rfl; (with_reducible repeat (first | refine blk_drewN ?_ _ | refine blk_drew ?_ | refine blk_alloc ?_ _)); refine blk_put (cs := #[.slice none 0 0, .slice none 0 0]) ?_ 0 _ rfl; (with_reducible repeat (first | refine blk_drewN ?_ _ | refine blk_drew ?_ | refine blk_alloc ?_ _)); exact BK810.out) Try.underlying46 rfl (by kernel_rfl)) rfl ?_
  exact ⟨_, _, by first | rfl | (simp [*, errW_none, errW_some] <;> rfl), fun _ => true, by first | exact Kd.S_nil _ _ _ _ _ | exact Kd.N_nil _ _ _ _ _ | exact Kd.V_nil _ _ _ _ _ | exact Kd.Q_nil _ _ _ _ _ | exact Kd.R_nil _ _ _ _ _, by first | exact Kd.S_nil _ _ _ _ _ | exact Kd.N_nil _ _ _ _ _ | exact Kd.V_nil _ _ _ _ _ | exact Kd.Q_nil _ _ _ _ _ | exact Kd.R_nil _ _ _ _ _, zh HB.out⟩
 subst c3
 have H1 : ((impl_Game_votes.f k a0_0 l0_1).bind fun bt812 => ((impl_votes_firstTrade.f k bt812.1 bt812.2).bind fun bt816 => (some (bt816.1, bt816.2.1, bt816.2.2)))) = some (r1, r2, r3) := by rw [if_pos rfl] at H; exact H
 clear H
 have H := H1
 clear H1
 replace H := Option.bind_eq_some_iff.mp H
 obtain ⟨⟨t812, t813⟩, A40, H⟩ := H
 replace H : ((impl_votes_firstTrade.f k t812 t813).bind fun bt816 => (some (bt816.1, bt816.2.1, bt816.2.2))) = some (r1, r2, r3) := H
 have A4 := Aside0.mk A40
 clear A40
 replace H := Option.bind_eq_some_iff.mp H
 obtain ⟨⟨t816, t819, t822⟩, A50, H⟩ := H
 replace H : (some (t816, t819, t822)) = some (r1, r2, r3) := H
 have A5 := Aside0.mk A50
 clear A50
 simp only [Option.some.injEq, Prod.mk.injEq] at H
 obtain ⟨rfl, rfl, rfl⟩ := H
 go_enter Try.func28, Try.ntmps28
 go_wp2_with (first | ((with_reducible refine gate_dst (N := 1) rfl ?_); refine box_event ?hg (N := 1) ?hd (cs := #[.int .i64 a0_0, .slice A0_1 l0_1.length c0_1]) (t := 31) ?hr ?_; (case hd => rfl); (case hg => rfl); (case hr => first | (go_simp; done) | (go_simp; rfl)); intro gb809 hg w6 hbox hb; have n2_ := Aside0.mk ((by rw [hg]; exact (below_size (zh HB.out)) : w.heap.size ≤ gb809)); replace HB := Aside0.mk (below_step (zh HB.out) hb); have BK809 := Aside0.mk hbox; have GW809 := n2_; have GE809 := n2_; clear n2_ hb hbox hg) | ((with_reducible refine gate_dst (N := 2) rfl ?_); refine box_event ?hg (N := 2) ?hd (cs := #[.slice none 0 0, .slice none 0 0]) (t := 46) ?hr ?_; (case hd => rfl); (case hg => rfl); (case hr => first | (go_simp; done) | (go_simp; rfl)); intro gb810 hg w7 hbox hb; have n0_ := Aside0.mk (blk_below (g := gb809) (o := .cells #[.int .i64 a0_0, .slice A0_1 l0_1.length c0_1] 31 (0, 0)) (zb BK809.out) hb); have n1_ := Aside0.mk (below_step (zh HB.out) hb); have n2_ := Aside0.mk (hbox); have n3_ := Aside0.mk ((by rw [hg]; exact (below_size (zh HB.out)) : w.heap.size ≤ gb810)); have n4_ := Aside0.mk ((by rw [hg]; exact (below_size (zh HB.out)) : w.heap.size ≤ gb810)); have n5_ := Aside0.mk ((by rw [hg]; exact Nat.ne_of_lt (blk_lt (g := gb809) (o := .cells #[.int .i64 a0_0, .slice A0_1 l0_1.length c0_1] 31 (0, 0)) (zb BK809.out)) : gb809 ≠ gb810)); have n6_ := Aside0.mk ((by rw [hg]; exact Nat.ne_of_gt (blk_lt (g := gb809) (o := .cells #[.int .i64 a0_0, .slice A0_1 l0_1.length c0_1] 31 (0, 0)) (zb BK809.out)) : gb810 ≠ gb809)); clear BK809; clear HB; have BK809 := n0_; have HB := n1_; have BK810 := n2_; have GW810 := n3_; have GE810 := n4_; have NB809_810 := n5_; have NB810_809 := n6_; clear n0_ n1_ n2_ n3_ n4_ n5_ n6_; clear hb hbox hg; have hnb8 := NB809_810.out; have hnc8 := NB810_809.out; have hcz9_0 : w7.cell? ⟨gb809, 0, none⟩ = some (.int .i64 a0_0) := (blk_cell BK809.out 0).trans rfl; have hcz9_1 : w7.cell? ⟨gb809, 1, none⟩ = some (.slice A0_1 l0_1.length c0_1) := (blk_cell BK809.out 1).trans rfl; have hfz9_0 := blk_frozen BK809.out 0; have hfz9_1 := blk_frozen BK809.out 1) | ((with_reducible refine gate_callee (f := 61) rfl ?_); refine goesL_ (some 5) rfl rfl Try.func61 (by kernel_rfl) rfl #[.agg #[.int .i64 a0_0, .slice A0_1 l0_1.length c0_1]] rfl (by (try simp only [List.map_toArray, List.map_cons, List.map_nil]); first | done | rfl | (simp only [List.length_drop, List.length_take]; rfl)) ?_; (with_reducible refine (impl_isTradedGame.calls k a0_0 _ _ l0_1 true _ ?side1 ?side2 A2.out).mono ?_); (case side1 => repeat (first | exact (Kd.C_below HR0_1.out HB.out) | (with_reducible refine Kd.C_alloc ?_ _) | (with_reducible refine Kd.C_drewN ?_ _) | (with_reducible refine Kd.C_drew ?_))); (case side2 => exact HC0_1.out); rintro e w10 ⟨rfl, hb⟩; refine ⟨_, rfl, ?_⟩; have n0_ := Aside0.mk (blk_below (g := gb809) (o := .cells #[.int .i64 a0_0, .slice A0_1 l0_1.length c0_1] 31 (0, 0)) (zb BK809.out) hb); have n1_ := Aside0.mk (blk_below (g := gb810) (o := .cells #[.slice none 0 0, .slice none 0 0] 46 (0, 0)) (zb BK810.out) hb); have n2_ := Aside0.mk (below_step (zh HB.out) hb); clear BK809; clear BK810; clear HB; have BK809 := n0_; have BK810 := n1_; have HB := n2_; clear n0_ n1_ n2_; (try clear hb); (try clear hb2); (try clear hk); (try clear hi); have hcz11_0 : w10.cell? ⟨gb809, 0, none⟩ = some (.int .i64 a0_0) := (blk_cell BK809.out 0).trans rfl; have hcz11_1 : w10.cell? ⟨gb809, 1, none⟩ = some (.slice A0_1 l0_1.length c0_1) := (blk_cell BK809.out 1).trans rfl; have hfz11_0 := blk_frozen BK809.out 0; have hfz11_1 := blk_frozen BK809.out 1) | ((with_reducible refine gate_callee (f := 45) rfl ?_); refine goesL_ (some 9) rfl rfl Try.func45 (by kernel_rfl) rfl #[.agg #[.int .i64 a0_0, .slice A0_1 l0_1.length c0_1]] rfl (by (try simp only [List.map_toArray, List.map_cons, List.map_nil]); first | done | rfl | (simp only [List.length_drop, List.length_take]; rfl)) ?_; (with_reducible refine (impl_Game_votes.calls k a0_0 _ _ l0_1 t812 t813 _ ?side1 ?side2 A4.out).mono ?_); (case side1 => repeat (first | exact (Kd.C_below HR0_1.out HB.out) | (with_reducible refine Kd.C_alloc ?_ _) | (with_reducible refine Kd.C_drewN ?_ _) | (with_reducible refine Kd.C_drew ?_))); (case side2 => exact HC0_1.out); rintro e w12 ⟨v814, rfl, ho0, hb⟩; refine ⟨_, rfl, ?_⟩; have n0_ := Aside0.mk (Kd.R_lower ho0 (below_size (zh HB.out))); have n1_ := Aside0.mk (blk_below (g := gb809) (o := .cells #[.int .i64 a0_0, .slice A0_1 l0_1.length c0_1] 31 (0, 0)) (zb BK809.out) hb); have n2_ := Aside0.mk (blk_below (g := gb810) (o := .cells #[.slice none 0 0, .slice none 0 0] 46 (0, 0)) (zb BK810.out) hb); have n3_ := Aside0.mk (below_step (zh HB.out) hb); clear BK809; clear BK810; clear HB; have HO815 := n0_; have BK809 := n1_; have BK810 := n2_; have HB := n3_; clear n0_ n1_ n2_ n3_; (try clear hb); (try clear hb2); (try clear hk); (try clear hi); (try clear ho0); obtain ⟨Ao13, co13, eo13⟩ := Kd.R_slice HO815.out; subst eo13) | ((with_reducible refine gate_callee (f := 63) rfl ?_); refine goesL_ (some 10) rfl rfl Try.func63 (by kernel_rfl) rfl #[.agg #[.int .i64 t812, .slice Ao13 t813.length co13]] rfl (by (try simp only [List.map_toArray, List.map_cons, List.map_nil]); first | done | rfl | (simp only [List.length_drop, List.length_take]; rfl)) ?_; (with_reducible refine (impl_votes_firstTrade.calls k t812 _ _ t813 t816 t819 t822 _ ?side1 ?side2 A5.out).mono ?_); (case side1 => repeat (first | exact (Kd.R_reads' HO815.out).2.2 | (with_reducible refine Kd.C_alloc ?_ _) | (with_reducible refine Kd.C_drewN ?_ _) | (with_reducible refine Kd.C_drew ?_))); (case side2 => exact (Kd.R_reads' HO815.out).2.1); rintro e w14 ⟨v817, v820, rfl, ow_, ho0, ho1, hb⟩; refine ⟨_, rfl, ?_⟩; have n0_ := Aside0.mk (Kd.R_below (zr HO815.out) hb); have n1_ := Aside0.mk (Kd.S_lower ho0 (below_size (zh HB.out))); have n2_ := Aside0.mk (Kd.S_lower ho1 (below_size (zh HB.out))); have n3_ := Aside0.mk (blk_below (g := gb809) (o := .cells #[.int .i64 a0_0, .slice A0_1 l0_1.length c0_1] 31 (0, 0)) (zb BK809.out) hb); have n4_ := Aside0.mk (blk_below (g := gb810) (o := .cells #[.slice none 0 0, .slice none 0 0] 46 (0, 0)) (zb BK810.out) hb); have n5_ := Aside0.mk (below_step (zh HB.out) hb); clear HO815; clear BK809; clear BK810; clear HB; have HO815 := n0_; have HO818 := n1_; have HO821 := n2_; have BK809 := n3_; have BK810 := n4_; have HB := n5_; clear n0_ n1_ n2_ n3_ n4_ n5_; (try clear hb); (try clear hb2); (try clear hk); (try clear hi); (try clear ho0); (try clear ho1); obtain ⟨Ao15, co15, eo15⟩ := Kd.S_slice HO818.out; subst eo15; have hcz16_0 : w14.cell? ⟨gb810, 0, none⟩ = some (.slice none 0 0) := (blk_cell BK810.out 0).trans rfl; have hcz16_1 : w14.cell? ⟨gb810, 1, none⟩ = some (.slice none 0 0) := (blk_cell BK810.out 1).trans rfl; have hfz16_0 := blk_frozen BK810.out 0; have hfz16_1 := blk_frozen BK810.out 1; obtain ⟨Ao17, co17, eo17⟩ := Kd.S_slice HO821.out; subst eo17))
 refine bodyPost_ret (results_ct rfl _ _ gb810 46 #[.slice Ao15 t816.length co15, .slice Ao17 t819.length co17] (0, 0) _ rfl (by (with_reducible repeat (first | refine blk_drewN ?_ _ | refine blk_drew ?_ | refine blk_alloc ?_ _)); refine blk_put (cs := #[.slice Ao15 t816.length co15, .slice none 0 0]) ?_ 1 _ rfl; (with_reducible repeat (first | refine blk_drewN ?_ _ | refine blk_drew ?_ | refine blk_alloc ?_ _)); refine blk_put (cs := #[.slice none 0 0, .slice none 0 0]) ?_ 0 _ rfl; (with_reducible repeat (first | refine blk_drewN ?_ _ | refine blk_drew ?_ | refine blk_alloc ?_ _)); exact BK810.out) Try.underlying46 rfl (by kernel_rfl)) rfl ?_
 exact ⟨_, _, by first | rfl | (simp [*, errW_none, errW_some] <;> rfl), ow_, by (with_reducible repeat (first | apply Kd.S_alloc | apply Kd.S_drewN | apply Kd.S_drew)); exact Kd.S_mono (Kd.S_far (p := ⟨gb810, 1, none⟩) (Kd.S_far (p := ⟨gb810, 0, none⟩) (Kd.S_types HO818.out BK810.out (by decide)) (fun _ hk => hk.2) (.slice Ao15 t816.length co15)) (fun _ hk => hk.2) (.slice Ao17 t819.length co17)) (fun _ hk => hk.1), by (with_reducible repeat (first | apply Kd.S_alloc | apply Kd.S_drewN | apply Kd.S_drew)); exact Kd.S_mono (Kd.S_far (p := ⟨gb810, 1, none⟩) (Kd.S_far (p := ⟨gb810, 0, none⟩) (Kd.S_types HO821.out BK810.out (by decide)) (fun _ hk => hk.2) (.slice Ao15 t816.length co15)) (fun _ hk => hk.2) (.slice Ao17 t819.length co17)) (fun _ hk => hk.1), zh HB.out⟩
end Go.Proofs.Ytaacaifiiedoiaa.Q
end
section
namespace Go.Proofs.Ytaacaifiiedoiaa.Q
open Go.RowKit Go.Proofs.YtaacaifiiedoiaaW.PrintWords Go.Proofs.YtaacaifiiedoiaaW.PrintLast Go.Proofs.YtaacaifiiedoiaaW.PrintMore
set_option linter.unusedVariables false
set_option linter.unusedSimpArgs false
theorem stHeldFirstTrade (k : Nat) {B B2 : Option Addr} {d n d2 n2 : Nat} {y y2 : List (List Int)} (q : Int) (W : World) (h : n = y.length ∧ n ≤ d ∧ Kd.C (Kd.slice 3 (Kd.int .i64)) W B y.length y) (h' : n2 = y2.length ∧ n2 ≤ d2 ∧ Kd.C (Kd.slice 3 (Kd.int .i64)) W B2 y2.length y2) (h2 : laws_heldTrade.f k y y2 1 = some q) :
    Calls Try.prog 31 #[.agg #[.slice B n d, .slice B2 n2 d2], .int .i64 1] W fun e w' => e = .returned (.int .i64 q) ∧ Below W.heap.size W w' := by
  obtain ⟨rfl, h1, hC⟩ := h
  obtain ⟨rfl, h3, hC2⟩ := h'
  exact laws_heldTrade.calls k B d y B2 d2 y2 1 q W hC h1 hC2 h3 h2
def laws_FnExactFirstTrade.f (k : Nat) (a : Int) (l : List (List Int)) : Option Bool :=
  (laws_szGame.f k a l 1048576).bind fun q => if q < 0 then some true else (laws_toGame.f k a l).bind fun p => (spec_FirstTrade.f k p.1 p.2).bind fun s => (impl_FirstTrade.f k p.1 p.2).bind fun g => (laws_eqTrade.f k g.1 g.2.1 s.1 s.2.1).bind fun t => if t = true then (if g.2.2 = s.2.2 then (laws_eqGame.f k p.1 p.2 p.1 p.2).bind fun e => if e = true then (laws_markIntSS.f k p.2 1).bind fun x => if x.1 < 0 then none else (laws_markIntSS.f k g.1 1).bind fun n => (laws_markIntSS.f k g.2.1 n.1).bind fun n2 => (laws_heldTrade.f k n.2 n2.2 1).bind fun q => if q < 0 then none else if q = n2.1 then some true else none else none else none) else none
set_option maxRecDepth 100000 in
set_option maxHeartbeats 8000000 in
theorem laws_FnExactFirstTrade_walk (k : Nat) (a : Int) (A : Option Addr) (c : Nat) (l : List (List Int)) (r : Bool) (w : World) (hC0 : Kd.C (Kd.slice 3 (Kd.int .i64)) w A l.length l) (hc : l.length ≤ c) (h : laws_FnExactFirstTrade.f k a l = some r) :
    Calls Try.prog 7 #[.agg #[.int .i64 a, .slice A l.length c]] w fun e w' => e = .returned (.bool r) ∧ Below w.heap.size w w' := by
  have HC := Aside0.mk hC0
  have u1 := Try.underlying24
  have u2 := Try.underlying31
  have u3 := Try.underlying46
  clear hC0
  replace h := Option.bind_eq_some_iff.mp h
  obtain ⟨q0, hq0, h⟩ := h
  have HQ0 := Aside0.mk hq0
  clear hq0
  by_cases c0 : q0 < 0
  · rw [if_pos c0] at h
    obtain rfl := Option.some.inj h
    have c0b : decide (q0 < 0) = true := decide_eq_true c0
    clear h
    go_enter Try.func7, Try.ntmps7
    go_wp2_with (go_at_call 9; refine (laws_szGame.calls k a A c l 1048576 q0 _ ?hC hc HQ0.out).mono ?_; (case hC => exact Kd.C_alloc HC.out _); rintro e u1_ ⟨rfl, hb⟩; have BA := Aside0.mk (blk_below (blk_new w (.cells #[.int .i64 a, .slice A l.length c] 24 (0, 0))) hb); have HB0 := Aside0.mk (((Below.refl w.heap.size w).alloc (Nat.le_refl _) (.cells #[.int .i64 a, .slice A l.length c] 24 (0, 0))).trans (hb.mono (by simp))); clear hb; have hA0 := (blk_cell BA.out 0).trans rfl; have hA1 := (blk_cell BA.out 1).trans rfl)
    go_ret
    exact ⟨rfl, HB0.out⟩
  rw [if_neg c0] at h
  have c0b : decide (q0 < 0) = false := decide_eq_false c0
  replace h := Option.bind_eq_some_iff.mp h
  obtain ⟨⟨m, p⟩, hp, h⟩ := h
  replace h := Option.bind_eq_some_iff.mp h
  obtain ⟨⟨s, s2, sb⟩, hs, h⟩ := h
  replace h := Option.bind_eq_some_iff.mp h
  obtain ⟨⟨g, g2, gb⟩, hg, h⟩ := h
  replace h := Option.bind_eq_some_iff.mp h
  obtain ⟨t, ht, h⟩ := h
  dsimp only at hs hg ht h
  by_cases c1 : t = true
  case neg => rw [if_neg c1] at h; cases h
  rw [if_pos c1] at h
  subst c1
  by_cases c2 : gb = sb
  case neg => rw [if_neg c2] at h; cases h
  rw [if_pos c2] at h
  subst c2
  replace h := Option.bind_eq_some_iff.mp h
  obtain ⟨t, hep, h⟩ := h
  by_cases c1 : t = true
  case neg => rw [if_neg c1] at h; cases h
  rw [if_pos c1] at h
  subst c1
  replace h := Option.bind_eq_some_iff.mp h
  obtain ⟨⟨x1, xm⟩, hx, h⟩ := h
  dsimp only at hep hx h
  by_cases c3 : x1 < 0
  case pos => rw [if_pos c3] at h; cases h
  rw [if_neg c3] at h
  have c3b : decide (x1 < 0) = false := decide_eq_false c3
  replace h := Option.bind_eq_some_iff.mp h
  obtain ⟨⟨n1, nm⟩, hn, h⟩ := h
  replace h := Option.bind_eq_some_iff.mp h
  obtain ⟨⟨n3, nm2⟩, hn2, h⟩ := h
  replace h := Option.bind_eq_some_iff.mp h
  obtain ⟨q, hh, h⟩ := h
  dsimp only at hn hn2 hh h
  by_cases c4 : q < 0
  case pos => rw [if_pos c4] at h; cases h
  rw [if_neg c4] at h
  have c4b : decide (q < 0) = false := decide_eq_false c4
  by_cases c5 : q = n3
  case neg => rw [if_neg c5] at h; cases h
  rw [if_pos c5] at h
  subst c5
  obtain rfl := Option.some.inj h
  have gg : (gb != gb) = false := by simp
  have HP := Aside0.mk hp
  have HS := Aside0.mk hs
  have HG := Aside0.mk hg
  have HT := Aside0.mk ht
  have HE := Aside0.mk hep
  have HX := Aside0.mk hx
  have HN := Aside0.mk hn
  have HN2 := Aside0.mk hn2
  have HH := Aside0.mk hh
  clear h hp hs hg ht hep hx hn hn2 hh
  go_enter Try.func7, Try.ntmps7
  go_wp2_with (go_at_call 9; refine (laws_szGame.calls k a A c l 1048576 q0 _ ?hC hc HQ0.out).mono ?_; (case hC => exact Kd.C_alloc HC.out _); rintro e u1_ ⟨rfl, hb⟩; have BA := Aside0.mk (blk_below (blk_new w (.cells #[.int .i64 a, .slice A l.length c] 24 (0, 0))) hb); have HB0 := Aside0.mk (((Below.refl w.heap.size w).alloc (Nat.le_refl _) (.cells #[.int .i64 a, .slice A l.length c] 24 (0, 0))).trans (hb.mono (by simp))); clear hb; have hA0 := (blk_cell BA.out 0).trans rfl; have hA1 := (blk_cell BA.out 1).trans rfl)
  go_wp2_with (go_at_call 11; refine (laws_toGame.calls k a A c l m p _ (Kd.C_below HC.out HB0.out) hc HP.out).mono ?_; rintro e u2_ ⟨v, rfl, hR, hb⟩; obtain ⟨D, d, rfl⟩ := Kd.S_slice hR; have HD := Aside0.mk (Kd.S_reads' hR); clear hR; have nBA_ := Aside0.mk (blk_below BA.out hb); have nHB0_ := Aside0.mk (HB0.out.trans (hb.mono HB0.out.size)); clear hA0 hA1; clear BA HB0; have BA := nBA_; have HB0 := nHB0_; clear hb nBA_ nHB0_; have hA0 := (blk_cell BA.out 0).trans rfl; have hA1 := (blk_cell BA.out 1).trans rfl)
  go_wp2_with (go_at_call 27; refine (spec_FirstTrade.calls k m D d p s s2 gb _ HD.out.2.2 HD.out.2.1 HS.out).mono ?_; rintro e w1 ⟨v, v2, rfl, hV, hV2, hb⟩; obtain ⟨As, cs, rfl⟩ := Kd.V_slice hV; obtain ⟨Bs, ds, rfl⟩ := Kd.V_slice hV2; have HW := Aside0.mk (Kd.V_reads' hV); have HY := Aside0.mk (Kd.V_reads' hV2); clear HD hV hV2; have nBA_ := Aside0.mk (blk_below BA.out hb); have nHB0_ := Aside0.mk (HB0.out.trans (hb.mono HB0.out.size)); clear hA0 hA1; clear BA HB0; have BA := nBA_; have HB0 := nHB0_; clear hb nBA_ nHB0_; have hA0 := (blk_cell BA.out 0).trans rfl; have hA1 := (blk_cell BA.out 1).trans rfl; have HA := Aside0.mk (blk_lt BA.out); have HCA := Aside0.mk (Kd.C_below HC.out HB0.out); have nBA_ := Aside0.mk (blk_alloc BA.out (.cells #[.slice As s.length cs, .slice Bs s2.length ds] 46 (0, 0))); clear BA; have BA := nBA_; clear nBA_ hA0 hA1; have BW := Aside0.mk (blk_new w1 (.cells #[.slice As s.length cs, .slice Bs s2.length ds] 46 (0, 0))); have hA0 := (blk_cell BA.out 0).trans rfl; have hA1 := (blk_cell BA.out 1).trans rfl; have hW0 := (blk_cell BW.out 0).trans rfl; have hW1 := (blk_cell BW.out 1).trans rfl)
  go_wp2_with (go_at_call 11; refine (laws_toGame.calls k a A c l m p _ (Kd.C_alloc HCA.out _) hc HP.out).mono ?_; rintro e w2 ⟨v, rfl, hR, hb⟩; obtain ⟨X, cx, rfl⟩ := Kd.S_slice hR; have HX0 := Aside0.mk hR; have B1 := Aside0.mk (((Below.refl w1.heap.size w1).alloc (Nat.le_refl _) (.cells #[.slice As s.length cs, .slice Bs s2.length ds] 46 (0, 0))).trans (hb.mono (by simp))); have HZ0 := Aside0.mk (show w1.heap.size + 1 ≤ w2.heap.size from Nat.le_trans (by simp) hb.size); have nBA_ := Aside0.mk (blk_alloc (blk_below BA.out hb) (.cells #[.int .i64 m, .slice X p.length cx] 31 (0, 0))); have nBW_ := Aside0.mk (blk_alloc (blk_below BW.out hb) (.cells #[.int .i64 m, .slice X p.length cx] 31 (0, 0))); clear hA0 hA1 hW0 hW1; clear BA BW hb hR; have BA := nBA_; have BW := nBW_; clear nBA_ nBW_; have BX := Aside0.mk (blk_new w2 (.cells #[.int .i64 m, .slice X p.length cx] 31 (0, 0))); have hA0 := (blk_cell BA.out 0).trans rfl; have hA1 := (blk_cell BA.out 1).trans rfl; have hW0 := (blk_cell BW.out 0).trans rfl; have hW1 := (blk_cell BW.out 1).trans rfl; have hX0 := (blk_cell BX.out 0).trans rfl; have hX1 := (blk_cell BX.out 1).trans rfl)
  go_wp2_with (go_at_call 28; refine (impl_FirstTrade.calls k m X cx p g g2 gb _ (Kd.C_alloc (Kd.S_reads' HX0.out).2.2 _) (Kd.S_reads' HX0.out).2.1 HG.out).mono ?_; rintro e w3 ⟨v, v2, rfl, ow, hS, hS2, hb⟩; obtain ⟨G, cg, rfl⟩ := Kd.S_slice hS; obtain ⟨J, cj, rfl⟩ := Kd.S_slice hS2; have nHX0_ := Aside0.mk (Kd.S_alloc (Kd.S_below (Kd.S_mono (Kd.S_bound (Kd.S_alloc HX0.out (.cells #[.int .i64 m, .slice X p.length cx] 31 (0, 0)))) (ok' := fun z => z < w2.heap.size + 1 ∧ w1.heap.size + 1 ≤ z) (fun z hz => ⟨Nat.lt_of_lt_of_le hz.2.2.1 (by simp), Nat.le_trans (by simp) hz.2.1⟩)) hb) (.cells #[.slice G g.length cg, .slice J g2.length cj] 46 (0, 0))); have HG0 := Aside0.mk (Kd.S_alloc (Kd.S_mono (Kd.S_bound hS) (ok' := fun z => (w2.heap.size + 1 ≤ z ∧ z < w3.heap.size) ∧ ow z = true) (fun z hz => ⟨⟨Nat.le_trans (by simp) hz.2.1, hz.2.2.1⟩, hz.1⟩)) (.cells #[.slice G g.length cg, .slice J g2.length cj] 46 (0, 0))); have HJ0 := Aside0.mk (Kd.S_alloc (Kd.S_mono (Kd.S_bound hS2) (ok' := fun z => (w2.heap.size + 1 ≤ z ∧ z < w3.heap.size) ∧ ow z = false) (fun z hz => ⟨⟨Nat.le_trans (by simp) hz.2.1, hz.2.2.1⟩, hz.1⟩)) (.cells #[.slice G g.length cg, .slice J g2.length cj] 46 (0, 0))); have nB1_ := Aside0.mk (((B1.out.alloc B1.out.size (.cells #[.int .i64 m, .slice X p.length cx] 31 (0, 0))).trans (hb.mono (Nat.le_trans B1.out.size (by simp)))).alloc (Nat.le_trans B1.out.size (Nat.le_trans (by simp) hb.size)) (.cells #[.slice G g.length cg, .slice J g2.length cj] 46 (0, 0))); have HZ := Aside0.mk (show w2.heap.size + 1 ≤ w3.heap.size from Nat.le_trans (by simp) hb.size); have nBA_ := Aside0.mk (blk_alloc (blk_below BA.out hb) (.cells #[.slice G g.length cg, .slice J g2.length cj] 46 (0, 0))); have nBW_ := Aside0.mk (blk_alloc (blk_below BW.out hb) (.cells #[.slice G g.length cg, .slice J g2.length cj] 46 (0, 0))); have nBX_ := Aside0.mk (blk_alloc (blk_below BX.out hb) (.cells #[.slice G g.length cg, .slice J g2.length cj] 46 (0, 0))); clear hA0 hA1 hW0 hW1 hX0 hX1; clear BA BW BX HX0 B1 hb hS hS2; have BA := nBA_; have BW := nBW_; have BX := nBX_; have HX0 := nHX0_; have B1 := nB1_; clear nBA_ nBW_ nBX_ nHX0_ nB1_; have BG := Aside0.mk (blk_new w3 (.cells #[.slice G g.length cg, .slice J g2.length cj] 46 (0, 0))); have hA0 := (blk_cell BA.out 0).trans rfl; have hA1 := (blk_cell BA.out 1).trans rfl; have hW0 := (blk_cell BW.out 0).trans rfl; have hW1 := (blk_cell BW.out 1).trans rfl; have hX0 := (blk_cell BX.out 0).trans rfl; have hX1 := (blk_cell BX.out 1).trans rfl; have hG0 := (blk_cell BG.out 0).trans rfl; have hG1 := (blk_cell BG.out 1).trans rfl)
  go_wp2_with (go_at_call 29; refine (laws_eqTrade.calls k G cg g J cj g2 As cs s Bs ds s2 true _ (Kd.S_reads' HG0.out).2.2 (Kd.S_reads' HG0.out).2.1 (Kd.S_reads' HJ0.out).2.2 (Kd.S_reads' HJ0.out).2.1 (Kd.C_below HW.out.2.2 B1.out) HW.out.2.1 (Kd.C_below HY.out.2.2 B1.out) HY.out.2.1 HT.out).mono ?_; rintro e w4 ⟨rfl, hb⟩; have nBA_ := Aside0.mk (blk_below BA.out hb); have nBW_ := Aside0.mk (blk_below BW.out hb); have nBX_ := Aside0.mk (blk_below BX.out hb); have nBG_ := Aside0.mk (blk_below BG.out hb); have nHX0_ := Aside0.mk (Kd.S_below HX0.out hb); have nHG0_ := Aside0.mk (Kd.S_below HG0.out hb); have nHJ0_ := Aside0.mk (Kd.S_below HJ0.out hb); have nB1_ := Aside0.mk (B1.out.trans (hb.mono B1.out.size)); clear hA0 hA1 hW0 hW1 hX0 hX1 hG0 hG1; clear BA BW BX BG HX0 HG0 HJ0 B1; have BA := nBA_; have BW := nBW_; have BX := nBX_; have BG := nBG_; have HX0 := nHX0_; have HG0 := nHG0_; have HJ0 := nHJ0_; have B1 := nB1_; clear hb nBA_ nBW_ nBX_ nBG_ nHX0_ nHG0_ nHJ0_ nB1_; have hA0 := (blk_cell BA.out 0).trans rfl; have hA1 := (blk_cell BA.out 1).trans rfl; have hW0 := (blk_cell BW.out 0).trans rfl; have hW1 := (blk_cell BW.out 1).trans rfl; have hX0 := (blk_cell BX.out 0).trans rfl; have hX1 := (blk_cell BX.out 1).trans rfl; have hG0 := (blk_cell BG.out 0).trans rfl; have hG1 := (blk_cell BG.out 1).trans rfl)
  refine start_ (n := 5) (S := fun w' => w'.cell? ⟨w2.heap.size, 0, none⟩ = some (.int .i64 m) ∧ w'.cell? ⟨w2.heap.size, 1, none⟩ = some (.slice X p.length cx) ∧ w'.cell? ⟨w.heap.size, 0, none⟩ = some (.int .i64 a) ∧ w'.cell? ⟨w.heap.size, 1, none⟩ = some (.slice A l.length c)) (ds := []) #[false, false, false, false, false] (by kernel_rfl) rfl rfl ⟨(blk_cell (blk_drew BX.out) 0).trans rfl, (blk_cell (blk_drew BX.out) 1).trans rfl, (blk_cell (blk_drew BA.out) 0).trans rfl, (blk_cell (blk_drew BA.out) 1).trans rfl⟩ (fun hHeld => ?_)
  have hb : Below w4.heap.size w4 w4.drew := (Below.refl _ w4).drew
  generalize w4.drew = w5 at hb hHeld ⊢
  have nBA_ := Aside0.mk (blk_below BA.out hb)
  have nBW_ := Aside0.mk (blk_below BW.out hb)
  have nBX_ := Aside0.mk (blk_below BX.out hb)
  have nBG_ := Aside0.mk (blk_below BG.out hb)
  have nHX0_ := Aside0.mk (Kd.S_below HX0.out hb)
  have nHG0_ := Aside0.mk (Kd.S_below HG0.out hb)
  have nHJ0_ := Aside0.mk (Kd.S_below HJ0.out hb)
  have nB1_ := Aside0.mk (B1.out.trans (hb.mono B1.out.size))
  clear hA0 hA1 hW0 hW1 hX0 hX1 hG0 hG1
  clear BA BW BX BG HX0 HG0 HJ0 B1
  have BA := nBA_
  have BW := nBW_
  have BX := nBX_
  have BG := nBG_
  have HX0 := nHX0_
  have HG0 := nHG0_
  have HJ0 := nHJ0_
  have B1 := nB1_
  clear hb nBA_ nBW_ nBX_ nBG_ nHX0_ nHG0_ nHJ0_ nB1_
  have hA0 := (blk_cell BA.out 0).trans rfl
  have hA1 := (blk_cell BA.out 1).trans rfl
  have hW0 := (blk_cell BW.out 0).trans rfl
  have hW1 := (blk_cell BW.out 1).trans rfl
  have hX0 := (blk_cell BX.out 0).trans rfl
  have hX1 := (blk_cell BX.out 1).trans rfl
  have hG0 := (blk_cell BG.out 0).trans rfl
  have hG1 := (blk_cell BG.out 1).trans rfl
  refine take_ (i := 0) (N := some 41) (v := ?_) (a' := ?_) #[true, false, false, false, false] rfl rfl (by kernel_rfl) (fun _ _ _ h => h) (Or.inl ⟨by rfl, ?_⟩) hHeld ?_ ?_
  rotate_left
  · rintro w' ⟨s0, s1, s2, s3⟩
    go_simp
    with_reducible rfl
  rotate_left
  · simp only [Act.put, List.setIfInBounds_toArray, List.set_cons_zero, List.set_cons_succ, i64_w, i32_w]
    rfl
  refine take_ (i := 1) (N := some 42) (v := ?_) (a' := ?_) #[true, true, false, false, false] rfl rfl (by kernel_rfl) (fun _ _ _ h => h) (Or.inl ⟨by rfl, ?_⟩) hHeld ?_ ?_
  rotate_left
  · rintro w' ⟨s0, s1, s2, s3⟩
    go_simp
    with_reducible rfl
  rotate_left
  · simp only [Act.put, List.setIfInBounds_toArray, List.set_cons_zero, List.set_cons_succ, i64_w, i32_w]
    rfl
  refine one_ (i := 2) (N := some 43) #[true, true, true, false, false] rfl rfl (by kernel_rfl) (by decide) (fun K hK => ?_)
  refine goes_ Try.func11 (by kernel_rfl) rfl #[.agg #[.int .i64 a, .slice A l.length c]] (by rfl) rfl rfl (by (try simp only [List.map_toArray, List.map_cons, List.map_nil]); first | done | rfl) ?_
  refine (laws_toGame.calls k a A c l m p _ (Kd.C_below HCA.out B1.out) hc HP.out).mono ?_
  rintro e w6 ⟨v, rfl, hD, hb⟩
  refine ⟨_, rfl, ?_⟩
  obtain ⟨D, d, rfl⟩ := Kd.S_slice hD
  have HD := Aside0.mk (Kd.S_reads' hD)
  clear hD
  have nBA_ := Aside0.mk (blk_below BA.out hb)
  have nBW_ := Aside0.mk (blk_below BW.out hb)
  have nBX_ := Aside0.mk (blk_below BX.out hb)
  have nBG_ := Aside0.mk (blk_below BG.out hb)
  have nHX0_ := Aside0.mk (Kd.S_below HX0.out hb)
  have nHG0_ := Aside0.mk (Kd.S_below HG0.out hb)
  have nHJ0_ := Aside0.mk (Kd.S_below HJ0.out hb)
  have nB1_ := Aside0.mk (B1.out.trans (hb.mono B1.out.size))
  clear hA0 hA1 hW0 hW1 hX0 hX1 hG0 hG1
  clear BA BW BX BG HX0 HG0 HJ0 B1
  have BA := nBA_
  have BW := nBW_
  have BX := nBX_
  have BG := nBG_
  have HX0 := nHX0_
  have HG0 := nHG0_
  have HJ0 := nHJ0_
  have B1 := nB1_
  clear hb nBA_ nBW_ nBX_ nBG_ nHX0_ nHG0_ nHJ0_ nB1_
  have hA0 := (blk_cell BA.out 0).trans rfl
  have hA1 := (blk_cell BA.out 1).trans rfl
  have hW0 := (blk_cell BW.out 0).trans rfl
  have hW1 := (blk_cell BW.out 1).trans rfl
  have hX0 := (blk_cell BX.out 0).trans rfl
  have hX1 := (blk_cell BX.out 1).trans rfl
  have hG0 := (blk_cell BG.out 0).trans rfl
  have hG1 := (blk_cell BG.out 1).trans rfl
  refine hK.out _ _ ⟨(blk_cell BX.out 0).trans rfl, (blk_cell BX.out 1).trans rfl, (blk_cell BA.out 0).trans rfl, (blk_cell BA.out 1).trans rfl⟩ (fun hHeld => ?_)
  clear hK K
  refine norm_ (a' := ?_) ?_ ?_
  rotate_left
  · show Act.put _ (some 43) _ = _
    simp only [Act.put, List.setIfInBounds_toArray, List.set_cons_zero, List.set_cons_succ, i64_w, i32_w]
    rfl
  refine one_ (i := 3) (N := some 44) #[true, true, true, true, false] rfl rfl (by kernel_rfl) (by decide) (fun K hK => ?_)
  refine goes_ Try.func14 (by kernel_rfl) rfl #[.agg #[.int .i64 m, .slice X p.length cx], .agg #[.int .i64 m, .slice D p.length d]] (by rfl) rfl rfl (by (try simp only [List.map_toArray, List.map_cons, List.map_nil]); first | done | rfl) ?_
  refine (laws_eqGame.calls k m X cx p m D d p true _ (Kd.S_reads' HX0.out).2.2 (Kd.S_reads' HX0.out).2.1 HD.out.2.2 HD.out.2.1 HE.out).mono ?_
  rintro e w7 ⟨rfl, hb⟩
  refine ⟨_, rfl, ?_⟩
  clear HD
  have nBA_ := Aside0.mk (blk_below BA.out hb)
  have nBW_ := Aside0.mk (blk_below BW.out hb)
  have nBX_ := Aside0.mk (blk_below BX.out hb)
  have nBG_ := Aside0.mk (blk_below BG.out hb)
  have nHX0_ := Aside0.mk (Kd.S_below HX0.out hb)
  have nHG0_ := Aside0.mk (Kd.S_below HG0.out hb)
  have nHJ0_ := Aside0.mk (Kd.S_below HJ0.out hb)
  have nB1_ := Aside0.mk (B1.out.trans (hb.mono B1.out.size))
  clear hA0 hA1 hW0 hW1 hX0 hX1 hG0 hG1
  clear BA BW BX BG HX0 HG0 HJ0 B1
  have BA := nBA_
  have BW := nBW_
  have BX := nBX_
  have BG := nBG_
  have HX0 := nHX0_
  have HG0 := nHG0_
  have HJ0 := nHJ0_
  have B1 := nB1_
  clear hb nBA_ nBW_ nBX_ nBG_ nHX0_ nHG0_ nHJ0_ nB1_
  have hA0 := (blk_cell BA.out 0).trans rfl
  have hA1 := (blk_cell BA.out 1).trans rfl
  have hW0 := (blk_cell BW.out 0).trans rfl
  have hW1 := (blk_cell BW.out 1).trans rfl
  have hX0 := (blk_cell BX.out 0).trans rfl
  have hX1 := (blk_cell BX.out 1).trans rfl
  have hG0 := (blk_cell BG.out 0).trans rfl
  have hG1 := (blk_cell BG.out 1).trans rfl
  refine hK.out _ _ ⟨(blk_cell BX.out 0).trans rfl, (blk_cell BX.out 1).trans rfl, (blk_cell BA.out 0).trans rfl, (blk_cell BA.out 1).trans rfl⟩ (fun hHeld => ?_)
  clear hK K
  refine norm_ (a' := ?_) ?_ ?_
  rotate_left
  · show Act.put _ (some 44) _ = _
    simp only [Act.put, List.setIfInBounds_toArray, List.set_cons_zero, List.set_cons_succ, i64_w, i32_w]
    rfl
  refine pure_ (i := 4) (N := some 45) (v := ?_) (a' := ?_) #[true, true, true, true, true] rfl rfl (by kernel_rfl) (fun _ _ _ h => h) (Or.inl ⟨by rfl, ?_⟩) ?_ ?_
  rotate_left
  · intro w'
    go_simp
    with_reducible rfl
  rotate_left
  · simp only [Act.put, List.setIfInBounds_toArray, List.set_cons_zero, List.set_cons_succ, i64_w, i32_w]
    rfl
  refine done_ (by kernel_rfl) ?_
  clear hHeld
  go_wp2_with (go_at_call 15; refine (laws_markGame.calls k m X cx p 1 x1 xm (fun z => z < w2.heap.size + 1 ∧ w1.heap.size + 1 ≤ z) w1 _ B1.out (Kd.S_lower HX0.out (by first | exact (Nat.le_refl _) | simp)) HX.out).mono ?_; rintro e w8 ⟨rfl, -, -, hb, hk⟩; have nHG0_ := Aside0.mk (Kd.S_step HG0.out (fun z hz hlt => hk.2 z hlt (fun h => absurd h.1 (Nat.not_lt.2 hz.1.1)))); have nHJ0_ := Aside0.mk (Kd.S_step HJ0.out (fun z hz hlt => hk.2 z hlt (fun h => absurd h.1 (Nat.not_lt.2 hz.1.1)))); have nBA_ := Aside0.mk ((hk.2 _ (blk_lt BA.out) (fun hz => absurd (Nat.lt_of_lt_of_le HA.out (Nat.le_trans (Nat.le_succ _) hz.2)) (Nat.lt_irrefl _))).trans BA.out); have nBW_ := Aside0.mk ((hk.2 _ (blk_lt BW.out) (fun hz => absurd hz.2 (Nat.not_succ_le_self _))).trans BW.out); have nBG_ := Aside0.mk ((hk.2 _ (blk_lt BG.out) (fun hz => absurd (Nat.lt_of_lt_of_le hz.1 HZ.out) (Nat.lt_irrefl _))).trans BG.out); clear hA0 hA1 hW0 hW1 hX0 hX1 hG0 hG1; clear BA BW BX BG HX0 HG0 HJ0 B1; have BA := nBA_; have BW := nBW_; have BG := nBG_; have HG0 := nHG0_; have HJ0 := nHJ0_; have B1 := Aside0.mk hb; clear nBA_ nBW_ nBG_ nHG0_ nHJ0_ hb hk; have hA0 := (blk_cell BA.out 0).trans rfl; have hA1 := (blk_cell BA.out 1).trans rfl; have hW0 := (blk_cell BW.out 0).trans rfl; have hW1 := (blk_cell BW.out 1).trans rfl; have hG0 := (blk_cell BG.out 0).trans rfl; have hG1 := (blk_cell BG.out 1).trans rfl)
  go_wp2_with (go_at_call 29; refine (laws_eqTrade.calls k G cg g J cj g2 As cs s Bs ds s2 true _ (Kd.S_reads' HG0.out).2.2 (Kd.S_reads' HG0.out).2.1 (Kd.S_reads' HJ0.out).2.2 (Kd.S_reads' HJ0.out).2.1 (Kd.C_below HW.out.2.2 B1.out) HW.out.2.1 (Kd.C_below HY.out.2.2 B1.out) HY.out.2.1 HT.out).mono ?_; rintro e w9 ⟨rfl, hb⟩; have nBA_ := Aside0.mk (blk_below BA.out hb); have nBW_ := Aside0.mk (blk_below BW.out hb); have nBG_ := Aside0.mk (blk_below BG.out hb); have nHG0_ := Aside0.mk (Kd.S_below HG0.out hb); have nHJ0_ := Aside0.mk (Kd.S_below HJ0.out hb); have nB1_ := Aside0.mk (B1.out.trans (hb.mono B1.out.size)); clear hA0 hA1 hW0 hW1 hG0 hG1; clear BA BW BG HG0 HJ0 B1; have BA := nBA_; have BW := nBW_; have BG := nBG_; have HG0 := nHG0_; have HJ0 := nHJ0_; have B1 := nB1_; clear hb nBA_ nBW_ nBG_ nHG0_ nHJ0_ nB1_; have hA0 := (blk_cell BA.out 0).trans rfl; have hA1 := (blk_cell BA.out 1).trans rfl; have hW0 := (blk_cell BW.out 0).trans rfl; have hW1 := (blk_cell BW.out 1).trans rfl; have hG0 := (blk_cell BG.out 0).trans rfl; have hG1 := (blk_cell BG.out 1).trans rfl)
  go_wp2_with (go_at_call 30; refine (laws_markTrade.calls k G cg g J cj g2 1 n1 q nm nm2 (fun z => (w2.heap.size + 1 ≤ z ∧ z < w3.heap.size) ∧ ow z = true) (fun z => (w2.heap.size + 1 ≤ z ∧ z < w3.heap.size) ∧ ow z = false) (fun z hz hy => Bool.noConfusion (hz.2.symm.trans hy.2)) w1 _ B1.out (Kd.S_lower HG0.out (Nat.le_trans (Nat.le_succ _) (Nat.le_trans HZ0.out (by simp)))) (Kd.S_lower HJ0.out (Nat.le_trans (Nat.le_succ _) (Nat.le_trans HZ0.out (by simp)))) HN.out HN2.out).mono ?_; rintro e w10 ⟨rfl, hS, hS2, -, -, hb, hk⟩; have HM := Aside0.mk (Kd.S_reads' hS); have HL := Aside0.mk (Kd.S_reads' hS2); have nBA_ := Aside0.mk ((hk.2 _ (blk_lt BA.out) (fun hy => have hz := hy.elim And.left And.left; absurd (Nat.lt_of_lt_of_le HA.out (Nat.le_trans (Nat.le_succ _) (Nat.le_trans HZ0.out (Nat.le_trans (Nat.le_succ _) hz.1)))) (Nat.lt_irrefl _))).trans BA.out); have nBW_ := Aside0.mk ((hk.2 _ (blk_lt BW.out) (fun hy => have hz := hy.elim And.left And.left; absurd (Nat.le_trans HZ0.out (Nat.le_trans (Nat.le_succ _) hz.1)) (Nat.not_succ_le_self _))).trans BW.out); have nBG_ := Aside0.mk ((hk.2 _ (blk_lt BG.out) (fun hy => have hz := hy.elim And.left And.left; absurd hz.2 (Nat.lt_irrefl _))).trans BG.out); clear hA0 hA1 hW0 hW1 hG0 hG1; clear BA BW BG HG0 HJ0 B1; have BA := nBA_; have BW := nBW_; have BG := nBG_; have B1 := Aside0.mk hb; clear nBA_ nBW_ nBG_ hb hk hS hS2; have hA0 := (blk_cell BA.out 0).trans rfl; have hA1 := (blk_cell BA.out 1).trans rfl; have hW0 := (blk_cell BW.out 0).trans rfl; have hW1 := (blk_cell BW.out 1).trans rfl; have hG0 := (blk_cell BG.out 0).trans rfl; have hG1 := (blk_cell BG.out 1).trans rfl)
  go_wp2_with (go_at_call 31; refine (stHeldFirstTrade k q _ HM.out HL.out HH.out).mono ?_; rintro e w11 ⟨rfl, hb⟩; have nBA_ := Aside0.mk (blk_below BA.out hb); have nBW_ := Aside0.mk (blk_below BW.out hb); have nBG_ := Aside0.mk (blk_below BG.out hb); have nHM_ := Aside0.mk (And.intro HM.out.1 (And.intro HM.out.2.1 (Kd.C_below HM.out.2.2 hb))); have nHL_ := Aside0.mk (And.intro HL.out.1 (And.intro HL.out.2.1 (Kd.C_below HL.out.2.2 hb))); have nB1_ := Aside0.mk (B1.out.trans (hb.mono B1.out.size)); clear hA0 hA1 hW0 hW1 hG0 hG1; clear BA BW BG HM HL B1; have BA := nBA_; have BW := nBW_; have BG := nBG_; have HM := nHM_; have HL := nHL_; have B1 := nB1_; clear hb nBA_ nBW_ nBG_ nHM_ nHL_ nB1_; have hA0 := (blk_cell BA.out 0).trans rfl; have hA1 := (blk_cell BA.out 1).trans rfl; have hW0 := (blk_cell BW.out 0).trans rfl; have hW1 := (blk_cell BW.out 1).trans rfl; have hG0 := (blk_cell BG.out 0).trans rfl; have hG1 := (blk_cell BG.out 1).trans rfl)
  go_wp2_with (go_at_call 11; refine (laws_toGame.calls k a A c l m p _ (Kd.C_below HCA.out B1.out) hc HP.out).mono ?_; rintro e w12 ⟨v, rfl, hR, hb⟩; obtain ⟨D, d, rfl⟩ := Kd.S_slice hR; have HD := Aside0.mk (Kd.S_reads' hR); clear hR; have nBA_ := Aside0.mk (blk_below BA.out hb); have nBW_ := Aside0.mk (blk_below BW.out hb); have nBG_ := Aside0.mk (blk_below BG.out hb); have nHM_ := Aside0.mk (And.intro HM.out.1 (And.intro HM.out.2.1 (Kd.C_below HM.out.2.2 hb))); have nHL_ := Aside0.mk (And.intro HL.out.1 (And.intro HL.out.2.1 (Kd.C_below HL.out.2.2 hb))); have nB1_ := Aside0.mk (B1.out.trans (hb.mono B1.out.size)); clear hA0 hA1 hW0 hW1 hG0 hG1; clear BA BW BG HM HL B1; have BA := nBA_; have BW := nBW_; have BG := nBG_; have HM := nHM_; have HL := nHL_; have B1 := nB1_; clear hb nBA_ nBW_ nBG_ nHM_ nHL_ nB1_; have hA0 := (blk_cell BA.out 0).trans rfl; have hA1 := (blk_cell BA.out 1).trans rfl; have hW0 := (blk_cell BW.out 0).trans rfl; have hW1 := (blk_cell BW.out 1).trans rfl; have hG0 := (blk_cell BG.out 0).trans rfl; have hG1 := (blk_cell BG.out 1).trans rfl)
  go_wp2_with (go_at_call 28; refine (impl_FirstTrade.calls k m D d p g g2 gb _ HD.out.2.2 HD.out.2.1 HG.out).mono ?_; rintro e w13 ⟨v, v2, rfl, ow2_, hR, hR2, hb⟩; obtain ⟨E, f, rfl⟩ := Kd.S_slice hR; obtain ⟨E2, f2, rfl⟩ := Kd.S_slice hR2; clear HD; have HD := Aside0.mk (And.intro (Kd.S_reads' hR).1 (And.intro (Kd.S_reads' hR).2.1 (Kd.C_alloc (Kd.S_reads' hR).2.2 (.cells #[.slice E g.length f, .slice E2 g2.length f2] 46 (0, 0))))); have HD2 := Aside0.mk (And.intro (Kd.S_reads' hR2).1 (And.intro (Kd.S_reads' hR2).2.1 (Kd.C_alloc (Kd.S_reads' hR2).2.2 (.cells #[.slice E g.length f, .slice E2 g2.length f2] 46 (0, 0))))); clear hR hR2; have nBA_ := Aside0.mk (blk_alloc (blk_below BA.out hb) (.cells #[.slice E g.length f, .slice E2 g2.length f2] 46 (0, 0))); have nBW_ := Aside0.mk (blk_alloc (blk_below BW.out hb) (.cells #[.slice E g.length f, .slice E2 g2.length f2] 46 (0, 0))); have nBG_ := Aside0.mk (blk_alloc (blk_below BG.out hb) (.cells #[.slice E g.length f, .slice E2 g2.length f2] 46 (0, 0))); have nHM_ := Aside0.mk (And.intro HM.out.1 (And.intro HM.out.2.1 (Kd.C_alloc (Kd.C_below HM.out.2.2 hb) (.cells #[.slice E g.length f, .slice E2 g2.length f2] 46 (0, 0))))); have nHL_ := Aside0.mk (And.intro HL.out.1 (And.intro HL.out.2.1 (Kd.C_alloc (Kd.C_below HL.out.2.2 hb) (.cells #[.slice E g.length f, .slice E2 g2.length f2] 46 (0, 0))))); have nB1_ := Aside0.mk ((B1.out.trans (hb.mono B1.out.size)).alloc (Nat.le_trans B1.out.size hb.size) (.cells #[.slice E g.length f, .slice E2 g2.length f2] 46 (0, 0))); clear hA0 hA1 hW0 hW1 hG0 hG1; clear BA BW BG HM HL B1 hb; have BA := nBA_; have BW := nBW_; have BG := nBG_; have HM := nHM_; have HL := nHL_; have B1 := nB1_; clear nBA_ nBW_ nBG_ nHM_ nHL_ nB1_; have BH := Aside0.mk (blk_new w13 (.cells #[.slice E g.length f, .slice E2 g2.length f2] 46 (0, 0))); have hA0 := (blk_cell BA.out 0).trans rfl; have hA1 := (blk_cell BA.out 1).trans rfl; have hW0 := (blk_cell BW.out 0).trans rfl; have hW1 := (blk_cell BW.out 1).trans rfl; have hG0 := (blk_cell BG.out 0).trans rfl; have hG1 := (blk_cell BG.out 1).trans rfl; have hH0 := (blk_cell BH.out 0).trans rfl; have hH1 := (blk_cell BH.out 1).trans rfl)
  go_wp2_with (go_at_call 29; refine (laws_eqTrade.calls k E f g E2 f2 g2 As cs s Bs ds s2 true _ HD.out.2.2 HD.out.2.1 HD2.out.2.2 HD2.out.2.1 (Kd.C_below HW.out.2.2 B1.out) HW.out.2.1 (Kd.C_below HY.out.2.2 B1.out) HY.out.2.1 HT.out).mono ?_; rintro e w14 ⟨rfl, hb⟩; clear HD HD2; have nBA_ := Aside0.mk (blk_below BA.out hb); have nBW_ := Aside0.mk (blk_below BW.out hb); have nBG_ := Aside0.mk (blk_below BG.out hb); have nBH_ := Aside0.mk (blk_below BH.out hb); have nHM_ := Aside0.mk (And.intro HM.out.1 (And.intro HM.out.2.1 (Kd.C_below HM.out.2.2 hb))); have nHL_ := Aside0.mk (And.intro HL.out.1 (And.intro HL.out.2.1 (Kd.C_below HL.out.2.2 hb))); have nB1_ := Aside0.mk (B1.out.trans (hb.mono B1.out.size)); clear hA0 hA1 hW0 hW1 hG0 hG1 hH0 hH1; clear BA BW BG BH HM HL B1; have BA := nBA_; have BW := nBW_; have BG := nBG_; have BH := nBH_; have HM := nHM_; have HL := nHL_; have B1 := nB1_; clear hb nBA_ nBW_ nBG_ nBH_ nHM_ nHL_ nB1_; have hA0 := (blk_cell BA.out 0).trans rfl; have hA1 := (blk_cell BA.out 1).trans rfl; have hW0 := (blk_cell BW.out 0).trans rfl; have hW1 := (blk_cell BW.out 1).trans rfl; have hG0 := (blk_cell BG.out 0).trans rfl; have hG1 := (blk_cell BG.out 1).trans rfl; have hH0 := (blk_cell BH.out 0).trans rfl; have hH1 := (blk_cell BH.out 1).trans rfl)
  go_wp2_with (go_at_call 31; refine (stHeldFirstTrade k q _ HM.out HL.out HH.out).mono ?_; rintro e w15 ⟨rfl, hb⟩; have nBA_ := Aside0.mk (blk_below BA.out hb); have nBW_ := Aside0.mk (blk_below BW.out hb); have nBG_ := Aside0.mk (blk_below BG.out hb); have nBH_ := Aside0.mk (blk_below BH.out hb); have nHM_ := Aside0.mk (And.intro HM.out.1 (And.intro HM.out.2.1 (Kd.C_below HM.out.2.2 hb))); have nHL_ := Aside0.mk (And.intro HL.out.1 (And.intro HL.out.2.1 (Kd.C_below HL.out.2.2 hb))); have nB1_ := Aside0.mk (B1.out.trans (hb.mono B1.out.size)); clear hA0 hA1 hW0 hW1 hG0 hG1 hH0 hH1; clear BA BW BG BH HM HL B1; have BA := nBA_; have BW := nBW_; have BG := nBG_; have BH := nBH_; have HM := nHM_; have HL := nHL_; have B1 := nB1_; clear hb nBA_ nBW_ nBG_ nBH_ nHM_ nHL_ nB1_; have hA0 := (blk_cell BA.out 0).trans rfl; have hA1 := (blk_cell BA.out 1).trans rfl; have hW0 := (blk_cell BW.out 0).trans rfl; have hW1 := (blk_cell BW.out 1).trans rfl; have hG0 := (blk_cell BG.out 0).trans rfl; have hG1 := (blk_cell BG.out 1).trans rfl; have hH0 := (blk_cell BH.out 0).trans rfl; have hH1 := (blk_cell BH.out 1).trans rfl)
  go_ret
  exact ⟨rfl, HB0.out.trans (B1.out.mono HB0.out.size)⟩
theorem laws_FnExactFirstTrade.calls (k : Nat) (a0_0 : Int) (A0_1 : Option Addr) (c0_1 : Nat) (l0_1 : List (List Int)) (r : Bool) (w : World) (hr0_1 : Kd.C (Kd.slice 3 (Kd.int .i64)) w A0_1 l0_1.length l0_1) (hc0_1 : l0_1.length ≤ c0_1) (h : laws_FnExactFirstTrade.f k a0_0 l0_1 = some r) :
    Calls Try.prog 7 #[.agg #[.int .i64 a0_0, .slice A0_1 l0_1.length c0_1]] w fun e w' => e = .returned (.bool r) ∧ Below w.heap.size w w' := by
  exact laws_FnExactFirstTrade_walk k a0_0 A0_1 c0_1 l0_1 r w hr0_1 hc0_1 h
end Go.Proofs.Ytaacaifiiedoiaa.Q
end
section
namespace Go.Proofs.Ytaacaifiiedoiaa.Q
open Go.RowKit Go.Proofs.YtaacaifiiedoiaaW.PrintWords Go.Proofs.YtaacaifiiedoiaaW.PrintLast Go.Proofs.YtaacaifiiedoiaaW.PrintMore
set_option linter.unusedVariables false
set_option linter.unusedSimpArgs false
open Go.ChangeShapes Go.WideShapes Go.ChangeAt Go.Deep
section
variable {H : Type} {enc : TypeId × Value → H} {P : Program} {W : World} {α β γ : Type}
def Opens (enc : TypeId × Value → H) (P : Program) (W : World) (t : TypeId) (d : Kd α) (G : α → Prop) : Prop :=
  ∀ (fuel : Nat) (cs : List Value) (y : DataW H × List MemPlace), DataW.trod enc P W 0 (fun _ => true) true fuel t cs = some y → ∃ x, d.K W x cs ∧ G x
def I64 (x : Int) : Prop := -9223372036854775808 ≤ x ∧ x ≤ 9223372036854775807
theorem opens_int {t : TypeId} (ht : P.underlying t = some (.int .i64)) : Opens enc P W t (Kd.int .i64) I64 := by
  intro fuel cs y h
  obtain ⟨n, rfl, _, hw⟩ := DataW.trod_int ht h
  exact ⟨n, rfl, Go.bounds_i64 hw⟩
theorem opens_slice [Inhabited α] {t e : TypeId} {d : Kd α} {G : α → Prop} (ht : P.underlying t = some (.slice e)) (he : P.cellsOf e = d.sz) (h : Opens enc P W e d G) :
    Opens enc P W t (Kd.slice e d) (fun xs => ∀ x ∈ xs, G x) := by
  intro fuel cs y hr
  rcases Deep.open_slice ht hr with ⟨rfl, _⟩ | ⟨a, len, cap, m, n, D, Pl, rfl, _, hlc, hcm, hm, _, hel⟩
  · exact ⟨[], ⟨none, 0, rfl, Nat.le_refl _, rfl, by simp, fun hp => absurd hp (by simp)⟩, fun x hx => by cases hx⟩
  · have hm' : len ≤ m := by rw [hm]; simp; omega
    have key : ∀ i, i < len → ∃ x, (∃ cs', d.K W x cs' ∧ ∀ j u, cs'[j]? = some u → W.cell? (a.add (i * d.sz + j)) = some u) ∧ G x := by
      intro i hi
      obtain ⟨cs', h1, h2⟩ := hel i (by omega)
      obtain ⟨x, hx, hG⟩ := h _ _ _ h2
      obtain ⟨_, hl, hc⟩ := World.cells?_some h1
      refine ⟨x, ⟨cs', hx, fun j u hu => ?_⟩, hG⟩
      have hj : j < P.cellsOf e := by rw [← hl]; exact (List.getElem?_eq_some_iff.1 hu).1
      have h3 := hc j hj
      rw [Deep.add_add, he] at h3
      rw [h3, hu]
    obtain ⟨f, hf⟩ := Deep.choose_lt key
    have hlen : ((List.range len).map f).length = len := by simp
    refine ⟨(List.range len).map f, ⟨some a, cap, by rw [hlen], by rw [hlen]; exact hlc, rfl, ?_, fun _ => ⟨a, rfl, fun j p hj => ?_⟩⟩, fun x hx => ?_⟩
    · rw [hlen]; unfold maxLen at hcm; omega
    · obtain ⟨hj1, hj2⟩ := List.getElem?_eq_some_iff.1 hj
      have hjl : j < len := by rw [hlen] at hj1; exact hj1
      have : p = f j := by rw [← hj2]; simp
      subst this
      obtain ⟨⟨cs', hK, hc⟩, _⟩ := hf j hjl
      exact ⟨cs', d.K_len hK, hK, hc⟩
    · obtain ⟨i, hi, rfl⟩ := List.mem_map.1 hx
      exact (hf i (List.mem_range.1 hi)).2
theorem opens_pair {t : TypeId} {f0 f1 : Field} {d0 : Kd α} {d1 : Kd β} {G0 : α → Prop} {G1 : β → Prop} (ht : P.underlying t = some (.struct #[f0, f1])) (hC : P.cellsOf t = d0.sz + d1.sz)
    (o0 : f0.offset = 0) (o1 : f1.offset = d0.sz) (c0 : P.cellsOf f0.type = d0.sz) (c1 : P.cellsOf f1.type = d1.sz) (h0 : Opens enc P W f0.type d0 G0) (h1 : Opens enc P W f1.type d1 G1) :
    Opens enc P W t (Kd.pair d0 d1) (fun x => G0 x.1 ∧ G1 x.2) := by
  intro fuel cs y hr
  obtain ⟨y0, y1, n, _, hl, r0, r1⟩ := trod_struct2 ht hr
  rw [o0, c0] at r0
  rw [o1, c1] at r1
  obtain ⟨x0, k0, g0⟩ := h0 _ _ _ r0
  obtain ⟨x1, k1, g1⟩ := h1 _ _ _ r1
  refine ⟨(x0, x1), ⟨_, _, ?_, k0, k1⟩, g0, g1⟩
  rw [List.drop_zero, List.take_of_length_le (l := cs.drop d0.sz) (by rw [List.length_drop, hl, hC]; omega), List.take_append_drop]
theorem open_struct {r : Reach} {b0 : Nat} {t : TypeId} {fs : Array Field} {d : Kd α} {G : α → Prop} {v : Value} {y : DataW H} {p : List MemPlace} (ht : P.underlying t = some (.struct fs)) (hv : Value.okWide P W r b0 t v)
    (hr : DataW.Trod enc P W 0 (fun _ => true) true t v y p) (h : Opens enc P W t d G) : ∃ x cs, v = .agg cs ∧ d.K W x cs.toList ∧ G x := by
  obtain ⟨cs, rfl, _⟩ := okWide_struct ht hv
  obtain ⟨fuel, hf⟩ := hr
  obtain ⟨x, k, g⟩ := h _ _ _ hf
  exact ⟨x, cs, rfl, k, g⟩
end
end Go.Proofs.Ytaacaifiiedoiaa.Q
end
section
namespace Go.Proofs.Ytaacaifiiedoiaa.Q
open Go.RowKit Go.Proofs.YtaacaifiiedoiaaW.PrintWords Go.Proofs.YtaacaifiiedoiaaW.PrintLast Go.Proofs.YtaacaifiiedoiaaW.PrintMore
set_option linter.unusedVariables false
set_option linter.unusedSimpArgs false
theorem wraps_i64 (n : Int) (h0 : 0 ≤ n) (h1 : n < 2 ^ 62) : IntKind.i64.wrap n = n := by rw [IntKind.wrap_i64]; omega
theorem and_nat (a b : Nat) (ha : a < 2 ^ 62) (hb : b < 2 ^ 62) : Go.bits .and .i64 (a : Int) (b : Int) = ((a &&& b : Nat) : Int) := (Go.bits_nat .i64 62 (by decide) wraps_i64 a b ha hb).1
theorem or_nat (a b : Nat) (ha : a < 2 ^ 62) (hb : b < 2 ^ 62) : Go.bits .or .i64 (a : Int) (b : Int) = ((a ||| b : Nat) : Int) := (Go.bits_nat .i64 62 (by decide) wraps_i64 a b ha hb).2
theorem shr_nat (a n : Nat) (hn : n ≤ 64) : shr .i64 (a : Int) (n : Int) = ((a >>> n : Nat) : Int) := by
  unfold shr
  rw [Int.toNat_natCast, show min n IntKind.i64.bits = n from Nat.min_eq_left hn, Nat.shiftRight_eq_div_pow]
  simp
theorem shl_one_nat (n : Nat) (hn : n ≤ 16) : shl .i64 1 (n : Int) = ((2 ^ n : Nat) : Int) := by
  rw [shl_one (n : Int) ⟨by omega, by omega⟩, Int.toNat_natCast]; simp
theorem and_one_nat (a : Nat) (ha : a < 2 ^ 62) : Go.bits .and .i64 (a : Int) 1 = ((a % 2 : Nat) : Int) := by
  have := and_nat a 1 ha (by decide)
  rw [Nat.and_one_is_mod] at this
  exact this
theorem tmod_two (a : Nat) : Int.tmod (a : Int) 2 = ((a % 2 : Nat) : Int) := by
  rw [Int.tmod_eq_emod_of_nonneg (by omega)]; omega
theorem shr_lt (a i : Nat) (ha : a < 2 ^ 62) : a >>> i < 2 ^ 62 := by
  rw [Nat.shiftRight_eq_div_pow]
  exact Nat.lt_of_le_of_lt (Nat.div_le_self _ _) ha
def bitsL (m : Nat) : Nat → Nat → List Int
  | _, 0 => []
  | i, n + 1 => if m >>> i % 2 = 1 then (i : Int) :: bitsL m (i + 1) n else bitsL m (i + 1) n
def setL (m : Nat) : List Int := bitsL m 0 16
theorem bitsL_zero (m i n : Nat) (h : m >>> i = 0) : bitsL m i n = [] := by
  induction n generalizing i with
  | zero => rfl
  | succ n ih =>
    rw [bitsL, h, if_neg (by decide)]
    exact ih (i + 1) (by rw [Nat.shiftRight_succ, h])
theorem bitsL_len (m i n : Nat) : (bitsL m i n).length ≤ n := by
  induction n generalizing i with
  | zero => simp [bitsL]
  | succ n ih =>
    rw [bitsL]
    split
    · simp; exact ih _
    · exact Nat.le_succ_of_le (ih _)
theorem setOf_ev (m : Nat) (hm : m < 65536) : Ev (fun k => impl_setOf.f k (m : Int)) (setL m) := by
  unfold impl_setOf.f
  have key : ∀ (n i : Nat) (acc : List Int), i + n = 16 → acc.length ≤ i → Ev (fun k => impl_setOf.l0 k (m : Int) acc (i : Int)) (acc ++ bitsL m i n) := by
    intro n
    induction n with
    | zero =>
      intro i acc hi ha
      refine ev_succ ?_
      simp only [impl_setOf.l0, shr_nat m i (by omega)]
      refine ev_pos (by omega) (ev_neg ?_ (ev_eqv (Ev.now acc) (by simp [bitsL])))
      rw [show i = 16 by omega, Nat.shiftRight_eq_div_pow, Nat.div_eq_of_lt hm]; decide
    | succ n ih =>
      intro i acc hi ha
      refine ev_succ ?_
      simp only [impl_setOf.l0, shr_nat m i (by omega), and_one_nat _ (shr_lt m i (by omega))]
      refine ev_pos (by omega) ?_
      by_cases h0 : m >>> i = 0
      · exact ev_neg (by rw [h0]; decide) (ev_eqv (Ev.now acc) (by rw [bitsL_zero m i _ h0]; simp))
      · refine ev_pos (Int.ofNat_lt.2 (Nat.pos_of_ne_zero h0)) ?_
        rw [wrap_succ (n := 16) (by omega) (by decide), bitsL]
        by_cases h1 : m >>> i % 2 = 1
        · refine ev_pos (by omega) (ev_pos (by omega) (ev_eqv (ih (i + 1) (acc ++ [(i : Int)]) (by omega) (by simp; omega)) ?_))
          rw [if_pos h1]; simp
        · refine ev_neg (by omega) (ev_eqv (ih (i + 1) acc (by omega) (by omega)) ?_)
          rw [if_neg h1]
  exact key 16 0 [] (by omega) (by simp)
theorem voList_ev (m : Nat) (hm : m < 65536) : Ev (fun k => spec_voList.f k (m : Int)) (setL m) := by
  unfold spec_voList.f
  have key : ∀ (n i : Nat) (acc : List Int), i + n = 16 → acc.length ≤ i → Ev (fun k => spec_voList.l0 k (m : Int) acc (i : Int)) (acc ++ bitsL m i n) := by
    intro n
    induction n with
    | zero =>
      intro i acc hi ha
      refine ev_succ ?_
      simp only [spec_voList.l0, shr_nat m i (by omega)]
      refine ev_pos (by omega) (ev_neg ?_ (ev_eqv (Ev.now acc) (by simp [bitsL])))
      rw [show i = 16 by omega, Nat.shiftRight_eq_div_pow, Nat.div_eq_of_lt hm]; decide
    | succ n ih =>
      intro i acc hi ha
      refine ev_succ ?_
      simp only [spec_voList.l0, shr_nat m i (by omega), tmod_two]
      refine ev_pos (by omega) ?_
      by_cases h0 : m >>> i = 0
      · exact ev_neg (by rw [h0]; decide) (ev_eqv (Ev.now acc) (by rw [bitsL_zero m i _ h0]; simp))
      · refine ev_pos (Int.ofNat_lt.2 (Nat.pos_of_ne_zero h0)) ?_
        rw [wrap_succ (n := 16) (by omega) (by decide), bitsL]
        by_cases h1 : m >>> i % 2 = 1
        · refine ev_pos (by omega) (ev_pos (by omega) (ev_eqv (ih (i + 1) (acc ++ [(i : Int)]) (by omega) (by simp; omega)) ?_))
          rw [if_pos h1]; simp
        · refine ev_neg (by omega) (ev_eqv (ih (i + 1) acc (by omega) (by omega)) ?_)
          rw [if_neg h1]
  exact key 16 0 [] (by omega) (by simp)
theorem toIntS_ev (l : List Int) (hl : l.length ≤ 1152921504606) : Ev (fun k => laws_toIntS.f k l) l := by
  unfold laws_toIntS.f
  refine ev_pos (by omega) (ev_pos (by omega) ?_)
  rw [Int.toNat_natCast]
  have key : ∀ (d i : Nat), i + d = l.length → Ev (fun k => laws_toIntS.l0 k l (l.take i ++ List.replicate (l.length - i) 0) (i : Int)) l := by
    intro d
    induction d with
    | zero =>
      intro i hi
      refine ev_succ ?_
      simp only [laws_toIntS.l0]
      refine ev_neg (by omega) (ev_eqv (Ev.now _) ?_)
      rw [show i = l.length by omega]; simp
    | succ d ih =>
      intro i hi
      have h1 : i < l.length := by omega
      refine ev_succ ?_
      simp only [laws_toIntS.l0]
      refine ev_pos (by omega) (ev_pos (by omega) (ev_pos (by rw [List.length_append, List.length_take, List.length_replicate]; omega) ?_))
      rw [wrap_succ h1 (by omega), Int.toNat_natCast, rd_get h1]
      have e : (l.take i ++ List.replicate (l.length - i) 0).set i l[i] = l.take (i + 1) ++ List.replicate (l.length - (i + 1)) 0 := by
        rw [List.set_append_right _ _ (by rw [List.length_take]; omega), List.length_take, Nat.min_eq_left (by omega), Nat.sub_self, show l.length - i = (l.length - (i + 1)) + 1 by omega, List.replicate_succ, List.set_cons_zero, List.take_succ_eq_append_getElem h1, List.append_assoc]
        rfl
      rw [e]
      exact ih (i + 1) (by omega)
  exact key l.length 0 (by omega)
def maskN (m : Nat) : List Int → Nat
  | [] => m
  | x :: l => maskN (m ||| 2 ^ x.toNat) l
theorem maskOf_ev (l : List Int) (hl : l.length ≤ 1152921504606) (h : ∀ x ∈ l, 0 ≤ x ∧ x ≤ 15) : Ev (fun k => impl_maskOf.f k l) (maskN 0 l : Int) ∧ Ev (fun k => spec_voBits.f k l) (maskN 0 l : Int) := by
  unfold impl_maskOf.f spec_voBits.f
  have key : ∀ (d i m : Nat), i + d = l.length → m < 65536 → Ev (fun k => impl_maskOf.l0 k (m : Int) l (l.length : Int) (i : Int)) (maskN m (l.drop i) : Int) ∧ Ev (fun k => spec_voBits.l0 k (m : Int) l (l.length : Int) (i : Int)) (maskN m (l.drop i) : Int) := by
    intro d
    induction d with
    | zero =>
      intro i m hi hm
      refine ⟨ev_succ ?_, ev_succ ?_⟩
      all_goals
        simp only [impl_maskOf.l0, spec_voBits.l0]
        refine ev_neg (by omega) (ev_eqv (Ev.now _) ?_)
        rw [List.drop_of_length_le (by omega)]; rfl
    | succ d ih =>
      intro i m hi hm
      have h1 : i < l.length := by omega
      have hx := h l[i] (List.getElem_mem h1)
      obtain ⟨q, hq⟩ := Int.eq_ofNat_of_zero_le hx.1
      have hq16 : q ≤ 15 := by omega
      have hp : 2 ^ q < 65536 := Nat.pow_lt_pow_right (n := 16) (by decide) (by omega)
      have ih' := ih (i + 1) (m ||| 2 ^ q) (by omega) (Nat.or_lt_two_pow (n := 16) hm hp)
      rw [List.drop_eq_getElem_cons h1, maskN, hq, Int.toNat_natCast]
      refine ⟨ev_succ ?_, ev_succ ?_⟩
      all_goals
        simp only [impl_maskOf.l0, spec_voBits.l0]
        refine ev_pos (by omega) (ev_pos (by omega) (ev_pos (by omega) (ev_pos (by rw [rd_get h1]; omega) ?_)))
        rw [rd_get h1, hq, shl_one_nat q (by omega), or_nat m (2 ^ q) (by omega) (by omega), wrap_succ h1 (by omega)]
      · exact ih'.1
      · exact ih'.2
  exact key l.length 0 0 (by omega) (by decide)
def incFrom : Option Int → List Int → Bool
  | _, [] => true
  | p, x :: l => (match p with | none => true | some y => decide (y < x)) && incFrom (some x) l
def incB (l : List Int) : Bool := incFrom none l
def isSetB (l : List Int) (n : Int) : Bool := l.all (inB · 0 (n - 1)) && incB l
def prev (l : List Int) : Nat → Option Int
  | 0 => none
  | i + 1 => l[i]?
theorem isIncreasing_ev (l : List Int) (hl : l.length ≤ 1152921504606) : Ev (fun k => impl_isIncreasing.f k l) (incB l) := by
  unfold impl_isIncreasing.f
  have key : ∀ (d i : Nat), i + d = l.length → Ev (fun k => impl_isIncreasing.l0 k l (l.length : Int) (i : Int)) (incFrom (prev l i) (l.drop i)) := by
    intro d
    induction d with
    | zero =>
      intro i hi
      refine ev_succ ?_
      simp only [impl_isIncreasing.l0]
      refine ev_neg (by omega) (ev_eqv (Ev.now _) ?_)
      rw [List.drop_of_length_le (by omega)]; rfl
    | succ d ih =>
      intro i hi
      have h1 : i < l.length := by omega
      have ih' := ih (i + 1) (by omega)
      have hp : prev l (i + 1) = some l[i] := by rw [prev, List.getElem?_eq_getElem h1]
      rw [hp] at ih'
      refine ev_succ ?_
      simp only [impl_isIncreasing.l0]
      refine ev_pos (by omega) ?_
      rw [wrap_succ h1 (by omega), List.drop_eq_getElem_cons h1]
      cases i with
      | zero => exact ev_neg (by omega) (ev_eqv ih' (by simp [incFrom, prev]))
      | succ i =>
        have h2 : i < l.length := by omega
        rw [wrap_pred h2 (by omega), rd_get h1, rd_get h2]
        refine ev_pos (by omega) (ev_pos (by omega) (ev_pos (by omega) (ev_pos (by omega) (ev_pos (by omega) ?_))))
        have e : prev l (i + 1) = some l[i] := by rw [prev, List.getElem?_eq_getElem h2]
        rw [e, incFrom]
        by_cases c : l[i + 1] ≤ l[i]
        · exact ev_pos c (ev_eqv (Ev.now _) (by rw [decide_eq_false (by omega)]; rfl))
        · exact ev_neg c (ev_eqv ih' (by rw [decide_eq_true (by omega)]; rfl))
  exact key l.length 0 (by omega)
theorem l1Rising_ev (l : List Int) (lo hi : Int) (hl : l.length ≤ 1152921504606) : Ev (fun k => spec_l1Rising.f k l lo hi) (l.all (inB · lo hi) && incB l) := by
  unfold spec_l1Rising.f
  have key : ∀ (d i : Nat), i + d = l.length → Ev (fun k => spec_l1Rising.l0 k l lo hi l (l.length : Int) (i : Int)) ((l.drop i).all (inB · lo hi) && incFrom (prev l i) (l.drop i)) := by
    intro d
    induction d with
    | zero =>
      intro i hi
      refine ev_succ ?_
      simp only [spec_l1Rising.l0]
      refine ev_neg (by omega) (ev_eqv (Ev.now _) ?_)
      rw [List.drop_of_length_le (by omega)]; rfl
    | succ d ih =>
      intro i hi
      have h1 : i < l.length := by omega
      have ih' := ih (i + 1) (by omega)
      have hp : prev l (i + 1) = some l[i] := by rw [prev, List.getElem?_eq_getElem h1]
      rw [hp] at ih'
      refine ev_succ ?_
      simp only [spec_l1Rising.l0, l1In_eq, Option.bind_some]
      refine ev_pos (by omega) (ev_pos (by omega) (ev_pos (by omega) ?_))
      rw [wrap_succ h1 (by omega), List.drop_eq_getElem_cons h1, rd_get h1, List.all_cons]
      refine ev_bool (fun hb => ?_) (fun hb => ev_eqv (Ev.now _) (by rw [hb]; rfl))
      rw [hb]
      cases i with
      | zero => exact ev_neg (by omega) (ev_eqv ih' (by simp [incFrom, prev]))
      | succ i =>
        have h2 : i < l.length := by omega
        rw [wrap_pred h2 (by omega), rd_get h2]
        refine ev_pos (by omega) (ev_pos (by omega) (ev_pos (by omega) ?_))
        have e : prev l (i + 1) = some l[i] := by rw [prev, List.getElem?_eq_getElem h2]
        rw [e, incFrom]
        by_cases c : l[i] ≥ l[i + 1]
        · exact ev_pos c (ev_eqv (Ev.now _) (by rw [decide_eq_false (by omega)]; simp))
        · exact ev_neg c (ev_eqv ih' (by rw [decide_eq_true (by omega)]; rfl))
  exact key l.length 0 (by omega)
theorem any_not_all {α : Type} (l : List α) (p : α → Bool) : (!l.any fun x => !p x) = l.all p := by
  induction l with
  | nil => rfl
  | cons x l ih => rw [List.any_cons, List.all_cons, ← ih]; cases p x <;> simp
theorem areIn_eq (l : List Int) (lo hi : Int) : impl_areIn.f l lo hi = some (l.all (inB · lo hi)) := by
  unfold impl_areIn.f
  rw [anyO_some (q := fun x => !inB x lo hi) (fun x _ => by unfold impl_areIn_1.f; rw [within_eq]; rfl)]
  rw [Option.bind_some, any_not_all]
theorem isSet_ev (l : List Int) (n : Int) (hn : -1000000 ≤ n ∧ n ≤ 1000000) (hl : l.length ≤ 1152921504606) : Ev (fun k => impl_isSet.f k l n) (isSetB l n) := by
  unfold impl_isSet.f isSetB
  rw [wrap64_id (by omega)]
  simp only [areIn_eq, Option.bind_some]
  refine ev_bool (fun hb => ?_) (fun hb => ev_eqv (Ev.now _) (by rw [hb]; rfl))
  rw [hb]
  exact Ev.bind (isIncreasing_ev l hl) (Ev.now _)
theorem voSet_ev (l : List Int) (n : Int) (hn : -1000000 ≤ n ∧ n ≤ 1000000) (hl : l.length ≤ 1152921504606) : Ev (fun k => spec_voSet.f k n l) (isSetB l n) := by
  unfold spec_voSet.f isSetB
  rw [wrap64_id (by omega)]
  exact Ev.bind (l1Rising_ev l 0 (n - 1) hl) (Ev.now _)
theorem isSetB_mem {l : List Int} {n : Int} (h : isSetB l n = true) : ∀ x ∈ l, 0 ≤ x ∧ x ≤ n - 1 := by
  intro x hx
  unfold isSetB at h
  rw [Bool.and_eq_true, List.all_eq_true] at h
  exact inB_iff.1 (h.1 x hx)
theorem ev_anyO {α : Type} (p : Nat → α → Option Bool) (q : α → Bool) : ∀ l : List α, (∀ x ∈ l, Ev (fun k => p k x) (q x)) → Ev (fun k => anyO (p k) l) (l.any q)
  | [], _ => Ev.now _
  | x :: xs, h => by
    simp only [anyO, List.any_cons]
    refine Ev.bind (h x (List.mem_cons_self ..)) (ev_bool (fun e => ?_) (fun e => ?_))
    · rw [e]; exact Ev.now _
    · rw [e]; exact ev_anyO p q xs (fun y hy => h y (List.mem_cons_of_mem _ hy))
def allR (P : Nat → Bool) (n i : Nat) : Bool := ((List.range n).drop i).all P
theorem allR_end (P : Nat → Bool) (n : Nat) : allR P n n = true := by
  unfold allR
  rw [List.drop_of_length_le (by simp)]; rfl
theorem allR_step (P : Nat → Bool) (n i : Nat) (h : i < n) : allR P n i = (P i && allR P n (i + 1)) := by
  unfold allR
  rw [all_drop P (List.range n) i (by simpa using h), List.getElem_range]
theorem allR_iff (P : Nat → Bool) (n : Nat) : allR P n 0 = true ↔ ∀ i, i < n → P i = true := by
  unfold allR
  rw [List.drop_zero, List.all_eq_true]
  exact ⟨fun h i hi => h i (List.mem_range.2 hi), fun h i hi => h i (List.mem_range.1 hi)⟩
def mk (l : List (List Int)) (i : Nat) : Nat := maskN 0 (l.getD i [])
def rises (l : List (List Int)) (i : Nat) : Bool := decide (i = 0) || lexB (l.getD (i - 1) []) (l.getD i [])
def apartS (l : List (List Int)) (i : Nat) : Bool := allR (fun h => !(mk l i &&& mk l h == mk l i) && !(mk l i &&& mk l h == mk l h)) i 0
def apartI (l : List (List Int)) (i : Nat) : Bool := allR (fun h => decide (h = i) || !(mk l i &&& mk l h == mk l h)) l.length 0
theorem maskN_lt2 (n : Nat) (l : List Int) : ∀ m, m < 2 ^ n → (∀ x ∈ l, 0 ≤ x ∧ x ≤ (n : Int) - 1) → maskN m l < 2 ^ n := by
  induction l with
  | nil => intro m hm _; exact hm
  | cons x l ih =>
    intro m hm h
    refine ih _ ?_ (fun y hy => h y (List.mem_cons_of_mem _ hy))
    have hx := h x (List.mem_cons_self ..)
    exact Nat.or_lt_two_pow hm (Nat.pow_lt_pow_right (by decide) (by omega))
def SetsOk (m : Int) (l : List (List Int)) : Prop := (1 ≤ m ∧ m ≤ 9) ∧ ∀ x ∈ l, isSetB x m = true ∧ x.length ≤ 1048576
theorem SetsOk.elem {m : Int} {l : List (List Int)} (h : SetsOk m l) {x : List Int} (hx : x ∈ l) : ∀ y ∈ x, 0 ≤ y ∧ y ≤ (9 : Nat) - 1 := fun y hy => by
  have := isSetB_mem (h.2 x hx).1 y hy
  have := h.1
  omega
theorem SetsOk.lt {m : Int} {l : List (List Int)} (h : SetsOk m l) {i : Nat} (hi : i < l.length) : mk l i < 512 := by
  unfold mk
  rw [getD_get hi]
  exact maskN_lt2 9 _ 0 (by decide) (h.elem (List.getElem_mem hi))
theorem SetsOk.masks {m : Int} {l : List (List Int)} (h : SetsOk m l) {i : Nat} (hi : i < l.length) : Ev (fun k => impl_maskOf.f k l[i]) (mk l i : Int) ∧ Ev (fun k => spec_voBits.f k l[i]) (mk l i : Int) := by
  have hx := List.getElem_mem hi
  have := maskOf_ev l[i] (Nat.le_trans (h.2 _ hx).2 (by decide)) (fun y hy => by have := h.elem hx y hy; omega)
  unfold mk
  rw [getD_get hi]
  exact this
theorem and_eq_nat {a b c : Nat} (ha : a < 512) (hb : b < 512) : (Go.bits .and .i64 (a : Int) (b : Int) = (c : Int)) ↔ ((a &&& b == c) = true) := by
  rw [and_nat a b (by omega) (by omega), beq_iff_eq]
  omega
theorem wrap_pred2 {i : Nat} (h : i < 1152921504606846976) (h0 : 0 < i) : wrap64 ((i : Int) - 1) = ((i - 1 : Nat) : Int) := by unfold wrap64; omega
def gmOk (m : Int) (l : List (List Int)) : Bool := inB m 1 9 && (decide (l ≠ []) && ((l.all fun s => decide (s ≠ []) && isSetB s m) && allR (fun i => rises l i && apartI l i) l.length 0))
theorem SetsOk.of {m : Int} {l : List (List Int)} (hm : inB m 1 9 = true) (hs : (l.all fun s => decide (s ≠ []) && isSetB s m) = true) (hb : ∀ x ∈ l, x.length ≤ 1048576) : SetsOk m l := by
  refine ⟨inB_iff.1 hm, fun x hx => ⟨?_, hb x hx⟩⟩
  have := List.all_eq_true.1 hs x hx
  rw [Bool.and_eq_true] at this
  exact this.2
def chains9 : List (List Nat) := [[0, 1, 3, 7, 15, 31, 63, 127, 255, 511], [2, 6, 14, 30, 62, 126, 254, 510], [4, 5, 13, 29, 61, 125, 253, 509], [8, 9, 11, 27, 59, 123, 251, 507], [16, 17, 19, 23, 55, 119, 247, 503], [32, 33, 35, 39, 47, 111, 239, 495], [64, 65, 67, 71, 79, 95, 223, 479], [128, 129, 131, 135, 143, 159, 191, 447], [256, 257, 259, 263, 271, 287, 319, 383], [10, 26, 58, 122, 250, 506], [12, 28, 60, 124, 252, 508], [18, 22, 54, 118, 246, 502], [20, 21, 53, 117, 245, 501], [24, 25, 57, 121, 249, 505], [34, 38, 46, 110, 238, 494], [36, 37, 45, 109, 237, 493], [40, 41, 43, 107, 235, 491], [48, 49, 51, 115, 243, 499], [66, 70, 78, 94, 222, 478], [68, 69, 77, 93, 221, 477], [72, 73, 75, 91, 219, 475], [80, 81, 83, 87, 215, 471], [96, 97, 99, 103, 231, 487], [130, 134, 142, 158, 190, 446], [132, 133, 141, 157, 189, 445], [136, 137, 139, 155, 187, 443], [144, 145, 147, 151, 183, 439], [160, 161, 163, 167, 175, 431], [192, 193, 195, 199, 207, 463], [258, 262, 270, 286, 318, 382], [260, 261, 269, 285, 317, 381], [264, 265, 267, 283, 315, 379], [272, 273, 275, 279, 311, 375], [288, 289, 291, 295, 303, 367], [320, 321, 323, 327, 335, 351], [384, 385, 387, 391, 399, 415], [42, 106, 234, 490], [44, 108, 236, 492], [50, 114, 242, 498], [52, 116, 244, 500], [56, 120, 248, 504], [74, 90, 218, 474], [76, 92, 220, 476], [82, 86, 214, 470], [84, 85, 213, 469], [88, 89, 217, 473], [98, 102, 230, 486], [100, 101, 229, 485], [104, 105, 233, 489], [112, 113, 241, 497], [138, 154, 186, 442], [140, 156, 188, 444], [146, 150, 182, 438], [148, 149, 181, 437], [152, 153, 185, 441], [162, 166, 174, 430], [164, 165, 173, 429], [168, 169, 171, 427], [176, 177, 179, 435], [194, 198, 206, 462], [196, 197, 205, 461], [200, 201, 203, 459], [208, 209, 211, 467], [224, 225, 227, 483], [266, 282, 314, 378], [268, 284, 316, 380], [274, 278, 310, 374], [276, 277, 309, 373], [280, 281, 313, 377], [290, 294, 302, 366], [292, 293, 301, 365], [296, 297, 299, 363], [304, 305, 307, 371], [322, 326, 334, 350], [324, 325, 333, 349], [328, 329, 331, 347], [336, 337, 339, 343], [352, 353, 355, 359], [386, 390, 398, 414], [388, 389, 397, 413], [392, 393, 395, 411], [400, 401, 403, 407], [416, 417, 419, 423], [448, 449, 451, 455], [170, 426], [172, 428], [178, 434], [180, 436], [184, 440], [202, 458], [204, 460], [210, 466], [212, 468], [216, 472], [226, 482], [228, 484], [232, 488], [240, 496], [298, 362], [300, 364], [306, 370], [308, 372], [312, 376], [330, 346], [332, 348], [338, 342], [340, 341], [344, 345], [354, 358], [356, 357], [360, 361], [368, 369], [394, 410], [396, 412], [402, 406], [404, 405], [408, 409], [418, 422], [420, 421], [424, 425], [432, 433], [450, 454], [452, 453], [456, 457], [464, 465], [480, 481]]
set_option maxRecDepth 100000 in
theorem chains9_len : chains9.length = 126 := by kernel_rfl
set_option maxRecDepth 100000 in
theorem chains9_all : ((List.range 512).all fun m => chains9.any fun c => c.contains m) = true := by kernel_rfl
set_option maxRecDepth 100000 in
theorem chains9_each : (chains9.all fun c => c.all fun a => c.all fun b => (a &&& b == a) || (a &&& b == b)) = true := by kernel_rfl
theorem pigeon : ∀ (n : Nat) (l : List Nat), l.Nodup → (∀ x ∈ l, x < n) → l.length ≤ n
  | 0, [], _, _ => Nat.le_refl _
  | 0, x :: l, _, h => absurd (h x (List.mem_cons_self ..)) (by omega)
  | n + 1, l, hd, h => by
    by_cases hm : n ∈ l
    · have := pigeon n (l.erase n) (hd.erase n) (fun x hx => by
        have h1 := h x (List.mem_of_mem_erase hx)
        have h2 : x ≠ n := fun e => (List.Nodup.not_mem_erase hd) (e ▸ hx)
        omega)
      rw [List.length_erase_of_mem hm] at this
      omega
    · exact Nat.le_trans (pigeon n l hd (fun x hx => by
        have h1 := h x hx
        have h2 : x ≠ n := fun e => hm (e ▸ hx)
        omega)) (Nat.le_succ n)
theorem antichain9 (l : List Nat) (h : ∀ x ∈ l, x < 512) (ha : l.Pairwise fun a b => a &&& b ≠ a ∧ a &&& b ≠ b) : l.length ≤ 126 := by
  have hf : ∀ m, m < 512 → ∃ c ∈ chains9, m ∈ c := fun m hm => by
    have := List.all_eq_true.1 chains9_all m (List.mem_range.2 hm)
    obtain ⟨c, hc, hmc⟩ := List.any_eq_true.1 this
    exact ⟨c, hc, by simpa using hmc⟩
  let f := fun m => chains9.findIdx fun c => c.contains m
  have hlt : ∀ m, m < 512 → f m < 126 := fun m hm => by
    obtain ⟨c, hc, hmc⟩ := hf m hm
    rw [← chains9_len]
    exact List.findIdx_lt_length_of_exists ⟨c, hc, by simpa using hmc⟩
  have heq : ∀ a b, a < 512 → b < 512 → f a = f b → a &&& b = a ∨ a &&& b = b := fun a b hA hB e => by
    have la : f a < chains9.length := by rw [chains9_len]; exact hlt a hA
    have lb : f b < chains9.length := by rw [chains9_len]; exact hlt b hB
    have h1 : (chains9[f a]).contains a = true := List.findIdx_getElem (w := la)
    have h2 : (chains9[f b]).contains b = true := List.findIdx_getElem (w := lb)
    have h3 : chains9[f b] = chains9[f a] := by simp only [e]
    rw [h3] at h2
    have := List.all_eq_true.1 (List.all_eq_true.1 (List.all_eq_true.1 chains9_each _ (List.getElem_mem la)) a (by simpa using h1)) b (by simpa using h2)
    simpa using this
  have hn : (l.map f).Nodup := by
    rw [List.Nodup, List.pairwise_map]
    refine ha.imp_of_mem fun {a b} hA hB hab e => ?_
    rcases heq a b (h a hA) (h b hB) e with h1 | h1
    · exact hab.1 h1
    · exact hab.2 h1
  have := pigeon 126 (l.map f) hn (fun x hx => by
    obtain ⟨m, hm, rfl⟩ := List.mem_map.1 hx
    exact hlt m (h m hm))
  rwa [List.length_map] at this
theorem areSets_ev (l : List (List Int)) (n : Int) (hn : -1000000 ≤ n ∧ n ≤ 1000000) (hl : ∀ x ∈ l, x.length ≤ 1048576) : Ev (fun k => impl_areSets.f k l n) (l.all fun s => decide (s ≠ []) && isSetB s n) := by
  unfold impl_areSets.f
  refine ev_eqv (Ev.bind (ev_anyO (fun k => impl_areSets_1.f k n) (fun s => !(decide (s ≠ []) && isSetB s n)) l (fun x hx => ?_)) (Ev.now _)) (any_not_all _ _)
  unfold impl_areSets_1.f
  by_cases h : x = []
  · subst h; exact ev_pos (by simp) (Ev.now _)
  · have : x.length ≠ 0 := fun e => h (List.length_eq_zero_iff.1 e)
    refine ev_neg (by omega) (ev_eqv (Ev.bind (isSet_ev x n hn (Nat.le_trans (hl x hx) (by decide))) (Ev.now _)) ?_)
    rw [decide_eq_true h, Bool.true_and]
theorem IsGame_l0 (m : Int) (l : List (List Int)) (hl : l.length ≤ 1048576) (h : SetsOk m l) : Ev (fun k => impl_IsGame.l0 k l (l.length : Int) 0 m l) (allR (fun i => rises l i && apartI l i) l.length 0) := by
  refine ev_range l.length (fun k i => impl_IsGame.l0 k l (l.length : Int) (i : Int) m l) (fun i => allR (fun i => rises l i && apartI l i) l.length i) ?_ ?_ 0 (Nat.zero_le _)
  · refine ev_succ ?_
    simp only [impl_IsGame.l0]
    exact ev_neg (by omega) (ev_eqv (Ev.now _) (allR_end _ _).symm)
  · intro i hi ih
    rw [allR_step _ _ _ hi]
    have inner : rises l i = true → Ev (fun k => impl_IsGame.l1 k (i : Int) l[i] l (l.length : Int) (i : Int) l (l.length : Int) 0 m l) ((rises l i && apartI l i) && allR (fun i => rises l i && apartI l i) l.length (i + 1)) := by
      intro hr
      rw [hr, Bool.true_and]
      refine ev_range l.length (fun k h => impl_IsGame.l1 k (i : Int) l[i] l (l.length : Int) (i : Int) l (l.length : Int) (h : Int) m l) (fun h => allR (fun h => decide (h = i) || !(mk l i &&& mk l h == mk l h)) l.length h && allR (fun i => rises l i && apartI l i) l.length (i + 1)) ?_ ?_ 0 (Nat.zero_le _)
      · refine ev_succ ?_
        simp only [impl_IsGame.l1]
        refine ev_neg (by omega) ?_
        rw [allR_end, Bool.true_and, wrap_succ hi (by omega)]
        exact ih
      · intro j hj ihj
        refine ev_succ ?_
        simp only [impl_IsGame.l1]
        refine ev_pos (by omega) (ev_pos (by omega) (ev_pos (by omega) ?_))
        rw [rdL1_get hj, wrap_succ hj (by omega), allR_step _ _ _ hj]
        by_cases e : j = i
        · refine ev_pos (by omega) ?_
          rw [decide_eq_true e]
          exact ihj
        · refine ev_neg (by omega) (Ev.bind (h.masks hi).1 (Ev.bind (h.masks hj).1 ?_))
          rw [decide_eq_false e]
          by_cases c : (mk l i &&& mk l j == mk l j) = true
          · refine ev_pos ((and_eq_nat (h.lt hi) (h.lt hj)).2 c) ?_
            rw [c]; exact Ev.now _
          · refine ev_neg (fun x => c ((and_eq_nat (h.lt hi) (h.lt hj)).1 x)) ?_
            rw [Bool.not_eq_true] at c
            rw [c]; exact ihj
    refine ev_succ ?_
    simp only [impl_IsGame.l0]
    refine ev_pos (by omega) (ev_pos (by omega) (ev_pos (by omega) ?_))
    rw [rdL1_get hi]
    by_cases h0 : i = 0
    · subst h0
      refine ev_neg (by omega) (ev_succ ?_)
      simp only [impl_IsGame.j2]
      exact ev_neg (by simp) (inner (by simp [rises]))
    · have hp : i - 1 < l.length := by omega
      refine ev_pos (by omega) ?_
      rw [wrap_pred2 (by omega) (by omega)]
      refine ev_pos (by omega) (ev_pos (by omega) ?_)
      rw [rdL1_get hp]
      refine Ev.bind (Compare_ev _ _ (Nat.le_trans (h.2 _ (List.getElem_mem hp)).2 (by decide))) (ev_succ ?_)
      simp only [impl_IsGame.j2]
      have hr : rises l i = lexB l[i - 1] l[i] := by unfold rises; rw [decide_eq_false h0, Bool.false_or, getD_get hp, getD_get hi]
      rw [cmpL_ge, ← hr]
      cases hq : rises l i
      · exact ev_pos (by simp) (Ev.now _)
      · refine ev_neg (by simp) ?_
        have := inner hq
        rw [hq] at this
        exact this
theorem gmGood_l0 (m : Int) (l : List (List Int)) (hl : l.length ≤ 1048576) (h : SetsOk m l) : Ev (fun k => spec_gmGood.l0 k l (l.length : Int) 0 m l) (allR (fun i => rises l i && apartS l i) l.length 0) := by
  refine ev_range l.length (fun k i => spec_gmGood.l0 k l (l.length : Int) (i : Int) m l) (fun i => allR (fun i => rises l i && apartS l i) l.length i) ?_ ?_ 0 (Nat.zero_le _)
  · refine ev_succ ?_
    simp only [spec_gmGood.l0]
    exact ev_neg (by omega) (ev_eqv (Ev.now _) (allR_end _ _).symm)
  · intro i hi ih
    rw [allR_step _ _ _ hi]
    have inner : rises l i = true → Ev (fun k => spec_gmGood.l1 k (mk l i : Int) l (l.length : Int) (i : Int) (l.take i) ((l.take i).length : Int) 0 m l) ((rises l i && apartS l i) && allR (fun i => rises l i && apartS l i) l.length (i + 1)) := by
      intro hr
      rw [hr, Bool.true_and]
      have ht : (l.take i).length = i := by rw [List.length_take]; omega
      rw [ht]
      refine ev_range i (fun k h => spec_gmGood.l1 k (mk l i : Int) l (l.length : Int) (i : Int) (l.take i) (i : Int) (h : Int) m l) (fun h => allR (fun h => !(mk l i &&& mk l h == mk l i) && !(mk l i &&& mk l h == mk l h)) i h && allR (fun i => rises l i && apartS l i) l.length (i + 1)) ?_ ?_ 0 (Nat.zero_le _)
      · refine ev_succ ?_
        simp only [spec_gmGood.l1]
        refine ev_neg (by omega) ?_
        rw [allR_end, Bool.true_and, wrap_succ hi (by omega)]
        exact ih
      · intro j hj ihj
        have hjl : j < l.length := by omega
        have hjt : j < (l.take i).length := by omega
        refine ev_succ ?_
        simp only [spec_gmGood.l1]
        refine ev_pos (by omega) (ev_pos (by omega) (ev_pos (by omega) ?_))
        rw [rdL1_get hjt, List.getElem_take, wrap_succ hj (by omega), allR_step _ _ _ hj]
        refine Ev.bind (h.masks hjl).2 ?_
        by_cases c : (mk l i &&& mk l j == mk l i) = true
        · refine ev_pos ((and_eq_nat (h.lt hi) (h.lt hjl)).2 c) ?_
          rw [c]; exact Ev.now _
        · refine ev_neg (fun x => c ((and_eq_nat (h.lt hi) (h.lt hjl)).1 x)) ?_
          rw [Bool.not_eq_true] at c
          rw [c]
          by_cases c2 : (mk l i &&& mk l j == mk l j) = true
          · refine ev_pos ((and_eq_nat (h.lt hi) (h.lt hjl)).2 c2) ?_
            rw [c2]; exact Ev.now _
          · refine ev_neg (fun x => c2 ((and_eq_nat (h.lt hi) (h.lt hjl)).1 x)) ?_
            rw [Bool.not_eq_true] at c2
            rw [c2]; exact ihj
    have step : rises l i = true → Ev (fun k => spec_gmGood.j1 k (i : Int) l[i] l (l.length : Int) (i : Int) false m l) ((rises l i && apartS l i) && allR (fun i => rises l i && apartS l i) l.length (i + 1)) := by
      intro hr
      refine ev_succ ?_
      simp only [spec_gmGood.j1]
      refine ev_neg (by simp) (Ev.bind (h.masks hi).2 (ev_pos (by omega) (ev_pos (by omega) ?_)))
      simp only [Int.toNat_natCast, Option.bind_some]
      exact inner hr
    refine ev_succ ?_
    simp only [spec_gmGood.l0]
    refine ev_pos (by omega) (ev_pos (by omega) (ev_pos (by omega) ?_))
    rw [rdL1_get hi]
    by_cases h0 : i = 0
    · subst h0
      exact ev_neg (by omega) (step (by simp [rises]))
    · have hp : i - 1 < l.length := by omega
      refine ev_pos (by omega) ?_
      rw [wrap_pred2 (by omega) (by omega)]
      refine ev_pos (by omega) (ev_pos (by omega) ?_)
      rw [rdL1_get hp]
      have hr : rises l i = lexB l[i - 1] l[i] := by unfold rises; rw [decide_eq_false h0, Bool.false_or, getD_get hp, getD_get hi]
      refine Ev.bind (voBefore_ev _ _ (Nat.le_trans (h.2 _ (List.getElem_mem hp)).2 (by decide))) ?_
      rw [← hr]
      cases hq : rises l i
      · refine ev_succ ?_
        simp only [spec_gmGood.j1]
        exact ev_pos (by simp) (Ev.now _)
      · have := step hq
        rw [hq] at this
        exact this
theorem apart_same (l : List (List Int)) : allR (fun i => rises l i && apartS l i) l.length 0 = allR (fun i => rises l i && apartI l i) l.length 0 := by
  rw [Bool.eq_iff_iff, allR_iff, allR_iff]
  constructor
  · intro h i hi
    have hi' := h i hi
    rw [Bool.and_eq_true] at hi' ⊢
    refine ⟨hi'.1, (allR_iff _ _).2 fun j hj => ?_⟩
    rcases Nat.lt_trichotomy j i with c | c | c
    · have := (allR_iff _ _).1 hi'.2 j c
      rw [Bool.and_eq_true] at this
      rw [this.2, Bool.or_true]
    · rw [decide_eq_true c, Bool.true_or]
    · have hj' := h j hj
      rw [Bool.and_eq_true] at hj'
      have := (allR_iff _ _).1 hj'.2 i c
      rw [Bool.and_eq_true] at this
      rw [Nat.and_comm, this.1, Bool.or_true]
  · intro h i hi
    have hi' := h i hi
    rw [Bool.and_eq_true] at hi' ⊢
    refine ⟨hi'.1, (allR_iff _ _).2 fun j hj => ?_⟩
    have hjl : j < l.length := by omega
    have h1 := (allR_iff _ _).1 hi'.2 j hjl
    have hj' := h j hjl
    rw [Bool.and_eq_true] at hj'
    have h2 := (allR_iff _ _).1 hj'.2 i hi
    rw [decide_eq_false (by omega), Bool.false_or] at h1 h2
    rw [Nat.and_comm] at h2
    rw [h1, h2]; rfl
theorem few_sets {m : Int} {l : List (List Int)} (h : SetsOk m l) (ha : allR (fun i => rises l i && apartI l i) l.length 0 = true) : l.length ≤ 126 := by
  have hlen : ((List.range l.length).map (mk l)).length = l.length := by simp
  rw [← hlen]
  refine antichain9 _ (fun x hx => ?_) ?_
  · obtain ⟨i, hi, rfl⟩ := List.mem_map.1 hx
    exact h.lt (List.mem_range.1 hi)
  · rw [List.pairwise_map]
    refine List.pairwise_lt_range.imp_of_mem fun {i j} hi hj hij => ?_
    have key : ∀ i j, i < l.length → j < l.length → i ≠ j → mk l i &&& mk l j ≠ mk l j := fun i j hi hj hne => by
      have := (allR_iff _ _).1 ha i hi
      rw [Bool.and_eq_true] at this
      have := (allR_iff _ _).1 this.2 j hj
      rw [decide_eq_false (by omega), Bool.false_or] at this
      simpa using this
    have hi' := List.mem_range.1 hi
    have hj' := List.mem_range.1 hj
    exact ⟨by rw [Nat.and_comm]; exact key j i hj' hi' (by omega), key i j hi' hj' (by omega)⟩
theorem IsGame_ev (m : Int) (l : List (List Int)) (hl : l.length ≤ 1048576) (hb : ∀ x ∈ l, x.length ≤ 1048576) : Ev (fun k => impl_IsGame.f k m l) (gmOk m l) := by
  unfold impl_IsGame.f gmOk
  simp only [within_eq, Option.bind_some]
  refine ev_bool (fun hm => ?_) (fun hm => ?_)
  · rw [hm]
    have hm' := inB_iff.1 hm
    by_cases h0 : l = []
    · subst h0
      refine ev_pos rfl (ev_succ ?_)
      simp only [impl_IsGame.j0]
      exact ev_pos (by simp) (Ev.now _)
    · have : l.length ≠ 0 := fun e => h0 (List.length_eq_zero_iff.1 e)
      refine ev_neg (by omega) (Ev.bind (areSets_ev l m (by omega) hb) (ev_succ ?_))
      rw [decide_eq_true h0]
      simp only [impl_IsGame.j0]
      cases hs : l.all fun s => decide (s ≠ []) && isSetB s m
      · exact ev_pos (by simp) (Ev.now _)
      · exact ev_neg (by simp) (IsGame_l0 m l hl (SetsOk.of hm hs hb))
  · rw [hm]
    refine ev_succ ?_
    simp only [impl_IsGame.j0]
    exact ev_pos (by simp) (Ev.now _)
theorem gmSets_l0 (m : Int) (l : List (List Int)) (hm : 1 ≤ m ∧ m ≤ 9) (hl : l.length ≤ 1048576) (hb : ∀ x ∈ l, x.length ≤ 1048576) : Ev (fun k => spec_gmSets.l0 k m l (l.length : Int) 0) (l.all fun s => decide (s ≠ []) && isSetB s m) := by
  have := ev_range l.length (fun k i => spec_gmSets.l0 k m l (l.length : Int) (i : Int)) (fun i => (l.drop i).all fun s => decide (s ≠ []) && isSetB s m) ?_ ?_ 0 (Nat.zero_le _)
  · simpa using this
  · refine ev_succ ?_
    simp only [spec_gmSets.l0]
    exact ev_neg (by omega) (ev_eqv (Ev.now _) (by rw [drop_end]; rfl))
  · intro i hi ih
    refine ev_succ ?_
    simp only [spec_gmSets.l0]
    refine ev_pos (by omega) (ev_pos (by omega) (ev_pos (by omega) ?_))
    rw [rdL1_get hi, wrap_succ hi (by omega), all_drop _ _ _ hi]
    by_cases h0 : l[i] = []
    · refine ev_pos (by rw [h0]; rfl) (ev_eqv (Ev.now _) ?_)
      rw [decide_eq_false (by simpa using h0)]; rfl
    · have : l[i].length ≠ 0 := fun e => h0 (List.length_eq_zero_iff.1 e)
      refine ev_neg (by omega) (Ev.bind (voSet_ev l[i] m (by omega) (Nat.le_trans (hb _ (List.getElem_mem hi)) (by decide))) ?_)
      rw [decide_eq_true h0, Bool.true_and]
      exact ev_bool (fun h => by rw [h]; exact ih) (fun h => by rw [h]; exact Ev.now _)
theorem gmGood_ev (m : Int) (l : List (List Int)) (hl : l.length ≤ 1048576) (hb : ∀ x ∈ l, x.length ≤ 1048576) : Ev (fun k => spec_gmGood.f k m l) (gmOk m l) := by
  unfold spec_gmGood.f
  have hS : Ev (fun k => spec_gmSets.f k m l 126) (inB m 1 9 && (inB (l.length : Int) 1 126 && l.all fun s => decide (s ≠ []) && isSetB s m)) := by
    unfold spec_gmSets.f
    simp only [l1In_eq, Option.bind_some]
    refine ev_bool (fun hm => ?_) (fun hm => ?_)
    · rw [hm]
      refine ev_succ ?_
      simp only [spec_gmSets.j0]
      cases hn : inB (l.length : Int) 1 126
      · exact ev_pos (by simp) (Ev.now _)
      · exact ev_neg (by simp) (gmSets_l0 m l (inB_iff.1 hm) hl hb)
    · rw [hm]
      refine ev_succ ?_
      simp only [spec_gmSets.j0]
      exact ev_pos (by simp) (Ev.now _)
  refine Ev.bind hS (ev_bool (fun h => ?_) (fun h => ?_))
  · rw [Bool.and_eq_true, Bool.and_eq_true] at h
    refine ev_eqv (gmGood_l0 m l hl (SetsOk.of h.1 h.2.2 hb)) ?_
    have hn := inB_iff.1 h.2.1
    unfold gmOk
    rw [h.1, h.2.2, decide_eq_true (show l ≠ [] from fun e => by subst e; simp at hn), apart_same]; rfl
  · refine ev_eqv (Ev.now _) ?_
    symm
    rw [← Bool.not_eq_true]
    intro hg
    unfold gmOk at hg
    rw [Bool.and_eq_true, Bool.and_eq_true, Bool.and_eq_true] at hg
    obtain ⟨hm, h0, hs, ha⟩ := hg
    have := few_sets (SetsOk.of hm hs hb) ha
    have h0' : l.length ≠ 0 := fun e => (of_decide_eq_true h0) (List.length_eq_zero_iff.1 e)
    rw [hm, hs, show inB (l.length : Int) 1 126 = true from inB_iff.2 (by omega)] at h
    cases h
def setsM (q : Nat → Bool) (N : Nat) : List (List Int) := ((List.range N).filter q).map setL
theorem setsM_len (q : Nat → Bool) (N : Nat) : (setsM q N).length ≤ N := by unfold setsM; rw [List.length_map]; exact Nat.le_trans (List.length_filter_le _ _) (by simp)
theorem setsM_mem {q : Nat → Bool} {N : Nat} {x : List Int} (h : x ∈ setsM q N) : x.length ≤ 16 := by
  obtain ⟨m, _, rfl⟩ := List.mem_map.1 h
  exact bitsL_len _ _ _
theorem setsM_succ (q : Nat → Bool) (i : Nat) : setsM q (i + 1) = setsM q i ++ if q i = true then [setL i] else [] := by
  unfold setsM
  rw [List.range_succ, List.filter_append, List.map_append]
  congr 1
  by_cases h : q i = true
  · rw [if_pos h, List.filter_cons_of_pos h]; rfl
  · rw [if_neg h, List.filter_cons_of_neg h]; rfl
theorem sets_fix (n : Int) (l : List Bool) (N : Nat) (hN : l.length = N) (hN2 : N ≤ 512) (p : Int → Option Bool) (q : Nat → Bool) (h : ∀ m, m < N → p (m : Int) = some (q m)) : Ev (fun k => impl_votes_sets.f k n l p) (sortL lexB (setsM q N)) := by
  unfold impl_votes_sets.f
  rw [hN]
  refine ev_range N (fun k i => impl_votes_sets.l0 p k (setsM q i) (N : Int) (i : Int)) (fun _ => sortL lexB (setsM q N)) ?_ ?_ 0 (Nat.zero_le _)
  · refine ev_succ ?_
    simp only [impl_votes_sets.l0]
    refine ev_neg (by omega) (ev_bindS (show sortSets.f (setsM q N) = some (sortL lexB (setsM q N)) by
      unfold sortSets.f
      rw [if_pos]
      rw [Bool.and_eq_true]
      exact ⟨decide_eq_true (by have := setsM_len q N; omega), List.all_eq_true.2 fun x hx => decide_eq_true (Nat.le_trans (setsM_mem hx) (by decide))⟩) (Ev.now _))
  · intro i hi ih
    refine ev_succ ?_
    simp only [impl_votes_sets.l0]
    rw [wrap_succ hi (by omega)]
    rw [setsM_succ] at ih
    refine ev_pos (by omega) (ev_bindS (h i hi) (ev_bool (fun e => ?_) (fun e => ?_)))
    · rw [if_pos e] at ih
      exact Ev.bind (setOf_ev i (by omega)) (ev_pos (by have := setsM_len q i; omega) ih)
    · rw [if_neg (by rw [e]; decide), List.append_nil] at ih
      exact ih
def mkSS : Int → List (List Int) → List (List Int)
  | _, [] => []
  | m, x :: xs => iotaL m x.length :: mkSS (m + x.length) xs
def totS : Int → List (List Int) → Int
  | m, [] => m
  | m, x :: xs => totS (m + x.length) xs
theorem mkSS_len : ∀ (l : List (List Int)) (m : Int), (mkSS m l).length = l.length
  | [], _ => rfl
  | x :: xs, m => by unfold mkSS; rw [List.length_cons, List.length_cons, mkSS_len xs]
theorem totS_ge : ∀ (l : List (List Int)) (m : Int), m ≤ totS m l
  | [], m => Int.le_refl m
  | x :: xs, m => by
    have := totS_ge xs (m + x.length)
    unfold totS
    omega
theorem markIntSS_l0 : ∀ (rest pre : List (List Int)) (m : Int), pre.length + rest.length ≤ 1048576 → (∀ x ∈ rest, x.length ≤ 1048576) → 0 ≤ m → m + 1048576 * rest.length ≤ 1152921504606846976 → Ev (fun k => laws_markIntSS.l0 k (pre ++ rest) m (pre.length : Int)) (totS m rest, pre ++ mkSS m rest)
  | [], pre, m, hl, hx, h0, hm => by
    refine ev_succ ?_
    simp only [laws_markIntSS.l0, List.append_nil]
    exact ev_neg (by omega) (ev_eqv (Ev.now _) (by simp [totS, mkSS]))
  | x :: xs, pre, m, hl, hx, h0, hm => by
    have hxl := hx x (List.mem_cons_self ..)
    rw [List.length_cons] at hl hm
    have ih := markIntSS_l0 xs (pre ++ [iotaL m x.length]) (m + x.length) (by rw [List.length_append, List.length_singleton]; omega) (fun y hy => hx y (List.mem_cons_of_mem _ hy)) (by omega) (by omega)
    refine ev_succ ?_
    simp only [laws_markIntSS.l0, Int.toNat_natCast]
    refine ev_pos (by rw [List.length_append, List.length_cons]; omega) (ev_pos (by omega) ?_)
    rw [show (pre ++ x :: xs).getD pre.length [] = x from by simp [List.getD_eq_getElem?_getD]]
    refine Ev.bind (markIntS_ev x m (by omega) (by omega)) ?_
    simp only [show (pre ++ x :: xs).set pre.length (iotaL m x.length) = (pre ++ [iotaL m x.length]) ++ xs from by simp, show wrap64 ((pre.length : Int) + 1) = (((pre ++ [iotaL m x.length]).length : Nat) : Int) from by rw [List.length_append, List.length_singleton]; unfold wrap64; omega]
    exact ev_eqv ih (by simp [totS, mkSS])
theorem markIntSS_ev (l : List (List Int)) (hl : l.length ≤ 1048576) (hx : ∀ x ∈ l, x.length ≤ 1048576) : Ev (fun k => laws_markIntSS.f k l 1) (totS 1 l, mkSS 1 l) := by
  have := markIntSS_l0 l [] 1 (by simpa using hl) hx (by decide) (by omega)
  exact this
theorem heldIntSS_l0 : ∀ (rest pre : List (List Int)) (m : Int), pre.length + rest.length ≤ 1048576 → (∀ x ∈ rest, x.length ≤ 1048576) → 0 ≤ m → m + 1048576 * rest.length ≤ 1152921504606846976 → Ev (fun k => laws_heldIntSS.l0 k (pre ++ mkSS m rest) m (pre.length : Int)) (totS m rest)
  | [], pre, m, hl, hx, h0, hm => by
    refine ev_succ ?_
    simp only [laws_heldIntSS.l0, mkSS, List.append_nil]
    exact ev_neg (by omega) (Ev.now _)
  | x :: xs, pre, m, hl, hx, h0, hm => by
    have hxl := hx x (List.mem_cons_self ..)
    rw [List.length_cons] at hl hm
    have ih := heldIntSS_l0 xs (pre ++ [iotaL m x.length]) (m + x.length) (by rw [List.length_append, List.length_singleton]; omega) (fun y hy => hx y (List.mem_cons_of_mem _ hy)) (by omega) (by omega)
    rw [show (pre ++ [iotaL m x.length]) ++ mkSS (m + x.length) xs = pre ++ mkSS m (x :: xs) from by simp [mkSS]] at ih
    have hlt : pre.length < (pre ++ mkSS m (x :: xs)).length := by rw [List.length_append, mkSS_len, List.length_cons]; omega
    refine ev_succ ?_
    simp only [laws_heldIntSS.l0]
    refine ev_pos (by omega) (ev_pos (by omega) ?_)
    rw [rdL1_get hlt, show (pre ++ mkSS m (x :: xs))[pre.length]'hlt = iotaL m x.length from by simp [mkSS]]
    refine Ev.bind (heldIntS_ev m x.length (by omega) (by omega)) (ev_neg (by omega) ?_)
    rw [show wrap64 ((pre.length : Int) + 1) = (((pre ++ [iotaL m x.length]).length : Nat) : Int) from by rw [List.length_append, List.length_singleton]; unfold wrap64; omega]
    exact ih
theorem eqSS_ev (a b : List (List Int)) (ha : a.length ≤ 1152921504606) (hx : ∀ x ∈ a, x.length ≤ 1152921504606) : Ev (fun k => laws_eqIntSS.f k a b) (decide (a = b)) := by
  unfold laws_eqIntSS.f
  by_cases hl : a.length = b.length
  · refine ev_pos (by omega) ?_
    refine ev_range a.length (fun k i => laws_eqIntSS.l0 k a b (i : Int)) (fun i => decide (a.drop i = b.drop i)) ?_ ?_ 0 (Nat.zero_le _)
    · refine ev_succ ?_
      simp only [laws_eqIntSS.l0]
      refine ev_neg (by omega) (ev_eqv (Ev.now _) ?_)
      rw [List.drop_of_length_le (by omega), List.drop_of_length_le (by omega)]; simp
    · intro i hi ih
      have h2 : i < b.length := by omega
      refine ev_succ ?_
      simp only [laws_eqIntSS.l0]
      refine ev_pos (by omega) (ev_pos (by omega) (ev_pos (by omega) ?_))
      rw [rdL1_get hi, rdL1_get h2, wrap_succ hi (by omega), eq_drop a b i hi h2]
      refine Ev.bind (eqIntS_ev a[i] b[i] (Nat.le_trans (hx _ (List.getElem_mem hi)) (by decide))) (ev_bool (fun h => ?_) (fun h => ?_))
      · rw [h]; exact ih
      · rw [h]; exact Ev.now _
  · refine ev_neg (by omega) (ev_eqv (Ev.now false) ?_)
    exact (decide_eq_false fun e => hl (by rw [e])).symm
theorem rdOf_get {xs : List Bool} {i : Nat} (h : i < xs.length) : rdOf false xs (i : Int) = xs[i] := by unfold rdOf; rw [Int.toNat_natCast]; exact getD_get h
def tabB (g : Nat → Bool) (n : Nat) : List Bool := (List.range n).map g
theorem tabB_len (g : Nat → Bool) (n : Nat) : (tabB g n).length = n := by simp [tabB]
theorem tabB_get (g : Nat → Bool) (n i : Nat) (h : i < (tabB g n).length) : (tabB g n)[i] = g i := by simp [tabB]
theorem tabB_succ (g : Nat → Bool) (n : Nat) : tabB g (n + 1) = tabB g n ++ [g n] := by simp [tabB, List.range_succ]
theorem tabB_set (g : Nat → Bool) (i : Nat) (b b' : Bool) (l : List Bool) : (tabB g i ++ b :: l).set i b' = tabB g i ++ b' :: l := by
  rw [List.set_append_right _ _ (by rw [tabB_len]; omega), tabB_len, Nat.sub_self]; rfl
theorem tabB_rd (g : Nat → Bool) (i : Nat) (b : Bool) (l : List Bool) : rdOf false (tabB g i ++ b :: l) (i : Int) = b := by
  rw [rdOf_get (by rw [List.length_append, tabB_len, List.length_cons]; omega), List.getElem_append_right (by rw [tabB_len]; omega)]
  simp [tabB_len]
theorem tabB_next (g : Nat → Bool) (i : Nat) (l : List Bool) : tabB g i ++ g i :: l = tabB g (i + 1) ++ l := by rw [tabB_succ, List.append_assoc]; rfl
def winB (l : List (List Int)) (i : Nat) : Bool := l.any fun s => i &&& maskN 0 s == maskN 0 s
def winT (m : Int) (l : List (List Int)) : List Bool := tabB (winB l) (2 ^ m.toNat)
theorem and_self_nat {a b : Nat} (ha : a < 512) (hb : b < 512) : (Go.bits .and .i64 (a : Int) (b : Int) == (b : Int)) = (a &&& b == b) := by
  rw [Bool.eq_iff_iff, ← and_eq_nat ha hb, beq_iff_eq]
theorem pow_le512 {m : Int} (h : 1 ≤ m ∧ m ≤ 9) : 2 ^ m.toNat ≤ 512 := Nat.pow_le_pow_right (n := 2) (by decide) (show m.toNat ≤ 9 by omega)
theorem voAll_nat {m : Int} (h : 1 ≤ m ∧ m ≤ 9) : spec_voAll.f m = some (((2 ^ m.toNat - 1 : Nat) : Int)) := by
  rw [voAll_eq m (by omega)]
  have : 1 ≤ 2 ^ m.toNat := Nat.one_le_two_pow
  congr 1
  rw [Int.ofNat_sub this]; simp
theorem gmWins_l1 (n i : Nat) (m : Int) (l : List (List Int)) (hl : l.length ≤ 1048576) (h : SetsOk m l) (hi : i < n) (hn : n ≤ 512) (r : List Bool) (ih : Ev (fun k => spec_gmWins.l0 k l (tabB (winB l) (i + 1) ++ List.replicate (n - (i + 1)) false) (n : Int) ((i + 1 : Nat) : Int)) r) :
    ∀ j, j ≤ l.length → Ev (fun k => spec_gmWins.l1 k l (tabB (winB l) i ++ ((l.take j).any fun s => i &&& maskN 0 s == maskN 0 s) :: List.replicate (n - (i + 1)) false) (i : Int) (n : Int) (i : Int) l (l.length : Int) (j : Int)) r := by
  have hlen : ∀ b : Bool, (tabB (winB l) i ++ b :: List.replicate (n - (i + 1)) false).length = n := fun b => by rw [List.length_append, tabB_len, List.length_cons, List.length_replicate]; omega
  refine ev_range l.length (fun k j => spec_gmWins.l1 k l (tabB (winB l) i ++ ((l.take j).any fun s => i &&& maskN 0 s == maskN 0 s) :: List.replicate (n - (i + 1)) false) (i : Int) (n : Int) (i : Int) l (l.length : Int) (j : Int)) (fun _ => r) ?_ ?_
  · refine ev_succ ?_
    simp only [spec_gmWins.l1]
    refine ev_neg (Int.lt_irrefl _) ?_
    rw [List.take_length, wrap_succ hi (Nat.le_trans hn (by decide))]
    have e : (l.any fun s => i &&& maskN 0 s == maskN 0 s) = winB l i := by unfold winB; rfl
    rw [e, tabB_next]
    exact ih
  · intro j hj ihj
    refine ev_succ ?_
    simp only [spec_gmWins.l1]
    refine ev_pos (by omega) (ev_pos (by omega) (ev_pos (by omega) ?_))
    rw [rdL1_get hj, wrap_succ hj (Nat.le_trans hl (by decide))]
    have hm := (h.masks hj).2
    have hk : mk l j = maskN 0 l[j] := by unfold mk; rw [getD_get hj]
    have hlt := h.lt hj
    rw [hk] at hm hlt
    refine Ev.bind hm (ev_pos (by omega) (ev_pos (by rw [hlen]; omega) ?_))
    rw [tabB_rd, Int.toNat_natCast, tabB_set, tabB_set, and_self_nat (by omega) hlt]
    rw [List.take_succ_eq_append_getElem hj, List.any_append] at ihj
    simp only [List.any_cons, List.any_nil, Bool.or_false] at ihj
    refine ev_bool (fun e => ?_) (fun e => ?_)
    · rw [e, Bool.true_or] at ihj; exact ihj
    · rw [e, Bool.false_or] at ihj; exact ihj
theorem gmWins_l0 (n : Nat) (m : Int) (l : List (List Int)) (hl : l.length ≤ 1048576) (h : SetsOk m l) (hn : n ≤ 512) :
    Ev (fun k => spec_gmWins.l0 k l (List.replicate n false) (n : Int) 0) (tabB (winB l) n) := by
  have := ev_range n (fun k i => spec_gmWins.l0 k l (tabB (winB l) i ++ List.replicate (n - i) false) (n : Int) (i : Int)) (fun _ => tabB (winB l) n) ?_ ?_ 0 (Nat.zero_le _)
  · simpa [tabB] using this
  · refine ev_succ ?_
    simp only [spec_gmWins.l0]
    exact ev_neg (Int.lt_irrefl _) (ev_eqv (Ev.now _) (by simp))
  · intro i hi ih
    refine ev_succ ?_
    simp only [spec_gmWins.l0]
    refine ev_pos (by omega) ?_
    have := gmWins_l1 n i m l hl h hi hn _ ih 0 (Nat.zero_le _)
    rw [show n - i = (n - (i + 1)) + 1 by omega, List.replicate_succ]
    simpa using this
theorem gmWins_ev (m : Int) (l : List (List Int)) (hl : l.length ≤ 1048576) (h : SetsOk m l) : Ev (fun k => spec_gmWins.f k m l) (winT m l) := by
  have hp := pow_le512 h.1
  have h1 : 1 ≤ 2 ^ m.toNat := Nat.one_le_two_pow
  have hw : wrap64 (((2 ^ m.toNat - 1 : Nat) : Int) + 1) = ((2 ^ m.toNat : Nat) : Int) := by
    generalize 2 ^ m.toNat = n at hp h1
    unfold wrap64; omega
  have hl0 := gmWins_l0 (2 ^ m.toNat) m l hl h hp
  unfold spec_gmWins.f winT
  refine ev_bindS (voAll_nat h.1) ?_
  generalize 2 ^ m.toNat = n at *
  rw [hw]
  have hn2 : (n : Int).toNat ≤ 281474976710656 := by rw [Int.toNat_natCast]; exact Nat.le_trans hp (by decide)
  refine ev_pos (Int.natCast_nonneg n) (ev_pos hn2 (ev_bindS rfl ?_))
  simp only [Int.toNat_natCast, List.length_replicate]
  exact hl0
def aN (a b : Nat) : Nat := a ^^^ (a &&& b)
def wOf (s t u : Nat) : Nat := (s &&& t) ||| aN (s ||| t) u
def betw (s t u : Nat) : Bool := u &&& (s &&& t) == s &&& t && aN u (s ||| t) == 0
theorem setL_mask_K : ((List.range 512).all fun m => maskN 0 (setL m) == m) = true := by decide +kernel
def ordL (N : Nat) : List Nat := (sortL lexB (setsM (fun _ => true) N)).map (maskN 0)
theorem setL_in_K : ((List.range 512).all fun m => (setL m).all fun x => decide (0 ≤ x ∧ x ≤ 15)) = true := by decide +kernel
theorem setL_mask (m : Nat) (hm : m < 512) : maskN 0 (setL m) = m := by
  have := List.all_eq_true.1 setL_mask_K m (List.mem_range.2 hm)
  simpa using this
theorem ordL_perm (N : Nat) (hN : N ≤ 512) : (ordL N).Perm (List.range N) := by
  unfold ordL
  refine ((sortL_perm lexB _).map (maskN 0)).trans ?_
  unfold setsM
  rw [List.filter_eq_self.2 (fun _ _ => rfl), List.map_map, show (List.range N).map (maskN 0 ∘ setL) = (List.range N).map id from List.map_congr_left fun m hm => setL_mask m (by have := List.mem_range.1 hm; omega), List.map_id]
theorem ordL_len (N : Nat) (hN : N ≤ 512) : (ordL N).length = N := by rw [(ordL_perm N hN).length_eq, List.length_range]
theorem ordL_lt (N : Nat) (hN : N ≤ 512) {x : Nat} (h : x ∈ ordL N) : x < N := List.mem_range.1 ((ordL_perm N hN).mem_iff.1 h)
def cI (l : List Nat) : List Int := l.map fun (m : Nat) => (m : Int)
theorem cI_len (l : List Nat) : (cI l).length = l.length := by unfold cI; rw [List.length_map]
theorem rd_cI {l : List Nat} {i : Nat} (h : i < l.length) : rd (cI l) (i : Int) = (l[i] : Int) := by
  rw [rd_get (by rw [cI_len]; exact h)]
  unfold cI
  rw [List.getElem_map]
theorem ordered_ev (g : Nat → Bool) (n : Nat) (hn : n ≤ 9) : Ev (fun k => impl_votes_ordered.f k (n : Int) (tabB g (2 ^ n))) (cI (ordL (2 ^ n))) := by
  have hN : 2 ^ n ≤ 512 := Nat.pow_le_pow_right (by decide) hn
  unfold impl_votes_ordered.f setsAll.f
  refine Ev.bind (sets_fix (n : Int) (tabB g (2 ^ n)) (2 ^ n) (tabB_len _ _) hN (fun _ => some true) (fun _ => true) (fun _ _ => rfl)) ?_
  have hp := sortL_perm lexB (setsM (fun _ => true) (2 ^ n))
  have hin : ∀ x ∈ sortL lexB (setsM (fun _ => true) (2 ^ n)), x.length ≤ 16 ∧ ∀ y ∈ x, 0 ≤ y ∧ y ≤ 15 := by
    intro x hx
    obtain ⟨m, hm, rfl⟩ := List.mem_map.1 (hp.mem_iff.1 hx)
    have hm2 := List.mem_range.1 (List.mem_filter.1 hm).1
    refine ⟨bitsL_len _ _ _, fun y hy => ?_⟩
    exact of_decide_eq_true (List.all_eq_true.1 (List.all_eq_true.1 setL_in_K m (List.mem_range.2 (by omega))) y hy)
  have hl : (sortL lexB (setsM (fun _ => true) (2 ^ n))).length ≤ 512 := by rw [hp.length_eq]; exact Nat.le_trans (setsM_len _ _) hN
  unfold ordL cI
  generalize sortL lexB (setsM (fun _ => true) (2 ^ n)) = S at hin hl
  rw [List.map_map]
  refine ev_range S.length (fun k i => impl_votes_ordered.l0 k ((S.take i).map ((fun (m : Nat) => (m : Int)) ∘ maskN 0)) S (S.length : Int) (i : Int)) (fun _ => S.map ((fun (m : Nat) => (m : Int)) ∘ maskN 0)) ?_ ?_ 0 (Nat.zero_le _)
  · refine ev_succ ?_
    simp only [impl_votes_ordered.l0, List.take_length]
    exact ev_neg (by omega) (Ev.now _)
  · intro i hi ih
    obtain ⟨h1, h2⟩ := hin _ (List.getElem_mem hi)
    refine ev_succ ?_
    simp only [impl_votes_ordered.l0]
    rw [rdL1_get hi, wrap_succ hi (by omega)]
    rw [List.take_succ_eq_append_getElem hi, List.map_append] at ih
    exact ev_pos (by omega) (ev_pos (by omega) (ev_pos (by omega) (Ev.bind (maskOf_ev S[i] (by omega) h2).1 (ev_pos (by rw [List.length_map, List.length_take]; omega) ih))))
theorem index_ex (l : List Int) (x : Int) (hl : l.length ≤ 1000) : ∃ v : Int, (v ≥ 0 ↔ x ∈ l) ∧ Ev (fun k => slices_Index_int_int.f k l x) v := by
  unfold slices_Index_int_int.f
  have key : ∀ d i : Nat, i + d = l.length → ∃ v : Int, (v ≥ 0 ↔ x ∈ l.drop i) ∧ Ev (fun k => slices_Index_int_int.l0 k l x (l.length : Int) (i : Int)) v := by
    intro d
    induction d with
    | zero =>
      intro i hi
      refine ⟨-1, ?_, ev_succ ?_⟩
      · rw [List.drop_of_length_le (by omega)]; simp
      · simp only [slices_Index_int_int.l0]
        exact ev_neg (by omega) (Ev.now _)
    | succ d ih =>
      intro i hi
      have hil : i < l.length := by omega
      obtain ⟨v, h1, h2⟩ := ih (i + 1) (by omega)
      rw [List.drop_eq_getElem_cons hil]
      by_cases e : x = l[i]
      · refine ⟨(i : Int), ?_, ev_succ ?_⟩
        · rw [e]; exact ⟨fun _ => List.mem_cons_self .., fun _ => by omega⟩
        · simp only [slices_Index_int_int.l0]
          rw [rd_get hil]
          exact ev_pos (by omega) (ev_pos (by omega) (ev_pos (by omega) (ev_pos e (Ev.now _))))
      · refine ⟨v, ?_, ev_succ ?_⟩
        · rw [h1, List.mem_cons]; simp [e]
        · simp only [slices_Index_int_int.l0]
          rw [rd_get hil, wrap_succ hil (by omega)]
          exact ev_pos (by omega) (ev_pos (by omega) (ev_pos (by omega) (ev_neg e h2)))
  obtain ⟨v, h1, h2⟩ := key l.length 0 (Nat.zero_add _)
  exact ⟨v, by simpa using h1, h2⟩
theorem contains_ev (l : List Nat) (x : Nat) (hl : l.length ≤ 1000) : Ev (fun k => slices_Contains_int_int.f k (cI l) (x : Int)) (l.contains x) := by
  obtain ⟨v, h1, h2⟩ := index_ex (cI l) (x : Int) (by rw [cI_len]; exact hl)
  unfold slices_Contains_int_int.f
  refine Ev.bind h2 (ev_eqv (Ev.now _) ?_)
  rw [Bool.eq_iff_iff, decide_eq_true_eq, h1, List.contains_iff_mem]
  unfold cI
  rw [List.mem_map]
  constructor
  · rintro ⟨a, ha, h⟩
    have e : a = x := by omega
    rw [← e]; exact ha
  · intro h
    exact ⟨x, h, rfl⟩
theorem wOf_lt {n s t u : Nat} (hs : s < 2 ^ n) (ht : t < 2 ^ n) : wOf s t u < 2 ^ n := by
  unfold wOf aN
  exact Nat.or_lt_two_pow (Nat.and_lt_two_pow _ ht) (Nat.xor_lt_two_pow (Nat.or_lt_two_pow hs ht) (Nat.lt_of_le_of_lt Nat.and_le_left (Nat.or_lt_two_pow hs ht)))
theorem andNot_nat (a b : Nat) (ha : a < 2 ^ 62) (hb : b < 2 ^ 62) : Go.bits .andNot .i64 (a : Int) (b : Int) = ((a ^^^ (a &&& b) : Nat) : Int) := by
  have ha' : a % 2 ^ 64 = a := Nat.mod_eq_of_lt (by omega)
  have hb' : b % 2 ^ 64 = b := Nat.mod_eq_of_lt (by omega)
  have e : a &&& (2 ^ 64 - (b + 1)) = a ^^^ (a &&& b) := by
    refine Nat.eq_of_testBit_eq fun i => ?_
    rw [Nat.testBit_and, Nat.testBit_xor, Nat.testBit_and, Nat.testBit_two_pow_sub_succ (by omega)]
    by_cases hi : i < 64
    · cases a.testBit i <;> cases b.testBit i <;> simp [hi]
    · have : a.testBit i = false := Nat.testBit_lt_two_pow (Nat.lt_of_lt_of_le (show a < 2 ^ 64 by omega) (Nat.pow_le_pow_right (by decide) (by omega)))
      simp [this]
  have h : Go.bits .andNot .i64 (a : Int) (b : Int) = IntKind.i64.wrap ((a &&& (2 ^ 64 - 1 - b % 2 ^ 64) : Nat) : Int) := by
    show IntKind.i64.wrap ((BitVec.ofInt 64 (a : Int) &&& ~~~ (BitVec.ofInt 64 (b : Int))).toNat : Int) = _
    rw [BitVec.ofInt_natCast, BitVec.ofInt_natCast, BitVec.toNat_and, BitVec.toNat_not, BitVec.toNat_ofNat, BitVec.toNat_ofNat, ha']
  rw [h, hb', show 2 ^ 64 - 1 - b = 2 ^ 64 - (b + 1) by omega, e]
  have : a ^^^ (a &&& b) < 2 ^ 62 := Nat.xor_lt_two_pow ha (Nat.and_lt_two_pow _ hb)
  exact wraps_i64 _ (by omega) (by exact_mod_cast this)
theorem rdOf_tab {g : Nat → Bool} {N i : Nat} (h : i < N) : rdOf false (tabB g N) (i : Int) = g i := by
  rw [rdOf_get (by rw [tabB_len]; exact h), tabB_get]
def posS (x : List Int) : List (List Int) → Nat
  | [] => 0
  | y :: ys => if lexB y x = true then posS x ys + 1 else 0
theorem posS_cons (x y : List Int) (ys : List (List Int)) : posS x (y :: ys) = if lexB y x = true then posS x ys + 1 else 0 := rfl
theorem insS_pos (x : List Int) : ∀ l, l.take (posS x l) ++ [x] ++ l.drop (posS x l) = insL lexB x l
  | [] => rfl
  | y :: ys => by
    have ih := insS_pos x ys
    unfold posS insL
    by_cases h : lexB y x = true
    · simp only [if_pos h, List.take_succ_cons, List.drop_succ_cons, List.cons_append]; rw [ih]
    · simp only [if_neg h]; rfl
theorem rdN_get {xs : List (List Int)} {i : Nat} (h : i < xs.length) : rdOf [] xs (i : Int) = xs[i] := by unfold rdOf; rw [Int.toNat_natCast]; exact getD_get h
theorem voSorted_l1 (x : List Int) (x8 : List (List Int)) (x9 x10 : Int) (l r : List (List Int)) (hl : l.length ≤ 1048576) (hx : ∀ y ∈ l, y.length ≤ 1048576) (ih : Ev (fun k => spec_voSorted.l0 k (insL lexB x l) x8 x9 (wrap64 (x10 + 1))) r) :
    ∀ (d i : Nat), i + d = l.length → i + posS x (l.drop i) = posS x l → Ev (fun k => spec_voSorted.l1 k l x (i : Int) x8 x9 x10) r
  | 0, i, hi, hp => by
    have hi' : i = l.length := by omega
    have e : posS x l = i := by rw [← hp, hi', List.drop_length]; rfl
    have ih' := ih
    rw [← insS_pos, e] at ih'
    refine ev_succ ?_
    simp only [spec_voSorted.l1, Option.bind_some, List.nil_append, List.length_nil, Nat.zero_add, Int.toNat_natCast, List.length_append, List.length_take, List.length_drop, List.length_cons]
    exact ev_neg (by omega) (ev_pos (by omega) (ev_pos (by omega) (ev_pos (by omega) (ev_pos (by omega) (ev_pos (by omega) ih')))))
  | d + 1, i, hi, hp => by
    have hlt : i < l.length := by omega
    refine ev_succ ?_
    simp only [spec_voSorted.l1, Option.bind_some, List.nil_append, List.length_nil, Nat.zero_add, Int.toNat_natCast, List.length_append, List.length_take, List.length_drop, List.length_cons]
    rw [List.drop_eq_getElem_cons hlt] at hp
    refine ev_pos (by omega) (ev_pos (by omega) ?_)
    rw [rdN_get hlt]
    refine Ev.bind (voBefore_ev _ _ (Nat.le_trans (hx _ (List.getElem_mem hlt)) (by decide))) (ev_bool (fun e => ?_) (fun e => ?_))
    · rw [wrap_succ hlt (by omega)]
      rw [posS_cons, if_pos e] at hp
      exact voSorted_l1 x x8 x9 x10 l r hl hx ih d (i + 1) (by omega) (by rw [← hp]; omega)
    · have e2 : posS x l = i := by
        rw [← hp, posS_cons, if_neg (by rw [e]; decide)]; rfl
      have ih' := ih
      rw [← insS_pos, e2] at ih'
      exact ev_pos (by omega) (ev_pos (by omega) (ev_pos (by omega) (ev_pos (by omega) ih')))
theorem foldS_step (l : List (List Int)) (i : Nat) (h : i < l.length) : (l.take (i + 1)).foldl (fun out x => insL lexB x out) [] = insL lexB l[i] ((l.take i).foldl (fun out x => insL lexB x out) []) := by
  rw [List.take_succ_eq_append_getElem h, List.foldl_append]; rfl
theorem voSorted_ev (l : List (List Int)) (hl : l.length ≤ 1048576) (hx : ∀ y ∈ l, y.length ≤ 1048576) : Ev (fun k => spec_voSorted.f k l) (sortL lexB l) := by
  unfold spec_voSorted.f
  have := ev_range l.length (fun k i => spec_voSorted.l0 k ((l.take i).foldl (fun out x => insL lexB x out) []) l (l.length : Int) (i : Int)) (fun _ => sortL lexB l) ?_ ?_ 0 (Nat.zero_le _)
  · exact this
  · refine ev_succ ?_
    simp only [spec_voSorted.l0, List.take_length]
    exact ev_neg (by omega) (Ev.now _)
  · intro i hi ih
    refine ev_succ ?_
    simp only [spec_voSorted.l0]
    refine ev_pos (by omega) (ev_pos (by omega) (ev_pos (by omega) ?_))
    rw [rdN_get hi]
    have hp := foldl_perm lexB (l.take i) []
    rw [List.append_nil] at hp
    have hlen : ((l.take i).foldl (fun out x => insL lexB x out) []).length ≤ l.length := by rw [hp.length_eq, List.length_take]; omega
    have := voSorted_l1 l[i] l (l.length : Int) (i : Int) _ (sortL lexB l) (Nat.le_trans hlen hl) (fun y hy => hx y (List.mem_of_mem_take (hp.mem_iff.1 hy))) ?_ _ 0 (Nat.zero_add _) (by simp)
    · exact this
    · rw [wrap_succ hi (by omega), ← foldS_step l i hi]; exact ih
def Fnd (f : Nat → Option (List (List Int) × List (List Int) × Bool)) (e : Bool) : Prop := ∃ r : List (List Int) × List (List Int) × Bool, r.2.2 = e ∧ Ev f r
section
variable {f g : Nat → Option (List (List Int) × List (List Int) × Bool)} {e : Bool}
theorem Fnd.pos {c : Prop} [Decidable c] (h : c) (k : Fnd f e) : Fnd (fun n => if c then f n else g n) e := by obtain ⟨r, h1, h2⟩ := k; exact ⟨r, h1, ev_pos h h2⟩
theorem Fnd.neg {c : Prop} [Decidable c] (h : ¬ c) (k : Fnd g e) : Fnd (fun n => if c then f n else g n) e := by obtain ⟨r, h1, h2⟩ := k; exact ⟨r, h1, ev_neg h h2⟩
theorem Fnd.succ (k : Fnd (fun n => g (n + 1)) e) : Fnd g e := by obtain ⟨r, h1, h2⟩ := k; exact ⟨r, h1, ev_succ h2⟩
theorem Fnd.bool {c : Bool} (h1 : c = true → Fnd f e) (h2 : c = false → Fnd g e) : Fnd (fun n => if c = true then f n else g n) e := by
  cases c
  · exact Fnd.neg (by decide) (h2 rfl)
  · exact Fnd.pos rfl (h1 rfl)
theorem Fnd.bind {α : Type} {x : Nat → Option α} {a : α} {f : Nat → α → Option (List (List Int) × List (List Int) × Bool)} (h : Ev x a) (k : Fnd (fun n => f n a) e) : Fnd (fun n => (x n).bind (f n)) e := by obtain ⟨r, h1, h2⟩ := k; exact ⟨r, h1, Ev.bind h h2⟩
end
theorem deTrade_l1 (x5 : List (List Int)) (h5 : x5.length ≤ 1000) (h5x : ∀ x ∈ x5, x.length ≤ 16) (ls : List Nat) (hl : ls.length ≤ 1000) (h : ∀ m ∈ ls, m < 512) :
    Ev (fun k => spec_deTrade.l1 k x5 [] (ls.map fun (m : Nat) => (m : Int)) ((ls.map fun (m : Nat) => (m : Int)).length : Int) 0) (sortL lexB x5, sortL lexB (ls.map setL)) := by
  rw [List.length_map]
  refine ev_range ls.length (fun k i => spec_deTrade.l1 k x5 ((ls.take i).map setL) (ls.map fun (m : Nat) => (m : Int)) (ls.length : Int) (i : Int)) (fun _ => (sortL lexB x5, sortL lexB (ls.map setL))) ?_ ?_ 0 (Nat.zero_le _)
  · refine ev_succ ?_
    simp only [spec_deTrade.l1, List.take_length]
    refine ev_neg (by omega) (Ev.bind (voSorted_ev x5 (by omega) (fun y hy => Nat.le_trans (h5x y hy) (by decide))) (Ev.bind (voSorted_ev _ (by rw [List.length_map]; omega) (fun y hy => ?_)) (Ev.now _)))
    obtain ⟨m, _, rfl⟩ := List.mem_map.1 hy
    exact Nat.le_trans (bitsL_len _ _ _) (by decide)
  · intro i hi ih
    refine ev_succ ?_
    simp only [spec_deTrade.l1, List.length_map]
    rw [rd_get (by rw [List.length_map]; exact hi), List.getElem_map, wrap_succ hi (by omega)]
    rw [List.take_succ_eq_append_getElem hi, List.map_append] at ih
    exact ev_pos (by omega) (ev_pos (by omega) (ev_pos (by omega) (Ev.bind (voList_ev _ (by have := h _ (List.getElem_mem hi); omega)) (ev_pos (by rw [List.length_take]; omega) ih))))
theorem deTrade_ev (ws ls : List Nat) (hw : ws.length ≤ 1000) (hl : ls.length ≤ 1000) (h1 : ∀ m ∈ ws, m < 512) (h2 : ∀ m ∈ ls, m < 512) :
    Ev (fun k => spec_deTrade.f k (ws.map fun (m : Nat) => (m : Int)) (ls.map fun (m : Nat) => (m : Int))) (sortL lexB (ws.map setL), sortL lexB (ls.map setL)) := by
  unfold spec_deTrade.f
  rw [List.length_map]
  refine ev_range ws.length (fun k i => spec_deTrade.l0 k (ls.map fun (m : Nat) => (m : Int)) ((ws.take i).map setL) (ws.map fun (m : Nat) => (m : Int)) (ws.length : Int) (i : Int)) (fun _ => (sortL lexB (ws.map setL), sortL lexB (ls.map setL))) ?_ ?_ 0 (Nat.zero_le _)
  · refine ev_succ ?_
    simp only [spec_deTrade.l0, List.take_length]
    refine ev_neg (by omega) (deTrade_l1 _ (by rw [List.length_map]; omega) (fun x hx => ?_) ls hl h2)
    obtain ⟨m, _, rfl⟩ := List.mem_map.1 hx
    exact bitsL_len _ _ _
  · intro i hi ih
    refine ev_succ ?_
    simp only [spec_deTrade.l0, List.length_map]
    rw [rd_get (by rw [List.length_map]; exact hi), List.getElem_map, wrap_succ hi (by omega)]
    rw [List.take_succ_eq_append_getElem hi, List.map_append] at ih
    exact ev_pos (by omega) (ev_pos (by omega) (ev_pos (by omega) (Ev.bind (voList_ev _ (by have := h1 _ (List.getElem_mem hi); omega)) (ev_pos (by rw [List.length_take]; omega) ih))))
def TwoL (b : List (List Int)) : Prop := b.length = 2 ∧ ∀ x ∈ b, x.length ≤ 16
theorem TwoL.of (s t : Nat) : TwoL (sortL lexB ([s, t].map setL)) := by
  have hp := sortL_perm lexB ([s, t].map setL)
  refine ⟨by rw [hp.length_eq]; rfl, fun x hx => ?_⟩
  obtain ⟨m, _, rfl⟩ := List.mem_map.1 (hp.mem_iff.1 hx)
  exact bitsL_len _ _ _
def resT (o : Option (List (List Int) × List (List Int))) : List (List Int) × List (List Int) × Bool := match o with
  | some p => (p.1, p.2, true)
  | none => ([], [], false)
def prT (s t u w : Nat) : List (List Int) × List (List Int) := ([setL s, setL t], [setL u, setL w])
def inQ (g : Nat → Bool) (Q : Nat → Nat → Nat → Nat → Bool) (s t u : Nat) (r : List Nat) : Bool := (!g u && betw s t u) && (!g (wOf s t u) && ((u :: r).contains (wOf s t u) && Q s t u (wOf s t u)))
def inT (g : Nat → Bool) (Q : Nat → Nat → Nat → Nat → Bool) (s t : Nat) (rest : Option (List (List Int) × List (List Int))) : List Nat → Option (List (List Int) × List (List Int))
  | [] => rest
  | u :: r => if inQ g Q s t u r = true then some (prT s t u (wOf s t u)) else inT g Q s t rest r
def outT (g : Nat → Bool) (Q : Nat → Nat → Nat → Nat → Bool) (O : List Nat) (s : Nat) (rest : Option (List (List Int) × List (List Int))) : List Nat → Option (List (List Int) × List (List Int))
  | [] => rest
  | t :: r => if (g s && g t) = true then inT g Q s t (outT g Q O s rest r) O else outT g Q O s rest r
def allT (g : Nat → Bool) (Q : Nat → Nat → Nat → Nat → Bool) (O : List Nat) : List Nat → Option (List (List Int) × List (List Int))
  | [] => none
  | s :: r => outT g Q O s (allT g Q O r) (s :: r)
theorem pairs_ev (s t u w : Nat) (h : s < 512 ∧ t < 512 ∧ u < 512 ∧ w < 512) : Ev (fun k => impl_pairs.f k [(s : Int), (t : Int)] [(u : Int), (w : Int)]) (prT s t u w) := by
  have w1 : wrap64 (0 + 1) = 1 := by unfold wrap64; omega
  have w2 : wrap64 (1 + 1) = 2 := by unfold wrap64; omega
  have r1 : rd [(s : Int), (t : Int)] 0 = (s : Int) := rfl
  have r2 : rd [(u : Int), (w : Int)] 0 = (u : Int) := rfl
  have r3 : rd [(s : Int), (t : Int)] 1 = (t : Int) := rfl
  have r4 : rd [(u : Int), (w : Int)] 1 = (w : Int) := rfl
  unfold impl_pairs.f
  refine ev_succ ?_
  simp only [impl_pairs.l0, w1, r1, r2]
  refine ev_pos (by simp) (ev_pos (by simp) (ev_pos (by simp) (Ev.bind (setOf_ev s (by omega)) (ev_pos (by simp) (ev_pos (by simp) (Ev.bind (setOf_ev u (by omega)) (ev_pos (by simp) (ev_succ ?_))))))))
  simp only [impl_pairs.l0, w2, r3, r4]
  refine ev_pos (by simp) (ev_pos (by simp) (ev_pos (by simp) (Ev.bind (setOf_ev t (by omega)) (ev_pos (by simp) (ev_pos (by simp) (Ev.bind (setOf_ev w (by omega)) (ev_pos (by simp) (ev_succ ?_))))))))
  simp only [impl_pairs.l0]
  exact ev_neg (by simp) (ev_eqv (Ev.now _) rfl)
section
variable (P : Int → Int → Int → Int → Option Bool) (Q : Nat → Nat → Nat → Nat → Bool) (hP : ∀ s t u w : Nat, s < 64 ∧ t < 64 ∧ u < 64 ∧ w < 64 → P s t u w = some (Q s t u w)) (g : Nat → Bool) (n : Nat) (hn : n ≤ 6) (O : List Nat) (hO : O.length ≤ 64) (hOl : ∀ x ∈ O, x < 2 ^ n)
section
variable (s t : Nat) (hs : s < 2 ^ n) (ht : t < 2 ^ n) (x18 x27 x26 : Int) (x25 : List Int)
include hP hn hO hOl hs ht
theorem ft_j4 (k : Nat) (hk : k < O.length) (x75 : Bool) (h75 : x75 = !(!g O[k] && betw s t O[k])) (rs : Option (List (List Int) × List (List Int)))
    (hnx : Ev (fun r => impl_votes_firstOfTwo.l2 P r (cI O) (s : Int) (t : Int) (cI O) (O.length : Int) x18 x25 x26 x27 (cI O) (O.length : Int) (wrap64 ((k : Int) + 1)) (n : Int) (tabB g (2 ^ n))) (resT rs)) :
    Ev (fun r => impl_votes_firstOfTwo.j4 P r (cI O) (s : Int) (t : Int) (k : Int) ((O[k] : Nat) : Int) (cI O) (O.length : Int) x18 x25 x26 x27 (cI O) (O.length : Int) (k : Int) x75 (n : Int) (tabB g (2 ^ n))) (resT (if inQ g Q s t O[k] (O.drop (k + 1)) = true then some (prT s t O[k] (wOf s t O[k])) else rs)) := by
  have hp : 2 ^ n ≤ 64 := Nat.le_trans (Nat.pow_le_pow_right (n := 2) (by decide) hn) (by decide)
  have hu : O[k] < 2 ^ n := hOl _ (List.getElem_mem hk)
  have hdr : O.drop k = O[k] :: O.drop (k + 1) := List.drop_eq_getElem_cons hk
  have hlen : (O.drop k).length ≤ 64 := by rw [List.length_drop]; omega
  have hd : (cI O).drop (k : Int).toNat = cI (O.drop k) := by unfold cI; rw [Int.toNat_natCast, List.map_drop]
  rw [hdr] at hd hlen
  unfold inQ
  generalize O[k] = u at hu h75 hd hlen
  have hw := wOf_lt (u := u) hs ht
  have hst : s ||| t < 2 ^ n := Nat.or_lt_two_pow hs ht
  have hsa : s &&& t < 2 ^ n := Nat.and_lt_two_pow _ ht
  have hx : aN (s ||| t) u < 2 ^ n := Nat.xor_lt_two_pow hst (Nat.lt_of_le_of_lt Nat.and_le_left hst)
  have e : Go.bits .or .i64 (Go.bits .and .i64 (s : Int) (t : Int)) (Go.bits .andNot .i64 (Go.bits .or .i64 (s : Int) (t : Int)) (u : Int)) = ((wOf s t u : Nat) : Int) := by
    rw [and_nat s t (by omega) (by omega), or_nat s t (by omega) (by omega), andNot_nat (s ||| t) u (by omega) (by omega)]
    exact or_nat (s &&& t) (aN (s ||| t) u) (by omega) (by omega)
  refine ev_succ ?_
  simp only [impl_votes_firstOfTwo.j4, e]
  refine ev_bool (fun e1 => ?_) (fun e1 => ?_)
  · refine ev_eqv hnx ?_
    rw [h75] at e1
    rw [show (!g u && betw s t u) = false from by cases h : (!g u && betw s t u) with
      | false => rfl
      | true => rw [h] at e1; cases e1]
    simp
  · have hb : (!g u && betw s t u) = true := by
      rw [h75] at e1
      cases h : (!g u && betw s t u) with
      | true => rfl
      | false => rw [h] at e1; cases e1
    rw [hb, Bool.true_and, tabB_len, rdOf_tab hw]
    refine ev_pos (Int.natCast_nonneg _) (ev_pos (Int.ofNat_lt.2 hw) (ev_bool (fun e2 => ?_) (fun e2 => ?_)))
    · exact ev_eqv hnx (by rw [e2]; simp)
    · rw [e2, Bool.not_false, Bool.true_and]
      refine ev_pos (by omega) (ev_pos (by rw [cI_len]; omega) ?_)
      rw [hd]
      refine Ev.bind (contains_ev (u :: O.drop (k + 1)) (wOf s t u) (by omega)) (ev_bool (fun e3 => ?_) (fun e3 => ?_))
      · rw [e3, Bool.true_and]
        refine ev_bindS (hP s t u (wOf s t u) ⟨by omega, by omega, by omega, by omega⟩) (ev_bool (fun e4 => ?_) (fun e4 => ?_))
        · rw [e4, if_pos rfl]
          exact Ev.bind (pairs_ev s t u (wOf s t u) ⟨by omega, by omega, by omega, by omega⟩) (Ev.now _)
        · exact ev_eqv hnx (by rw [e4]; simp)
      · exact ev_eqv hnx (by rw [e3]; simp)
theorem ft_l2 (rest : Option (List (List Int) × List (List Int))) (hnx : Ev (fun r => impl_votes_firstOfTwo.l1 P r (cI O) (s : Int) (cI O) (O.length : Int) x18 x25 x26 (wrap64 (x27 + 1)) (n : Int) (tabB g (2 ^ n))) (resT rest)) :
    ∀ d k : Nat, k + d = O.length → Ev (fun r => impl_votes_firstOfTwo.l2 P r (cI O) (s : Int) (t : Int) (cI O) (O.length : Int) x18 x25 x26 x27 (cI O) (O.length : Int) (k : Int) (n : Int) (tabB g (2 ^ n))) (resT (inT g Q s t rest (O.drop k))) := by
  have hp : 2 ^ n ≤ 64 := Nat.le_trans (Nat.pow_le_pow_right (n := 2) (by decide) hn) (by decide)
  intro d
  induction d with
  | zero =>
    intro k hk
    obtain rfl : k = O.length := by omega
    refine ev_succ ?_
    simp only [impl_votes_firstOfTwo.l2]
    rw [List.drop_length]
    exact ev_neg (Int.lt_irrefl _) hnx
  | succ d ih =>
    intro k hk
    have hkl : k < O.length := by omega
    have hih := ih (k + 1) (by omega)
    have hw : wrap64 ((k : Int) + 1) = ((k + 1 : Nat) : Int) := wrap_succ hkl (by omega)
    rw [← hw] at hih
    have hj := fun x75 h75 => ft_j4 P Q hP g n hn O hO hOl s t hs ht x18 x27 x26 x25 k hkl x75 h75 _ hih
    have hu : O[k] < 2 ^ n := hOl _ (List.getElem_mem hkl)
    have hr : rd (cI O) (k : Int) = ((O[k] : Nat) : Int) := rd_cI hkl
    rw [List.drop_eq_getElem_cons hkl]
    refine ev_succ ?_
    simp only [impl_votes_firstOfTwo.l2, hr, inT]
    generalize O[k] = u at hu hj
    have hst : s ||| t < 2 ^ n := Nat.or_lt_two_pow hs ht
    have hsa : s &&& t < 2 ^ n := Nat.and_lt_two_pow _ ht
    rw [tabB_len, rdOf_tab hu, cI_len]
    refine ev_pos (by omega) (ev_pos (by omega) (ev_pos (by omega) (ev_pos (Int.natCast_nonneg _) (ev_pos (Int.ofNat_lt.2 hu) (ev_bool (fun e1 => ?_) (fun e1 => ?_))))))
    · exact hj true (by rw [e1]; rfl)
    · rw [and_nat s t (by omega) (by omega), and_nat u (s &&& t) (by omega) (by omega), or_nat s t (by omega) (by omega), andNot_nat u (s ||| t) (by omega) (by omega)]
      by_cases e2 : u &&& (s &&& t) = s &&& t
      · refine ev_pos (by rw [e2]) (hj _ ?_)
        rw [e1]
        unfold betw aN
        rw [e2]
        simp only [Bool.not_false, Bool.true_and, beq_self_eq_true]
        rw [Bool.eq_iff_iff]
        simp
      · refine ev_neg (by omega) (hj true ?_)
        rw [e1]
        unfold betw
        rw [show (u &&& (s &&& t) == s &&& t) = false from by simpa using e2]
        rfl
end
include hP hn hO hOl
theorem ft_l1 (s : Nat) (hs : s < 2 ^ n) (x18 : Int) (T : List Nat) (hT : T.length ≤ 64) (hTl : ∀ x ∈ T, x < 2 ^ n) (rest : Option (List (List Int) × List (List Int)))
    (hnx : Ev (fun r => impl_votes_firstOfTwo.l0 P r (cI O) (cI O) (O.length : Int) (wrap64 (x18 + 1)) (n : Int) (tabB g (2 ^ n))) (resT rest)) :
    ∀ d j : Nat, j + d = T.length → Ev (fun r => impl_votes_firstOfTwo.l1 P r (cI O) (s : Int) (cI O) (O.length : Int) x18 (cI T) (T.length : Int) (j : Int) (n : Int) (tabB g (2 ^ n))) (resT (outT g Q O s rest (T.drop j))) := by
  intro d
  induction d with
  | zero =>
    intro j hj
    obtain rfl : j = T.length := by omega
    refine ev_succ ?_
    simp only [impl_votes_firstOfTwo.l1]
    rw [List.drop_length]
    exact ev_neg (Int.lt_irrefl _) hnx
  | succ d ih =>
    intro j hj
    have hjl : j < T.length := by omega
    have hih := ih (j + 1) (by omega)
    have hw : wrap64 ((j : Int) + 1) = ((j + 1 : Nat) : Int) := wrap_succ hjl (by omega)
    rw [← hw] at hih
    have ht : T[j] < 2 ^ n := hTl _ (List.getElem_mem hjl)
    have hr : rd (cI T) (j : Int) = ((T[j] : Nat) : Int) := rd_cI hjl
    have h2 : ∀ x44 : Bool, x44 = !(g s && g T[j]) → Ev (fun r => impl_votes_firstOfTwo.j2 P r (cI O) (s : Int) ((T[j] : Nat) : Int) (cI O) (O.length : Int) x18 (cI T) (T.length : Int) (j : Int) x44 (n : Int) (tabB g (2 ^ n))) (resT (outT g Q O s rest (T[j] :: T.drop (j + 1)))) := by
      intro x44 hx
      refine ev_succ ?_
      simp only [impl_votes_firstOfTwo.j2, outT]
      refine ev_bool (fun e => ?_) (fun e => ?_)
      · refine ev_eqv hih ?_
        have : (g s && g T[j]) = false := by
          rw [hx] at e
          cases h : (g s && g T[j]) with
          | false => rfl
          | true => rw [h] at e; cases e
        rw [this]; rfl
      · have : (g s && g T[j]) = true := by
          rw [hx] at e
          cases h : (g s && g T[j]) with
          | true => rfl
          | false => rw [h] at e; cases e
        rw [cI_len]
        refine ev_eqv (ft_l2 P Q hP g n hn O hO hOl s T[j] hs ht x18 (j : Int) (T.length : Int) (cI T) _ hih O.length 0 (Nat.zero_add _)) ?_
        rw [this, if_pos rfl, List.drop_zero]
    rw [List.drop_eq_getElem_cons hjl]
    refine ev_succ ?_
    simp only [impl_votes_firstOfTwo.l1, hr]
    rw [tabB_len, rdOf_tab hs, rdOf_tab ht, cI_len]
    refine ev_pos (by omega) (ev_pos (by omega) (ev_pos (by omega) (ev_pos (Int.natCast_nonneg _) (ev_pos (Int.ofNat_lt.2 hs) (ev_bool (fun e => ?_) (fun e => ?_))))))
    · exact ev_pos (Int.natCast_nonneg _) (ev_pos (Int.ofNat_lt.2 ht) (h2 _ (by rw [e]; simp)))
    · exact h2 _ (by rw [e]; simp)
theorem ft_l0 : ∀ d i : Nat, i + d = O.length → Ev (fun k => impl_votes_firstOfTwo.l0 P k (cI O) (cI O) (O.length : Int) (i : Int) (n : Int) (tabB g (2 ^ n))) (resT (allT g Q O (O.drop i))) := by
  intro d
  induction d with
  | zero =>
    intro i hi
    obtain rfl : i = O.length := by omega
    refine ev_succ ?_
    simp only [impl_votes_firstOfTwo.l0]
    rw [List.drop_length]
    exact ev_neg (Int.lt_irrefl _) (Ev.now _)
  | succ d ih =>
    intro i hi
    have hil : i < O.length := by omega
    have hih := ih (i + 1) (by omega)
    have hw : wrap64 ((i : Int) + 1) = ((i + 1 : Nat) : Int) := wrap_succ hil (by omega)
    rw [← hw] at hih
    have hr : rd (cI O) (i : Int) = ((O[i] : Nat) : Int) := rd_cI hil
    have hd : (cI O).drop (i : Int).toNat = cI (O.drop i) := by unfold cI; rw [Int.toNat_natCast, List.map_drop]
    have h1 := ft_l1 P Q hP g n hn O hO hOl O[i] (hOl _ (List.getElem_mem hil)) (i : Int) (O.drop i) (by rw [List.length_drop]; omega) (fun x hx => hOl x (List.mem_of_mem_drop hx)) _ hih (O.drop i).length 0 (Nat.zero_add _)
    refine ev_succ ?_
    simp only [impl_votes_firstOfTwo.l0, hr, hd, Option.bind_some, cI_len]
    refine ev_pos (by omega) (ev_pos (by omega) (ev_pos (by omega) (ev_pos (by omega) (ev_eqv h1 ?_))))
    rw [List.drop_zero, List.drop_eq_getElem_cons hil]
    rfl
end
theorem firstOf_ev (P : Int → Int → Int → Int → Option Bool) (Q : Nat → Nat → Nat → Nat → Bool) (hP : ∀ s t u w : Nat, s < 64 ∧ t < 64 ∧ u < 64 ∧ w < 64 → P s t u w = some (Q s t u w)) (g : Nat → Bool) (n : Nat) (hn : n ≤ 6) :
    Ev (fun k => impl_votes_firstOfTwo.f k (n : Int) (tabB g (2 ^ n)) P) (resT (allT g Q (ordL (2 ^ n)) (ordL (2 ^ n)))) := by
  have hp : 2 ^ n ≤ 64 := Nat.le_trans (Nat.pow_le_pow_right (n := 2) (by decide) hn) (by decide)
  have hO : (ordL (2 ^ n)).length ≤ 64 := by rw [ordL_len _ (by omega)]; omega
  have hOl : ∀ x ∈ ordL (2 ^ n), x < 2 ^ n := fun x hx => ordL_lt _ (by omega) hx
  unfold impl_votes_firstOfTwo.f
  refine Ev.bind (ordered_ev g n (by omega)) ?_
  rw [cI_len]
  generalize ordL (2 ^ n) = O at hO hOl
  have := ft_l0 P Q hP g n hn O hO hOl O.length 0 (Nat.zero_add _)
  rw [List.drop_zero] at this
  exact this
theorem any_eq_mem {α : Type} {p q : α → Bool} : ∀ {l : List α}, (∀ x ∈ l, p x = q x) → l.any p = l.any q
  | [], _ => rfl
  | x :: xs, h => by rw [List.any_cons, List.any_cons, h x (List.mem_cons_self ..), any_eq_mem fun y hy => h y (List.mem_cons_of_mem _ hy)]
theorem votesOf_l0 (p : Int → Option Bool) (q : Nat → Bool) (a n : Nat) (m : Int) (hn : n ≤ 1048576) (h : ∀ i, i < n → p (i : Int) = some (q i)) : Ev (fun k => impl_votesOf.l0 p k (n : Int) 0 m (List.replicate n false)) (m, tabB q n) := by
  have := ev_range n (fun k i => impl_votesOf.l0 p k (n : Int) (i : Int) m (tabB q i ++ List.replicate (n - i) false)) (fun _ => (m, tabB q n)) ?_ ?_ 0 (Nat.zero_le _)
  · simpa [tabB] using this
  · refine ev_succ ?_
    simp only [impl_votesOf.l0]
    exact ev_neg (Int.lt_irrefl _) (ev_eqv (Ev.now _) (by simp))
  · intro i hi ih
    refine ev_succ ?_
    simp only [impl_votesOf.l0]
    have hlen : (tabB q i ++ List.replicate (n - i) false).length = n := by rw [List.length_append, tabB_len, List.length_replicate]; omega
    refine ev_pos (by omega) (ev_bindS (h i hi) (ev_pos (by omega) (ev_pos (by rw [hlen]; omega) ?_)))
    rw [wrap_succ hi (Nat.le_trans hn (by decide)), Int.toNat_natCast, show n - i = (n - (i + 1)) + 1 by omega, List.replicate_succ, tabB_set, tabB_next]
    exact ih
theorem votesOf_ev (p : Int → Option Bool) (q : Nat → Bool) (m : Int) (hm : 0 ≤ m ∧ m ≤ 9) (h : ∀ i : Nat, i < 2 ^ m.toNat → p (i : Int) = some (q i)) : Ev (fun k => impl_votesOf.f k m p) (m, tabB q (2 ^ m.toNat)) := by
  have hp : 2 ^ m.toNat ≤ 512 := Nat.pow_le_pow_right (n := 2) (by decide) (show m.toNat ≤ 9 by omega)
  have hs : shl .i64 1 m = ((2 ^ m.toNat : Nat) : Int) := by rw [shl_one m (by omega)]; simp
  have hl0 := votesOf_l0 p q 0 (2 ^ m.toNat) m (by omega) h
  unfold impl_votesOf.f
  refine ev_pos hm.1 ?_
  rw [hs]
  generalize 2 ^ m.toNat = n at *
  have hn2 : (n : Int).toNat ≤ 281474976710656 := by rw [Int.toNat_natCast]; exact Nat.le_trans hp (by decide)
  refine ev_pos (Int.natCast_nonneg n) (ev_pos hn2 (ev_bindS rfl ?_))
  simp only [Int.toNat_natCast, List.length_replicate]
  exact hl0
theorem votesBy_l0 (m : Int) (l : List (List Int)) (hl : l.length ≤ 1048576) (h : SetsOk m l) : Ev (fun k => impl_votesBy.l0 k m l (l.length : Int) 0 []) (m, winT m l) := by
  have := ev_range l.length (fun k i => impl_votesBy.l0 k m l (l.length : Int) (i : Int) ((l.take i).map fun s => ((maskN 0 s : Nat) : Int))) (fun _ => (m, winT m l)) ?_ ?_ 0 (Nat.zero_le _)
  · simpa using this
  · refine ev_succ ?_
    simp only [impl_votesBy.l0]
    refine ev_neg (Int.lt_irrefl _) ?_
    rw [List.take_length]
    unfold votesOf_votesBy.f
    refine Ev.bind (votesOf_ev _ (winB l) m (by have := h.1; omega) (fun i hi => ?_)) (Ev.now _)
    have hp := pow_le512 h.1
    rw [anyO_some (q := fun x => Go.bits .and .i64 (i : Int) x == x) (fun _ _ => rfl), List.any_map]
    congr 1
    unfold winB
    refine any_eq_mem fun s hs => ?_
    obtain ⟨j, hj, rfl⟩ := List.mem_iff_getElem.1 hs
    have hlt := h.lt hj
    unfold mk at hlt
    rw [getD_get hj] at hlt
    exact and_self_nat (by omega) hlt
  · intro i hi ih
    refine ev_succ ?_
    simp only [impl_votesBy.l0]
    refine ev_pos (by omega) (ev_pos (by omega) (ev_pos (by omega) ?_))
    rw [rdL1_get hi, wrap_succ hi (Nat.le_trans hl (by decide))]
    have hm := (h.masks hi).1
    have hk : mk l i = maskN 0 l[i] := by unfold mk; rw [getD_get hi]
    rw [hk] at hm
    refine Ev.bind hm (ev_pos (by rw [List.length_map, List.length_take]; omega) ?_)
    rw [List.take_succ_eq_append_getElem hi, List.map_append] at ih
    exact ih
theorem votesBy_ev (m : Int) (l : List (List Int)) (hl : l.length ≤ 1048576) (h : SetsOk m l) : Ev (fun k => impl_votesBy.f k m l) (m, winT m l) := by
  unfold impl_votesBy.f
  exact votesBy_l0 m l hl h
theorem Game_votes_ev (m : Int) (l : List (List Int)) (hl : l.length ≤ 1048576) (h : SetsOk m l) : Ev (fun k => impl_Game_votes.f k m l) (m, winT m l) := by
  unfold impl_Game_votes.f
  exact Ev.bind (votesBy_ev m l hl h) (Ev.now _)
theorem gmOk_sets {m : Int} {l : List (List Int)} (h : gmOk m l = true) (hb : ∀ x ∈ l, x.length ≤ 1048576) : SetsOk m l ∧ ∃ n : Nat, m = (n : Int) ∧ n ≤ 9 := by
  unfold gmOk at h
  rw [Bool.and_eq_true, Bool.and_eq_true, Bool.and_eq_true] at h
  have h1 := inB_iff.1 h.1
  obtain ⟨n, rfl⟩ := Int.eq_ofNat_of_zero_le (show 0 ≤ m by omega)
  exact ⟨SetsOk.of h.1 h.2.2.1 hb, n, rfl, by omega⟩
theorem winT_nat (n : Nat) (l : List (List Int)) : winT (n : Int) l = tabB (winB l) (2 ^ n) := by unfold winT; rw [Int.toNat_natCast]
theorem gmAllW_ev {n : Nat} {l : List (List Int)} (hl : l.length ≤ 1048576) (h : SetsOk (n : Int) l) : Ev (fun k => spec_gmAll.f k (n : Int) l) (tabB (winB l) (2 ^ n)) := by
  unfold spec_gmAll.f
  exact Ev.bind (gmWins_ev (n : Int) l hl h) (ev_eqv (Ev.now _) (winT_nat n l))
theorem votesW_ev {n : Nat} {l : List (List Int)} (hl : l.length ≤ 1048576) (h : SetsOk (n : Int) l) : Ev (fun k => impl_Game_votes.f k (n : Int) l) ((n : Int), tabB (winB l) (2 ^ n)) := by
  rw [← winT_nat]; exact Game_votes_ev (n : Int) l hl h
theorem szIntS_eq (l : List Int) (n : Nat) (hn : n ≤ 1048576) (hl : l.length ≤ 9223372036854775807) : ∃ q, laws_szIntS.f l (n : Int) = some q ∧ (¬ q < 0 → ∃ m : Nat, q = m ∧ m ≤ n ∧ l.length ≤ n) := by
  unfold laws_szIntS.f
  rw [wrap64_id (by omega)]
  by_cases h : (n : Int) - (l.length : Int) < 0
  · exact ⟨-1, by rw [if_pos h], fun h => absurd (by decide) h⟩
  · exact ⟨_, by rw [if_neg h], fun _ => ⟨n - l.length, by omega, by omega, by omega⟩⟩
theorem szIntSS_ev (l : List (List Int)) (n : Nat) (hn : n ≤ 1048576) (hl : l.length ≤ 9223372036854775807) (hx : ∀ x ∈ l, x.length ≤ 9223372036854775807) :
    ∃ q, Ev (fun k => laws_szIntSS.f k l (n : Int)) q ∧ (¬ q < 0 → ∃ m : Nat, q = m ∧ m ≤ n ∧ l.length ≤ n ∧ ∀ x ∈ l, x.length ≤ n) := by
  unfold laws_szIntSS.f
  rw [wrap64_id (by omega)]
  by_cases h : (n : Int) - (l.length : Int) < 0
  · exact ⟨-1, ev_pos h (Ev.now _), fun h => absurd (by decide) h⟩
  have key : ∀ (d i m : Nat), i + d = l.length → m ≤ n → ∃ q, Ev (fun k => laws_szIntSS.l0 k l (m : Int) (i : Int)) q ∧ (¬ q < 0 → ∃ m' : Nat, q = m' ∧ m' ≤ m ∧ ∀ x ∈ l.drop i, x.length ≤ n) := by
    intro d
    induction d with
    | zero =>
      intro i m hi hm
      refine ⟨m, ev_succ ?_, fun _ => ⟨m, rfl, Nat.le_refl _, fun x hx => ?_⟩⟩
      · simp only [laws_szIntSS.l0]; exact ev_neg (by omega) (Ev.now _)
      · rw [List.drop_of_length_le (by omega)] at hx; cases hx
    | succ d ih =>
      intro i m hi hm
      have h1 : i < l.length := by omega
      obtain ⟨q, hq, hq2⟩ := szIntS_eq l[i] m (by omega) (hx _ (List.getElem_mem h1))
      by_cases c : q < 0
      · refine ⟨-1, ev_succ ?_, fun h => absurd (by decide) h⟩
        simp only [laws_szIntSS.l0, rdL1_get h1, hq, Option.bind_some]
        exact ev_pos (by omega) (ev_pos (by omega) (ev_pos c (Ev.now _)))
      · obtain ⟨m', rfl, h2, h3⟩ := hq2 c
        obtain ⟨q2, e2, p2⟩ := ih (i + 1) m' (by omega) (by omega)
        refine ⟨q2, ev_succ ?_, fun hn2 => ?_⟩
        · simp only [laws_szIntSS.l0, rdL1_get h1, hq, Option.bind_some, wrap_succ (i := i) (n := 1048576) (by omega) (by decide)]
          exact ev_pos (by omega) (ev_pos (by omega) (ev_neg c e2))
        · obtain ⟨m'', r1, r2, r3⟩ := p2 hn2
          refine ⟨m'', r1, by omega, fun x hx => ?_⟩
          rw [List.drop_eq_getElem_cons h1] at hx
          rcases List.mem_cons.1 hx with rfl | hx
          · omega
          · exact r3 x hx
  obtain ⟨q, e, p⟩ := key l.length 0 (n - l.length) (by omega) (by omega)
  refine ⟨q, ev_neg h ?_, fun hq => ?_⟩
  · rw [show (n : Int) - (l.length : Int) = ((n - l.length : Nat) : Int) by omega]; exact e
  · obtain ⟨m, r1, r2, r3⟩ := p hq
    exact ⟨m, r1, by omega, by omega, by simpa using r3⟩
theorem szGame_ev (a : Int) (l : List (List Int)) (n : Nat) (hn : n ≤ 1048576) (hl : l.length ≤ 9223372036854775807) (hx : ∀ x ∈ l, x.length ≤ 9223372036854775807) :
    ∃ q, Ev (fun k => laws_szGame.f k a l (n : Int)) q ∧ (¬ q < 0 → ∃ m : Nat, q = m ∧ m ≤ n ∧ l.length ≤ n ∧ ∀ x ∈ l, x.length ≤ n) := by
  obtain ⟨q, e, p⟩ := szIntSS_ev l n hn hl hx
  unfold laws_szGame.f
  by_cases h : q < 0
  · exact ⟨-1, Ev.bind e (ev_pos h (Ev.now _)), fun h => absurd (by decide) h⟩
  · exact ⟨q, Ev.bind e (ev_neg h (Ev.now _)), p⟩
theorem toIntSS_ev (l : List (List Int)) (hl : l.length ≤ 1152921504606) (hx : ∀ x ∈ l, x.length ≤ 1152921504606) : Ev (fun k => laws_toIntSS.f k l) l := by
  unfold laws_toIntSS.f
  refine ev_pos (by omega) (ev_pos (by omega) ?_)
  rw [Int.toNat_natCast]
  have := ev_range l.length (fun k i => laws_toIntSS.l0 k l ((l.take i).map id ++ List.replicate (l.length - i) []) (i : Int)) (fun _ => l) ?_ ?_ 0 (Nat.zero_le _)
  · simpa using this
  · refine ev_succ ?_
    simp only [laws_toIntSS.l0]
    exact ev_neg (by omega) (ev_eqv (Ev.now _) (by simp))
  · intro i hi ih
    refine ev_succ ?_
    simp only [laws_toIntSS.l0]
    refine ev_pos (by omega) (ev_pos (by omega) ?_)
    rw [rdL1_get hi]
    refine Ev.bind (toIntS_ev l[i] (hx _ (List.getElem_mem hi))) (ev_pos (by rw [copy_len _ _ _ _ (by omega)]; omega) ?_)
    rw [wrap_succ hi (by omega), Int.toNat_natCast, show l[i] = id l[i] from rfl, set_copy id _ l i hi]
    exact ih
theorem toGame_ev (m : Int) (l : List (List Int)) (hl : l.length ≤ 1152921504606) (hx : ∀ x ∈ l, x.length ≤ 1152921504606) : Ev (fun k => laws_toGame.f k m l) (m, l) := by
  unfold laws_toGame.f
  exact Ev.bind (toIntSS_ev l hl hx) (Ev.now _)
theorem eqIntSS_ev (a b : List (List Int)) (ha : a.length ≤ 1152921504606) (hx : ∀ x ∈ a, x.length ≤ 1152921504606) : Ev (fun k => laws_eqIntSS.f k a b) (decide (a = b)) := by
  unfold laws_eqIntSS.f
  by_cases hl : a.length = b.length
  · refine ev_pos (by omega) ?_
    refine ev_range a.length (fun k i => laws_eqIntSS.l0 k a b (i : Int)) (fun i => decide (a.drop i = b.drop i)) ?_ ?_ 0 (Nat.zero_le _)
    · refine ev_succ ?_
      simp only [laws_eqIntSS.l0]
      refine ev_neg (by omega) (ev_eqv (Ev.now _) ?_)
      rw [List.drop_of_length_le (by omega), List.drop_of_length_le (by omega)]; simp
    · intro i hi ih
      have h2 : i < b.length := by omega
      refine ev_succ ?_
      simp only [laws_eqIntSS.l0]
      refine ev_pos (by omega) (ev_pos (by omega) (ev_pos (by omega) ?_))
      rw [rdL1_get hi, rdL1_get h2, wrap_succ hi (by omega), eq_drop a b i hi h2]
      refine Ev.bind (eqIntS_ev a[i] b[i] (Nat.le_trans (hx _ (List.getElem_mem hi)) (by decide))) (ev_bool (fun h => ?_) (fun h => ?_))
      · rw [h]; exact ih
      · rw [h]; exact Ev.now _
  · refine ev_neg (by omega) (ev_eqv (Ev.now false) ?_)
    exact (decide_eq_false fun e => hl (by rw [e])).symm
theorem eqGame_ev (m n : Int) (a b : List (List Int)) (ha : a.length ≤ 1152921504606) (hx : ∀ x ∈ a, x.length ≤ 1152921504606) : Ev (fun k => laws_eqGame.f k m a n b) (decide (m = n ∧ a = b)) := by
  unfold laws_eqGame.f
  by_cases hm : m = n
  · refine ev_pos hm (Ev.bind (eqIntSS_ev a b ha hx) (ev_bool (fun h => ev_eqv (Ev.now _) ?_) (fun h => ev_eqv (Ev.now _) ?_)))
    · exact (decide_eq_true ⟨hm, of_decide_eq_true h⟩).symm
    · exact (decide_eq_false fun e => of_decide_eq_false h e.2).symm
  · exact ev_neg hm (ev_eqv (Ev.now _) (decide_eq_false fun e => hm e.1).symm)
def sprd (m : Nat) : Nat := m % 2 + 4 * (m / 2 % 2) + 16 * (m / 4 % 2) + 64 * (m / 8 % 2) + 256 * (m / 16 % 2) + 1024 * (m / 32 % 2)
theorem spread_K : ((List.range 64).all fun a => (List.range 64).all fun b => spec_deSpread.f 20 [(a : Int), (b : Int)] == some ((sprd a + sprd b : Nat) : Int)) = true := by decide +kernel
theorem spread_ev (a b : Nat) (ha : a < 64) (hb : b < 64) : Ev (fun k => spec_deSpread.f k [(a : Int), (b : Int)]) ((sprd a + sprd b : Nat) : Int) := by
  have := List.all_eq_true.1 (List.all_eq_true.1 spread_K a (List.mem_range.2 ha)) b (List.mem_range.2 hb)
  exact Ev.of (spec_deSpread.mono _) (eq_of_beq this)
def le2 (a b : Nat) : Prop := lexB (setL b) (setL a) = false
theorem ordL_filter (q : Nat → Bool) (N : Nat) (hN : N ≤ 512) : (sortL lexB (setsM q N)).map (maskN 0) = (ordL N).filter q := by
  have hq : ∀ m, m < N → q (maskN 0 (setL m)) = q m := fun m hm => by rw [setL_mask m (by omega)]
  have e : (sortL lexB (setsM (fun _ => true) N)).filter (fun x => q (maskN 0 x)) = sortL lexB (setsM q N) := by
    refine sortL_eq lexB lexB_ntrans (fun _ _ => lexB_asymm) lexB_total ?_ ((sortL_sorted lexB lexB_ntrans (fun _ _ => lexB_asymm) _).filter _)
    refine ((sortL_perm lexB _).filter _).trans ?_
    unfold setsM
    rw [List.filter_eq_self.2 (fun _ _ => rfl), List.filter_map]
    rw [show (List.range N).filter ((fun x => q (maskN 0 x)) ∘ setL) = (List.range N).filter q from List.filter_congr (fun m hm => hq m (List.mem_range.1 hm))]
  rw [← e]
  unfold ordL
  rw [List.filter_map]
  rfl
theorem ordL_le2 (N : Nat) (hN : N ≤ 512) : (ordL N).Pairwise le2 := by
  unfold ordL
  rw [List.pairwise_map]
  refine List.Pairwise.imp_of_mem ?_ (sortL_sorted lexB lexB_ntrans (fun _ _ => lexB_asymm) (setsM (fun _ => true) N))
  intro x y hx hy h
  obtain ⟨a, ha, rfl⟩ := List.mem_map.1 ((sortL_perm lexB _).mem_iff.1 hx)
  obtain ⟨b, hb, rfl⟩ := List.mem_map.1 ((sortL_perm lexB _).mem_iff.1 hy)
  have ha2 := List.mem_range.1 (List.mem_filter.1 ha).1
  have hb2 := List.mem_range.1 (List.mem_filter.1 hb).1
  unfold le2
  rw [setL_mask a (by omega), setL_mask b (by omega)]
  exact h
theorem deSorted_ev (g : Nat → Bool) (n : Nat) (hn : n ≤ 9) (b : Bool) : Ev (fun k => spec_deSorted.f k (tabB g (2 ^ n)) b) (cI ((ordL (2 ^ n)).filter fun m => g m == b)) := by
  have hN : 2 ^ n ≤ 512 := Nat.pow_le_pow_right (by decide) hn
  unfold spec_deSorted.f
  rw [← ordL_filter _ _ hN, tabB_len]
  generalize 2 ^ n = N at hN
  refine ev_range N (fun k i => spec_deSorted.l0 k b (setsM (fun m => g m == b) i) (tabB g N) (N : Int) (i : Int)) (fun _ => cI ((sortL lexB (setsM (fun m => g m == b) N)).map (maskN 0))) ?_ ?_ 0 (Nat.zero_le _)
  · refine ev_succ ?_
    simp only [spec_deSorted.l0]
    have hl := setsM_len (fun m => g m == b) N
    refine ev_neg (by omega) (Ev.bind (voSorted_ev _ (by omega) (fun y hy => Nat.le_trans (setsM_mem hy) (by decide))) ?_)
    have hp := sortL_perm lexB (setsM (fun m => g m == b) N)
    have hin : ∀ x ∈ sortL lexB (setsM (fun m => g m == b) N), x.length ≤ 16 ∧ ∀ y ∈ x, 0 ≤ y ∧ y ≤ 15 := by
      intro x hx
      obtain ⟨m, hm, rfl⟩ := List.mem_map.1 (hp.mem_iff.1 hx)
      have hm2 := List.mem_range.1 (List.mem_filter.1 hm).1
      refine ⟨bitsL_len _ _ _, fun y hy => ?_⟩
      exact of_decide_eq_true (List.all_eq_true.1 (List.all_eq_true.1 setL_in_K m (List.mem_range.2 (by omega))) y hy)
    have hl2 : (sortL lexB (setsM (fun m => g m == b) N)).length ≤ 512 := by rw [hp.length_eq]; omega
    generalize sortL lexB (setsM (fun m => g m == b) N) = S at hin hl2
    unfold cI
    rw [List.map_map]
    refine ev_range S.length (fun k i => spec_deSorted.l1 k ((S.take i).map ((fun (m : Nat) => (m : Int)) ∘ maskN 0)) S (S.length : Int) (i : Int)) (fun _ => S.map ((fun (m : Nat) => (m : Int)) ∘ maskN 0)) ?_ ?_ 0 (Nat.zero_le _)
    · refine ev_succ ?_
      simp only [spec_deSorted.l1, List.take_length]
      exact ev_neg (by omega) (Ev.now _)
    · intro i hi ih
      obtain ⟨h1, h2⟩ := hin _ (List.getElem_mem hi)
      refine ev_succ ?_
      simp only [spec_deSorted.l1]
      rw [rdL1_get hi, wrap_succ hi (by omega)]
      rw [List.take_succ_eq_append_getElem hi, List.map_append] at ih
      exact ev_pos (by omega) (ev_pos (by omega) (ev_pos (by omega) (Ev.bind (maskOf_ev S[i] (by omega) h2).2 (ev_pos (by rw [List.length_map, List.length_take]; omega) ih))))
  · intro i hi ih
    refine ev_succ ?_
    simp only [spec_deSorted.l0]
    rw [wrap_succ hi (by omega), tabB_len, rdOf_tab hi]
    rw [setsM_succ] at ih
    refine ev_pos (by omega) (ev_pos (by omega) (ev_pos (by omega) (ev_bool (fun e => ?_) (fun e => ?_))))
    · rw [if_pos e] at ih
      exact Ev.bind (voList_ev i (by omega)) (ev_pos (by have := setsM_len (fun m => g m == b) i; omega) ih)
    · rw [if_neg (by rw [e]; decide), List.append_nil] at ih
      exact ih
theorem sort_two {a b : Nat} (h : le2 a b) : sortL lexB ([a, b].map setL) = [setL a, setL b] := by
  show insL lexB (setL b) [setL a] = _
  unfold insL
  cases e : lexB (setL a) (setL b) with
  | true => rfl
  | false =>
    rw [if_neg (by decide)]
    have := lexB_total _ _ e h
    rw [this]
theorem deTrade_le {s t u w : Nat} (h1 : le2 s t) (h2 : le2 u w) (h : s < 512 ∧ t < 512 ∧ u < 512 ∧ w < 512) : Ev (fun k => spec_deTrade.f k [(s : Int), (t : Int)] [(u : Int), (w : Int)]) (prT s t u w) := by
  have := deTrade_ev [s, t] [u, w] (by simp) (by simp) (fun m hm => by
    rcases List.mem_cons.1 hm with rfl | h3
    · omega
    · rw [List.mem_singleton] at h3; omega) (fun m hm => by
    rcases List.mem_cons.1 hm with rfl | h3
    · omega
    · rw [List.mem_singleton] at h3; omega)
  rw [sort_two h1, sort_two h2] at this
  exact this
theorem le2_head {a : Nat} {l : List Nat} (h : (a :: l).Pairwise le2) : ∀ b ∈ a :: l, le2 a b := by
  intro b hb
  rcases List.mem_cons.1 hb with rfl | hb
  · exact lexB_irrefl _
  · exact (List.pairwise_cons.1 h).1 b hb
def in3 (s t u : Nat) (rest : Option (List (List Int) × List (List Int))) : List Nat → Option (List (List Int) × List (List Int))
  | [] => rest
  | d :: r => if sprd u + sprd d = sprd s + sprd t then some (prT s t u d) else in3 s t u rest r
def in2 (s t : Nat) (rest : Option (List (List Int) × List (List Int))) : List Nat → Option (List (List Int) × List (List Int))
  | [] => rest
  | c :: r => in3 s t c (in2 s t rest r) (c :: r)
def in1 (L : List Nat) (s : Nat) (rest : Option (List (List Int) × List (List Int))) : List Nat → Option (List (List Int) × List (List Int))
  | [] => rest
  | b :: r => in2 s b (in1 L s rest r) L
def in0 (L : List Nat) : List Nat → Option (List (List Int) × List (List Int))
  | [] => none
  | a :: r => in1 L a (in0 L r) (a :: r)
section
variable (W L : List Nat) (hL : L.length ≤ 64) (hLl : ∀ x ∈ L, x < 64) (hLs : L.Pairwise le2)
section
variable (s t : Nat) (hs : s < 64) (ht : t < 64) (hst : le2 s t) (x21 x30 x29 : Int) (x28 : List Int)
include hL hLl hLs hs ht hst
omit hL hLl hLs in
theorem tw_l3 (u : Nat) (hu : u < 64) (x40 : Int) (T : List Nat) (hT : T.length ≤ 64) (hTl : ∀ x ∈ T, x < 64 ∧ le2 u x) (rest : Option (List (List Int) × List (List Int)))
    (hnx : Ev (fun k => spec_deTwo.l2 k (cI W) (cI L) (s : Int) (t : Int) ((sprd s + sprd t : Nat) : Int) (cI W) (W.length : Int) x21 x28 x29 x30 (cI L) (L.length : Int) (wrap64 (x40 + 1))) (resT rest)) :
    ∀ d j : Nat, j + d = T.length → Ev (fun k => spec_deTwo.l3 k (cI W) (cI L) (s : Int) (t : Int) ((sprd s + sprd t : Nat) : Int) (u : Int) (cI W) (W.length : Int) x21 x28 x29 x30 (cI L) (L.length : Int) x40 (cI T) (T.length : Int) (j : Int)) (resT (in3 s t u rest (T.drop j))) := by
  intro d
  induction d with
  | zero =>
    intro j hj
    obtain rfl : j = T.length := by omega
    refine ev_succ ?_
    simp only [spec_deTwo.l3]
    rw [List.drop_length]
    exact ev_neg (Int.lt_irrefl _) hnx
  | succ d ih =>
    intro j hj
    have hjl : j < T.length := by omega
    obtain ⟨hd, hud⟩ := hTl _ (List.getElem_mem hjl)
    have hih := ih (j + 1) (by omega)
    have hr : rd (cI T) (j : Int) = ((T[j] : Nat) : Int) := rd_cI hjl
    rw [List.drop_eq_getElem_cons hjl]
    refine ev_succ ?_
    simp only [spec_deTwo.l3, hr, in3]
    rw [cI_len, wrap_succ hjl (by omega)]
    refine ev_pos (by omega) (ev_pos (by omega) (ev_pos (by omega) (Ev.bind (spread_ev u T[j] hu hd) ?_)))
    by_cases e : sprd u + sprd T[j] = sprd s + sprd t
    · rw [if_pos e]
      refine ev_pos (by rw [e]) (Ev.bind (deTrade_le hst hud ⟨by omega, by omega, by omega, by omega⟩) (Ev.now _))
    · rw [if_neg e]
      exact ev_neg (by omega) hih
theorem tw_l2 (rest : Option (List (List Int) × List (List Int)))
    (hnx : Ev (fun k => spec_deTwo.l1 k (cI W) (cI L) (s : Int) (cI W) (W.length : Int) x21 x28 x29 (wrap64 (x30 + 1))) (resT rest)) :
    ∀ d j : Nat, j + d = L.length → Ev (fun k => spec_deTwo.l2 k (cI W) (cI L) (s : Int) (t : Int) ((sprd s + sprd t : Nat) : Int) (cI W) (W.length : Int) x21 x28 x29 x30 (cI L) (L.length : Int) (j : Int)) (resT (in2 s t rest (L.drop j))) := by
  intro d
  induction d with
  | zero =>
    intro j hj
    obtain rfl : j = L.length := by omega
    refine ev_succ ?_
    simp only [spec_deTwo.l2]
    rw [List.drop_length]
    exact ev_neg (Int.lt_irrefl _) hnx
  | succ d ih =>
    intro j hj
    have hjl : j < L.length := by omega
    have hu := hLl _ (List.getElem_mem hjl)
    have hih := ih (j + 1) (by omega)
    have hw : wrap64 ((j : Int) + 1) = ((j + 1 : Nat) : Int) := wrap_succ hjl (by omega)
    rw [← hw] at hih
    have hr : rd (cI L) (j : Int) = ((L[j] : Nat) : Int) := rd_cI hjl
    have hd : (cI L).drop (j : Int).toNat = cI (L.drop j) := by unfold cI; rw [Int.toNat_natCast, List.map_drop]
    have hdr : L.drop j = L[j] :: L.drop (j + 1) := List.drop_eq_getElem_cons hjl
    have hle : ∀ x ∈ L.drop j, x < 64 ∧ le2 L[j] x := fun x hx => ⟨hLl x (List.mem_of_mem_drop hx), le2_head (by rw [← hdr]; exact hLs.drop) x (by rw [← hdr]; exact hx)⟩
    have h3 := tw_l3 W L s t hs ht hst x21 x30 x29 x28 L[j] hu (j : Int) (L.drop j) (by rw [List.length_drop]; omega) hle _ hih (L.drop j).length 0 (Nat.zero_add _)
    rw [List.drop_zero] at h3
    refine ev_succ ?_
    simp only [spec_deTwo.l2, hr, hd, Option.bind_some, cI_len]
    refine ev_pos (by omega) (ev_pos (by omega) (ev_pos (by omega) (ev_pos (by omega) (ev_eqv h3 ?_))))
    rw [hdr]; rfl
end
include hL hLl hLs
theorem tw_l1 (s : Nat) (hs : s < 64) (x21 : Int) (T : List Nat) (hT : T.length ≤ 64) (hTl : ∀ x ∈ T, x < 64 ∧ le2 s x) (rest : Option (List (List Int) × List (List Int)))
    (hnx : Ev (fun k => spec_deTwo.l0 k (cI W) (cI L) (cI W) (W.length : Int) (wrap64 (x21 + 1))) (resT rest)) :
    ∀ d j : Nat, j + d = T.length → Ev (fun k => spec_deTwo.l1 k (cI W) (cI L) (s : Int) (cI W) (W.length : Int) x21 (cI T) (T.length : Int) (j : Int)) (resT (in1 L s rest (T.drop j))) := by
  intro d
  induction d with
  | zero =>
    intro j hj
    obtain rfl : j = T.length := by omega
    refine ev_succ ?_
    simp only [spec_deTwo.l1]
    rw [List.drop_length]
    exact ev_neg (Int.lt_irrefl _) hnx
  | succ d ih =>
    intro j hj
    have hjl : j < T.length := by omega
    obtain ⟨ht, hst⟩ := hTl _ (List.getElem_mem hjl)
    have hih := ih (j + 1) (by omega)
    have hw : wrap64 ((j : Int) + 1) = ((j + 1 : Nat) : Int) := wrap_succ hjl (by omega)
    rw [← hw] at hih
    have hr : rd (cI T) (j : Int) = ((T[j] : Nat) : Int) := rd_cI hjl
    have h2 := tw_l2 W L hL hLl hLs s T[j] hs ht hst x21 (j : Int) (T.length : Int) (cI T) _ hih L.length 0 (Nat.zero_add _)
    rw [List.drop_zero] at h2
    rw [List.drop_eq_getElem_cons hjl]
    refine ev_succ ?_
    simp only [spec_deTwo.l1, hr, cI_len, in1]
    exact ev_pos (by omega) (ev_pos (by omega) (ev_pos (by omega) (Ev.bind (spread_ev s T[j] hs ht) h2)))
theorem tw_l0 (hW : W.length ≤ 64) (hWl : ∀ x ∈ W, x < 64) (hWs : W.Pairwise le2) : ∀ d i : Nat, i + d = W.length → Ev (fun k => spec_deTwo.l0 k (cI W) (cI L) (cI W) (W.length : Int) (i : Int)) (resT (in0 L (W.drop i))) := by
  intro d
  induction d with
  | zero =>
    intro i hi
    obtain rfl : i = W.length := by omega
    refine ev_succ ?_
    simp only [spec_deTwo.l0]
    rw [List.drop_length]
    exact ev_neg (Int.lt_irrefl _) (Ev.now _)
  | succ d ih =>
    intro i hi
    have hil : i < W.length := by omega
    have hih := ih (i + 1) (by omega)
    have hw : wrap64 ((i : Int) + 1) = ((i + 1 : Nat) : Int) := wrap_succ hil (by omega)
    rw [← hw] at hih
    have hr : rd (cI W) (i : Int) = ((W[i] : Nat) : Int) := rd_cI hil
    have hd : (cI W).drop (i : Int).toNat = cI (W.drop i) := by unfold cI; rw [Int.toNat_natCast, List.map_drop]
    have hdr : W.drop i = W[i] :: W.drop (i + 1) := List.drop_eq_getElem_cons hil
    have hle : ∀ x ∈ W.drop i, x < 64 ∧ le2 W[i] x := fun x hx => ⟨hWl x (List.mem_of_mem_drop hx), le2_head (by rw [← hdr]; exact hWs.drop) x (by rw [← hdr]; exact hx)⟩
    have h1 := tw_l1 W L hL hLl hLs W[i] (hWl _ (List.getElem_mem hil)) (i : Int) (W.drop i) (by rw [List.length_drop]; omega) hle _ hih (W.drop i).length 0 (Nat.zero_add _)
    rw [List.drop_zero] at h1
    refine ev_succ ?_
    simp only [spec_deTwo.l0, hr, hd, Option.bind_some, cI_len]
    refine ev_pos (by omega) (ev_pos (by omega) (ev_pos (by omega) (ev_pos (by omega) (ev_eqv h1 ?_))))
    rw [hdr]; rfl
end
theorem deTwo_ev (g : Nat → Bool) (n : Nat) (hn : n ≤ 6) : Ev (fun k => spec_deTwo.f k (tabB g (2 ^ n))) (resT (in0 ((ordL (2 ^ n)).filter fun m => g m == false) ((ordL (2 ^ n)).filter fun m => g m == true))) := by
  have hp : 2 ^ n ≤ 64 := Nat.le_trans (Nat.pow_le_pow_right (n := 2) (by decide) hn) (by decide)
  have hO : (ordL (2 ^ n)).length ≤ 64 := by rw [ordL_len _ (by omega)]; omega
  have hOl : ∀ x ∈ ordL (2 ^ n), x < 64 := fun x hx => Nat.lt_of_lt_of_le (ordL_lt _ (by omega) hx) hp
  have hOs := ordL_le2 (2 ^ n) (by omega)
  unfold spec_deTwo.f
  refine Ev.bind (deSorted_ev g n (by omega) true) (Ev.bind (deSorted_ev g n (by omega) false) ?_)
  rw [cI_len]
  generalize ordL (2 ^ n) = O at hO hOl hOs
  have := tw_l0 (O.filter fun m => g m == true) (O.filter fun m => g m == false) (Nat.le_trans (List.length_filter_le _ _) hO) (fun x hx => hOl x (List.mem_filter.1 hx).1) (hOs.filter _) (Nat.le_trans (List.length_filter_le _ _) hO) (fun x hx => hOl x (List.mem_filter.1 hx).1) (hOs.filter _) _ 0 (Nat.zero_add _)
  rw [List.drop_zero] at this
  exact this
theorem sprd_K1 : ((List.range 64).all fun s => (List.range 64).all fun t => (List.range 64).all fun u => !betw s t u || sprd u + sprd (wOf s t u) == sprd s + sprd t) = true := by decide +kernel
def dA (v : Nat) : Nat := (if v % 4 = 2 then 1 else 0) + (if v / 4 % 4 = 2 then 2 else 0) + (if v / 16 % 4 = 2 then 4 else 0) + (if v / 64 % 4 = 2 then 8 else 0) + (if v / 256 % 4 = 2 then 16 else 0) + (if v / 1024 % 4 = 2 then 32 else 0)
def dB (v : Nat) : Nat := (if v % 4 = 0 then 0 else 1) + (if v / 4 % 4 = 0 then 0 else 2) + (if v / 16 % 4 = 0 then 0 else 4) + (if v / 64 % 4 = 0 then 0 else 8) + (if v / 256 % 4 = 0 then 0 else 16) + (if v / 1024 % 4 = 0 then 0 else 32)
theorem sprd_K2 : ((List.range 64).all fun s => (List.range 64).all fun t => dA (sprd s + sprd t) == s &&& t && dB (sprd s + sprd t) == s ||| t) = true := by decide +kernel
theorem betw_K : ((List.range 64).all fun u => (List.range 64).all fun w => betw u w u && wOf u w u == w) = true := by decide +kernel
theorem sprd_iff {s t u w : Nat} (hs : s < 64) (ht : t < 64) (hu : u < 64) (hw : w < 64) : sprd u + sprd w = sprd s + sprd t ↔ betw s t u = true ∧ w = wOf s t u := by
  constructor
  · intro h
    have h1 := List.all_eq_true.1 (List.all_eq_true.1 sprd_K2 s (List.mem_range.2 hs)) t (List.mem_range.2 ht)
    have h2 := List.all_eq_true.1 (List.all_eq_true.1 sprd_K2 u (List.mem_range.2 hu)) w (List.mem_range.2 hw)
    have h3 := List.all_eq_true.1 (List.all_eq_true.1 betw_K u (List.mem_range.2 hu)) w (List.mem_range.2 hw)
    simp only [Bool.and_eq_true, beq_iff_eq] at h1 h2 h3
    rw [h, h1.1, h1.2] at h2
    unfold betw wOf at h3 ⊢
    rw [← h2.1, ← h2.2] at h3
    exact ⟨h3.1, h3.2.symm⟩
  · rintro ⟨h, rfl⟩
    have h1 := List.all_eq_true.1 (List.all_eq_true.1 (List.all_eq_true.1 sprd_K1 s (List.mem_range.2 hs)) t (List.mem_range.2 ht)) u (List.mem_range.2 hu)
    rw [h] at h1
    simpa using h1
section
variable (g : Nat → Bool)
theorem in3_eq {s t u : Nat} (hs : s < 64) (ht : t < 64) (hu : u < 64) (rest : Option (List (List Int) × List (List Int))) : ∀ l : List Nat, (∀ x ∈ l, x < 64) →
    in3 s t u rest (l.filter fun m => g m == false) = if (betw s t u && (!g (wOf s t u) && l.contains (wOf s t u))) = true then some (prT s t u (wOf s t u)) else rest
  | [], _ => by simp [in3]
  | d :: l, h => by
    have ih := in3_eq hs ht hu rest l (fun x hx => h x (List.mem_cons_of_mem _ hx))
    have hd := h d (List.mem_cons_self ..)
    cases hg : g d with
    | true =>
      rw [List.filter_cons_of_neg (by rw [hg]; decide), ih]
      by_cases e : d = wOf s t u
      · rw [← e, hg]; simp
      · rw [List.contains_cons, show (wOf s t u == d) = false from by simpa using Ne.symm e, Bool.false_or]
    | false =>
      rw [List.filter_cons_of_pos (by rw [hg]; decide)]
      unfold in3
      by_cases e : sprd u + sprd d = sprd s + sprd t
      · rw [if_pos e]
        obtain ⟨e1, e2⟩ := (sprd_iff hs ht hu hd).1 e
        rw [if_pos]
        · rw [← e2]
        · rw [e1, ← e2, hg]; simp
      · rw [if_neg e, ih]
        by_cases e1 : betw s t u = true
        · have e2 : d ≠ wOf s t u := fun h2 => e ((sprd_iff hs ht hu hd).2 ⟨e1, h2⟩)
          rw [List.contains_cons, show (wOf s t u == d) = false from by simpa using Ne.symm e2, Bool.false_or]
        · rw [Bool.not_eq_true] at e1
          rw [e1]; simp
theorem in2_eq {s t : Nat} (hs : s < 64) (ht : t < 64) (rest : Option (List (List Int) × List (List Int))) : ∀ l : List Nat, (∀ x ∈ l, x < 64) →
    in2 s t rest (l.filter fun m => g m == false) = inT g (fun _ _ _ _ => true) s t rest l
  | [], _ => rfl
  | u :: l, h => by
    have ih := in2_eq hs ht rest l (fun x hx => h x (List.mem_cons_of_mem _ hx))
    have hu := h u (List.mem_cons_self ..)
    have h3 := in3_eq g hs ht hu (in2 s t rest (l.filter fun m => g m == false)) (u :: l) h
    unfold inT inQ
    cases hg : g u with
    | true =>
      rw [List.filter_cons_of_neg (by rw [hg]; decide), ih]
      simp
    | false =>
      rw [List.filter_cons_of_pos (by rw [hg]; decide)] at h3 ⊢
      unfold in2
      rw [h3, ih]
      simp
theorem outT_skip {Q : Nat → Nat → Nat → Nat → Bool} (O : List Nat) {s : Nat} (h : g s = false) (rest : Option (List (List Int) × List (List Int))) : ∀ l, outT g Q O s rest l = rest
  | [] => rfl
  | t :: l => by
    unfold outT
    rw [h, Bool.false_and, if_neg (by decide)]
    exact outT_skip O h rest l
theorem in1_eq (O : List Nat) (hO : ∀ x ∈ O, x < 64) {s : Nat} (hs : s < 64) (h : g s = true) (rest : Option (List (List Int) × List (List Int))) : ∀ l : List Nat, (∀ x ∈ l, x < 64) →
    in1 (O.filter fun m => g m == false) s rest (l.filter fun m => g m == true) = outT g (fun _ _ _ _ => true) O s rest l
  | [], _ => rfl
  | t :: l, hl => by
    have ih := in1_eq O hO hs h rest l (fun x hx => hl x (List.mem_cons_of_mem _ hx))
    unfold outT
    cases hg : g t with
    | true =>
      rw [List.filter_cons_of_pos (by rw [hg]; decide), h, Bool.and_self, if_pos rfl]
      unfold in1
      rw [ih]
      exact in2_eq g hs (hl t (List.mem_cons_self ..)) _ O hO
    | false =>
      rw [List.filter_cons_of_neg (by rw [hg]; decide), h, Bool.and_false, if_neg (by decide)]
      exact ih
theorem in0_eq (O : List Nat) (hO : ∀ x ∈ O, x < 64) : ∀ l : List Nat, (∀ x ∈ l, x < 64) →
    in0 (O.filter fun m => g m == false) (l.filter fun m => g m == true) = allT g (fun _ _ _ _ => true) O l
  | [], _ => rfl
  | s :: l, hl => by
    have ih := in0_eq O hO l (fun x hx => hl x (List.mem_cons_of_mem _ hx))
    have hs := hl s (List.mem_cons_self ..)
    unfold allT
    cases hg : g s with
    | true =>
      have h1 := in1_eq g O hO hs hg (allT g (fun _ _ _ _ => true) O l) (s :: l) hl
      rw [List.filter_cons_of_pos (by rw [hg]; decide)] at h1 ⊢
      unfold in0
      rw [ih]
      exact h1
    | false =>
      rw [List.filter_cons_of_neg (by rw [hg]; decide), ih]
      exact (outT_skip g O hg _ _).symm
end
def tradedB (m : Int) (l : List (List Int)) : Bool := gmOk m l && decide (m ≤ 6)
theorem isTraded_ev (m : Int) (l : List (List Int)) (hl : l.length ≤ 1048576) (hb : ∀ x ∈ l, x.length ≤ 1048576) : Ev (fun k => impl_isTradedGame.f k m l) (tradedB m l) := by
  unfold impl_isTradedGame.f tradedB
  refine Ev.bind (IsGame_ev m l hl hb) (ev_bool (fun h => ?_) (fun h => ?_))
  · rw [h]; exact Ev.now _
  · rw [h]; exact Ev.now _
theorem eqTrade_ev (a b : List (List Int)) (ha : a.length ≤ 1152921504606) (hax : ∀ x ∈ a, x.length ≤ 1152921504606) (hb : b.length ≤ 1152921504606) (hbx : ∀ x ∈ b, x.length ≤ 1152921504606) : Ev (fun k => laws_eqTrade.f k a b a b) true := by
  unfold laws_eqTrade.f
  exact Ev.bind (eqSS_ev a a ha hax) (ev_pos (by simp) (Ev.bind (eqSS_ev b b hb hbx) (ev_pos (by simp) (Ev.now _))))
theorem mark2_ev (l : List (List Int)) (m : Int) (h0 : 0 ≤ m) (hm : m ≤ 1000000) (hl : l.length ≤ 1048576) (hx : ∀ x ∈ l, x.length ≤ 1048576) : Ev (fun k => laws_markIntSS.f k l m) (totS m l, mkSS m l) := by
  have := markIntSS_l0 l [] m (by simpa using hl) hx h0 (by omega)
  exact this
theorem held2_ev (l : List (List Int)) (m : Int) (h0 : 0 ≤ m) (hm : m ≤ 1000000) (hl : l.length ≤ 1048576) (hx : ∀ x ∈ l, x.length ≤ 1048576) : Ev (fun k => laws_heldIntSS.f k (mkSS m l) m) (totS m l) := heldIntSS_l0 l [] m (by simpa using hl) hx h0 (by omega)
def TrOk (r : List (List Int) × List (List Int) × Bool) : Prop := (r.1.length ≤ 16 ∧ ∀ x ∈ r.1, x.length ≤ 16) ∧ (r.2.1.length ≤ 16 ∧ ∀ x ∈ r.2.1, x.length ≤ 16)
theorem totS_le : ∀ (l : List (List Int)) (m : Int) (n : Nat), l.length ≤ n → (∀ x ∈ l, x.length ≤ 16) → totS m l ≤ m + 16 * n
  | [], m, n, _, _ => by unfold totS; omega
  | x :: xs, m, n, h, hx => by
    rw [List.length_cons] at h
    have := totS_le xs (m + x.length) (n - 1) (by omega) (fun y hy => hx y (List.mem_cons_of_mem _ hy))
    have := hx x (List.mem_cons_self ..)
    unfold totS
    omega
theorem heldTrade_ev (a b : List (List Int)) (ha : a.length ≤ 16) (hax : ∀ x ∈ a, x.length ≤ 16) (hb : b.length ≤ 16) (hbx : ∀ x ∈ b, x.length ≤ 16) : Ev (fun k => laws_heldTrade.f k (mkSS 1 a) (mkSS (totS 1 a) b) 1) (totS (totS 1 a) b) := by
  have h1 := totS_ge a 1
  have h2 := totS_le a 1 16 ha hax
  have h3 := totS_ge b (totS 1 a)
  unfold laws_heldTrade.f
  exact Ev.bind (held2_ev a 1 (by omega) (by omega) (by omega) (fun x hx => Nat.le_trans (hax x hx) (by decide))) (ev_neg (by omega) (Ev.bind (held2_ev b _ (by omega) (by omega) (by omega) (fun x hx => Nat.le_trans (hbx x hx) (by decide))) (ev_neg (by omega) (Ev.now _))))
theorem prT_ok (s t u w : Nat) : TrOk (resT (some (prT s t u w))) := by
  have h : ∀ m : Nat, (setL m).length ≤ 16 := fun m => bitsL_len _ _ _
  refine ⟨⟨by simp [resT, prT], ?_⟩, by simp [resT, prT], ?_⟩
  · intro x hx
    simp only [resT, prT, List.mem_cons, List.not_mem_nil, or_false] at hx
    rcases hx with rfl | rfl <;> exact h _
  · intro x hx
    simp only [resT, prT, List.mem_cons, List.not_mem_nil, or_false] at hx
    rcases hx with rfl | rfl <;> exact h _
def IsPr (o : Option (List (List Int) × List (List Int))) : Prop := ∀ p, o = some p → ∃ s t u w, p = prT s t u w
theorem resT_ok {o : Option (List (List Int) × List (List Int))} (h : IsPr o) : TrOk (resT o) := by
  cases o with
  | none => exact ⟨⟨by simp [resT], by simp [resT]⟩, by simp [resT], by simp [resT]⟩
  | some p => obtain ⟨s, t, u, w, rfl⟩ := h p rfl; exact prT_ok s t u w
theorem inT_ok (g : Nat → Bool) (Q : Nat → Nat → Nat → Nat → Bool) (s t : Nat) (rest : Option (List (List Int) × List (List Int))) (h : IsPr rest) : ∀ l, IsPr (inT g Q s t rest l)
  | [] => h
  | u :: r => by
    unfold inT
    split
    · intro p hp; exact ⟨s, t, u, _, (Option.some.inj hp).symm⟩
    · exact inT_ok g Q s t rest h r
theorem outT_ok (g : Nat → Bool) (Q : Nat → Nat → Nat → Nat → Bool) (O : List Nat) (s : Nat) (rest : Option (List (List Int) × List (List Int))) (h : IsPr rest) : ∀ l, IsPr (outT g Q O s rest l)
  | [] => h
  | t :: r => by
    unfold outT
    split
    · exact inT_ok g Q s t _ (outT_ok g Q O s rest h r) O
    · exact outT_ok g Q O s rest h r
theorem allT_ok (g : Nat → Bool) (Q : Nat → Nat → Nat → Nat → Bool) (O : List Nat) : ∀ l, IsPr (allT g Q O l)
  | [] => fun p hp => by cases hp
  | s :: r => outT_ok g Q O s _ (allT_ok g Q O r) _
def FirstTradeM (m : Int) (l : List (List Int)) : List (List Int) × List (List Int) × Bool := if tradedB m l = true then resT (allT (winB l) (fun _ _ _ _ => true) (ordL (2 ^ m.toNat)) (ordL (2 ^ m.toNat))) else ([], [], false)
theorem sFirstTrade_ev (m : Int) (l : List (List Int)) (hl : l.length ≤ 1048576) (hb : ∀ x ∈ l, x.length ≤ 1048576) : Ev (fun k => spec_FirstTrade.f k m l) (FirstTradeM m l) := by
  unfold spec_FirstTrade.f FirstTradeM tradedB
  refine Ev.bind (gmGood_ev m l hl hb) (ev_bool (fun h => ?_) (fun h => ?_))
  · rw [h, Bool.true_and]
    obtain ⟨hs, n, rfl, hn⟩ := gmOk_sets h hb
    refine ev_succ ?_
    simp only [spec_FirstTrade.j0]
    by_cases h6 : (n : Int) ≤ 6
    · rw [decide_eq_true h6, if_pos rfl, Int.toNat_natCast]
      have hp : 2 ^ n ≤ 64 := Nat.le_trans (Nat.pow_le_pow_right (n := 2) (by decide) (show n ≤ 6 by omega)) (by decide)
      have h2 := deTwo_ev (winB l) n (by omega)
      rw [in0_eq (winB l) (ordL (2 ^ n)) (fun x hx => Nat.lt_of_lt_of_le (ordL_lt _ (by omega) hx) hp) _ (fun x hx => Nat.lt_of_lt_of_le (ordL_lt _ (by omega) hx) hp)] at h2
      exact ev_neg (by simp; omega) (Ev.bind (gmAllW_ev hl hs) (Ev.bind h2 (Ev.now _)))
    · rw [decide_eq_false h6, if_neg (by decide)]
      exact ev_pos (by simp; omega) (Ev.now _)
  · rw [h, Bool.false_and, if_neg (by decide)]
    refine ev_succ ?_
    simp only [spec_FirstTrade.j0]
    exact ev_pos (by simp) (Ev.now _)
theorem iFirstTrade_ev (m : Int) (l : List (List Int)) (hl : l.length ≤ 1048576) (hb : ∀ x ∈ l, x.length ≤ 1048576) : Ev (fun k => impl_FirstTrade.f k m l) (FirstTradeM m l) := by
  have hT := isTraded_ev m l hl hb
  unfold impl_FirstTrade.f FirstTradeM
  cases h : tradedB m l with
  | true =>
    rw [h] at hT
    rw [if_pos rfl]
    unfold tradedB at h
    rw [Bool.and_eq_true] at h
    obtain ⟨hs, n, rfl, hn⟩ := gmOk_sets h.1 hb
    have h6 : n ≤ 6 := by have := of_decide_eq_true h.2; omega
    rw [Int.toNat_natCast]
    have h2 := firstOf_ev (fun _ _ _ _ => some true) (fun _ _ _ _ => true) (fun _ _ _ _ _ => rfl) (winB l) n h6
    refine Ev.bind hT (ev_pos rfl (Ev.bind (votesW_ev hl hs) ?_))
    unfold impl_votes_firstTrade.f firstOfAny.f
    exact Ev.bind (Ev.bind h2 (Ev.now _)) (Ev.now _)
  | false =>
    rw [h] at hT
    rw [if_neg (by decide)]
    exact Ev.bind hT (ev_neg (by decide) (Ev.now _))
theorem FirstTradeM_ok (m : Int) (l : List (List Int)) : TrOk (FirstTradeM m l) := by
  unfold FirstTradeM
  split
  · exact resT_ok (allT_ok _ _ _ _)
  · exact ⟨⟨by simp, by simp⟩, by simp, by simp⟩
theorem FnExactFirstTrade_pure (a0_0 : Int) (l0_1 : List (List Int)) (g0 : I64 a0_0 ∧ ∀ y ∈ l0_1, ∀ z ∈ y, I64 z) (h1 : l0_1.length ≤ 9223372036854775807) (h2 : ∀ x ∈ l0_1, x.length ≤ 9223372036854775807) : ∃ k, laws_FnExactFirstTrade.f k a0_0 l0_1 = some true := by
  refine Ev.rounds ?_
  unfold laws_FnExactFirstTrade.f
  obtain ⟨q, hq, hq2⟩ := szGame_ev a0_0 l0_1 1048576 (by decide) h1 h2
  refine Ev.bind hq ?_
  by_cases h : q < 0
  · exact ev_pos h (Ev.now _)
  refine ev_neg h ?_
  obtain ⟨_, _, _, n1, n2⟩ := hq2 h
  have n3 : ∀ x ∈ l0_1, x.length ≤ 1152921504606 := fun x hx => Nat.le_trans (n2 x hx) (by decide)
  have ht := toGame_ev a0_0 l0_1 (by omega) n3
  have es := sFirstTrade_ev a0_0 l0_1 n1 n2
  have ei := iFirstTrade_ev a0_0 l0_1 n1 n2
  obtain ⟨⟨r1, r2⟩, r3, r4⟩ := FirstTradeM_ok a0_0 l0_1
  generalize FirstTradeM a0_0 l0_1 = r at es ei r1 r2 r3 r4
  obtain ⟨ra, rb, rc⟩ := r
  have h3 := totS_ge ra 1
  have h4 := totS_ge l0_1 1
  have h5 := totS_le ra 1 16 r1 r2
  have h6 := totS_ge rb (totS 1 ra)
  have eq := eqTrade_ev ra rb (by simp only [] at r1; omega) (fun x hx => Nat.le_trans (r2 x hx) (by decide)) (by simp only [] at r3; omega) (fun x hx => Nat.le_trans (r4 x hx) (by decide))
  refine Ev.bind ht (Ev.bind es (Ev.bind ei (Ev.bind eq (ev_pos rfl (ev_pos rfl (Ev.bind (eqGame_ev a0_0 a0_0 l0_1 l0_1 (by omega) n3) (ev_pos (by simp) (Ev.bind (markIntSS_ev l0_1 n1 n2) (ev_neg (by simp only []; omega) ?_)))))))))
  refine Ev.bind (mark2_ev ra 1 (by decide) (by decide) (Nat.le_trans r1 (by decide)) (fun x hx => Nat.le_trans (r2 x hx) (by decide))) ?_
  refine Ev.bind (mark2_ev rb (totS 1 ra) (by omega) (by omega) (Nat.le_trans r3 (by decide)) (fun x hx => Nat.le_trans (r4 x hx) (by decide))) ?_
  exact Ev.bind (heldTrade_ev ra rb r1 r2 r3 r4) (ev_neg (by omega) (ev_pos rfl (Ev.now _)))
end Go.Proofs.Ytaacaifiiedoiaa.Q
end
section
namespace Go.Proofs.Ytaacaifiiedoiaa.Q
open Go.RowKit Go.Proofs.YtaacaifiiedoiaaW.PrintWords Go.Proofs.YtaacaifiiedoiaaW.PrintLast Go.Proofs.YtaacaifiiedoiaaW.PrintMore
set_option linter.unusedVariables false
set_option linter.unusedSimpArgs false
set_option maxRecDepth 100000
section
variable {H : Type} {enc : TypeId × Value → H} {W : World}
theorem opens_ints : Opens enc Try.prog W 71 (Kd.slice 3 (Kd.int .i64)) (fun x => ∀ y ∈ x, I64 y) := opens_slice Try.underlying71 (by kernel_rfl) (opens_int Try.underlying3)
theorem opens_Game : Opens enc Try.prog W 24 (Kd.pair (Kd.int .i64) (Kd.slice 71 (Kd.slice 3 (Kd.int .i64)))) (fun x => I64 x.1 ∧ ∀ y ∈ x.2, ∀ z ∈ y, I64 z) :=
  opens_pair Try.underlying24 (by kernel_rfl) rfl rfl (by kernel_rfl) (by kernel_rfl) (opens_int Try.underlying3) (opens_slice Try.underlying22 (by kernel_rfl) opens_ints)
end
open Go.ChangeShapes Go.WideShapes Go.ChangeAt Go.Deep
section
variable {H : Type} {enc : TypeId × Value → H} {W : World} {r : Reach} {b0 : Nat} {v : Value} {y : DataW H} {p : List MemPlace}
theorem arg_Game (hv : Value.okWide Try.prog W r b0 24 v) (hr : DataW.Trod enc Try.prog W 0 (fun _ => true) true 24 v y p) :
    ∃ a A c l, v = .agg #[.int .i64 a, .slice A (l : List (List Int)).length c] ∧ l.length ≤ c ∧ Kd.C (Kd.slice 3 (Kd.int .i64)) W A l.length l ∧ I64 a ∧ ∀ y ∈ l, ∀ z ∈ y, I64 z := by
  obtain ⟨x, ⟨l⟩, rfl, k, g⟩ := open_struct Try.underlying24 hv hr opens_Game
  obtain ⟨_, _, rfl, rfl, ⟨A, c, rfl, hl, hC⟩⟩ := k
  exact ⟨_, A, c, _, rfl, hl, hC, g⟩
theorem C_inner {w : World} {A : Option Addr} {n : Nat} {xs : List (List Int)} (h : Kd.C (Kd.slice 3 (Kd.int .i64)) w A n xs) : ∀ x ∈ xs, x.length ≤ 9223372036854775807 := fun x hx => by
  obtain ⟨j, hj, rfl⟩ := List.mem_iff_getElem.1 hx
  obtain ⟨ad, _, hc⟩ := h.2.2 (by have := h.1; omega)
  obtain ⟨c, _, ⟨_, _, _, _, hC⟩, _⟩ := hc j _ (List.getElem?_eq_getElem hj)
  exact hC.2.1
end
end Go.Proofs.Ytaacaifiiedoiaa.Q
end
section
namespace Go.Proofs.Ytaacaifiiedoiaa.fnExactFirstTrade
open Go.ChangeShapes Go.WideShapes Go.ChangeAt Go.RowKit Go.Proofs.Ytaacaifiiedoiaa.Q
open Go.ChangeMaps (open_string shut_string)
set_option linter.unusedVariables false
theorem own : ownKnob Try.prog.godebug = none := by kernel_rfl
theorem laidOut : laidOutB Try.prog = true := by kernel_rfl
set_option maxRecDepth 100000 in
theorem lifted (os : Os) (started : os.Started) (H : Type) (enc : TypeId × Value → H) :
    ReturnsInHanded {} Try.checked os 7 .any (Rows.fnExactFirstTradeSpec.pre6 enc Try.prog Try.f7 Rows.fnExactFirstTradeRow.domain false) (Rows.fnExactFirstTradeSpec.post enc Try.prog Try.f7 false true false false) := by
  refine returnsInHanded_of_change_sized (C := Try.checked) own started (by kernel_rfl) Try.func7
    (ChangeSpec.witness6 (enc := enc) (C := Try.checked) false ⟨#[], #[.agg #[.int .i64 0, .slice none 0 0]], []⟩ 8 (by kernel_rfl) (by kernel_rfl) (by kernel_rfl) (by kernel_rfl)) ?_
  intro W base args ds gs before hval0 hW hcnd hsz0 _
  have hsz : (DataW.weightsEach Try.prog (Try.f7.params.toList ++ Rows.fnExactFirstTradeSpec.plain.varTypes Try.prog) (ds ++ gs)).all (· ≤ reachBytes) = true := hsz0
  have hval : ∀ (j : Nat) t v, Try.f7.params[j]? = some t → args[j]? = some v → Value.okWide Try.prog W .any base t v := hval0
  have hW' := hW
  obtain ⟨p, q, hA0, hV, rfl, hfz, hnd⟩ := hW
  have hA : DataW.TrodAll enc Try.prog W 0 (fun _ => true) true Try.f7.params.toList args.toList ds p := hA0
  rw [Try.params7] at hA hval hsz
  obtain ⟨v0, vs0, d0, ds0, p0, q0, hargs, rfl, rfl, h0, r0⟩ := trodAll_cons hA
  obtain ⟨rfl, rfl, rfl⟩ := trodAll_nil r0
  obtain rfl : args = #[v0] := by cases args; simp_all
  obtain ⟨rfl, rfl⟩ := trodVars_none hV
  have k0 := h0
  have lt0 : ∀ x ∈ p0, x.block < W.heap.size := by obtain ⟨m, hm⟩ := k0; exact DataW.trod_lt m _ _ _ hm
  obtain ⟨a0_0, A0_1, c0_1, l0_1, rfl, hc0_1, hr0_1, g0⟩ := arg_Game (hval 0 24 v0 rfl rfl) h0
  clear hA0 hval0 hsz0 hsz
  obtain ⟨k, hk⟩ := FnExactFirstTrade_pure a0_0 l0_1 g0 hr0_1.2.1 (C_inner hr0_1)
  refine (laws_FnExactFirstTrade.calls k a0_0 A0_1 c0_1 l0_1 true W hr0_1 hc0_1 hk).mono fun e W' ⟨he, bel⟩ => ?_
  subst he
  exact ⟨_, rfl, _, _, _, [], _, [], hW', trodAll_mk1 (shut_bool Try.underlying4 _), (trodAll_cons_mk (Below.trod laidOut (by kernel_rfl) (of_decide_eq_true (by kernel_rfl)) k0 bel lt0) trodAll_mk0), rfl, bel.frame _, fun h => by cases h⟩
theorem over : Rows.fnExactFirstTradeRow.holds Try.pinned (OpenSpec.ofChange Rows.fnExactFirstTradeSpec) :=
  OpenClaim.holds_of_wide 7 Try.f7 rfl rfl rfl rfl rfl rfl rfl ⟨rfl, rfl, rfl, rfl, rfl⟩ rfl rfl rfl rfl rfl (by kernel_rfl) Try.func7 (by kernel_rfl)
    (of_decide_eq_true (by kernel_rfl)) (by unfold Func.isWrapper; first | (rw [if_pos (by decide +kernel)]; kernel_rfl) | (rw [if_neg (by decide +kernel)]; exact ⟨rfl, rfl⟩))
    (fun os started H enc _ => lifted os started H enc)
theorem proved : Rows.FnExactFirstTradeSaid := over
end Go.Proofs.Ytaacaifiiedoiaa.fnExactFirstTrade
namespace Go.Proofs.Ytaacaifiiedoiaa
theorem fnExactFirstTrade_holds : Rows.FnExactFirstTradeSaid := fnExactFirstTrade.proved
end Go.Proofs.Ytaacaifiiedoiaa
end
#print axioms Go.Proofs.Ytaacaifiiedoiaa.fnExactFirstTrade_holds

/- Part 4 of the proof of FnExactLeastWeights: what it leans on (no condition). -/
import Derived.Test.YtlhkphehlocdcaaKFnExactLeastWeights3
import Derived.Shelf.SlSortCmp.NoneTotal
section
namespace Go.Proofs.Ytlhkphehlocdcaa.Q
open Go.RowKit Go.Proofs.YtlhkphehlocdcaaW.PrintWords Go.Proofs.YtlhkphehlocdcaaW.PrintLast Go.Proofs.YtlhkphehlocdcaaW.PrintMore
attribute [local go_sem] max2_int min2_int max_two min_two max_three min_three max_four min_four
set_option linter.unusedVariables false
set_option linter.unusedSimpArgs false
def impl_isSet.f (k : Nat) (l0 : List Int) (a1 : Int) : Option (Bool) := (impl_areIn.f l0 0 (wrap64 (a1 - 1))).bind fun t528 => (if t528 = true then ((impl_isIncreasing.f k l0).bind fun t529 => (some t529)) else (some false))
set_option maxHeartbeats 8000000 in
set_option maxRecDepth 100000 in
theorem impl_isSet.calls (k : Nat) (A0 : Option Addr) (c0 : Nat) (l0 : List Int) (a1 : Int) (r : Bool) (w : World) (hr0 : Kd.C (Kd.int .i64) w A0 l0.length l0) (hc0 : l0.length ≤ c0) (h : impl_isSet.f k l0 a1 = some r) :
  Calls Try.prog 98 #[.slice A0 l0.length c0, .int .i64 a1] w fun e w' => e = .returned (.bool r) ∧ Below w.heap.size w w' := by
 have HR0 := Aside0.mk hr0
 have HC0 := Aside0.mk hc0
 clear hr0 hc0
 have HB := Aside0.mk (Below.refl w.heap.size w)
 have H : ((impl_areIn.f l0 0 (wrap64 (a1 - 1))).bind fun t528 => (if t528 = true then ((impl_isIncreasing.f k l0).bind fun t529 => (some t529)) else (some false))) = some r := h
 clear h
 replace H := Option.bind_eq_some_iff.mp H
 obtain ⟨t528, A30, H⟩ := H
 replace H : (if t528 = true then ((impl_isIncreasing.f k l0).bind fun t529 => (some t529)) else (some false)) = some r := H
 have A3 := Aside0.mk A30
 clear A30
 by_cases c4 : t528 = true
 rotate_left
 ·replace c4 := Bool.eq_false_iff.mpr c4
  subst c4
  have H1 : (some false) = some r := by rw [if_neg (show ¬ (false = true) by decide)] at H; exact H
  clear H
  have H := H1
  clear H1
  obtain rfl := Option.some.inj H
  go_enter Try.func98, Try.ntmps98
  go_wp2_with (first | ((with_reducible refine gate_callee (f := 53) rfl ?_); refine goesL_ (some 8) rfl rfl Try.func53 (by kernel_rfl) rfl #[.slice A0 l0.length c0, .int .i64 0, .int .i64 (wrap64 (a1 - 1))] rfl (by (try simp only [List.map_toArray, List.map_cons, List.map_nil]); first | done | rfl | (simp only [List.length_drop, List.length_take]; rfl)) ?_; (with_reducible refine (impl_areIn.calls _ _ l0 0 (wrap64 (a1 - 1)) false _ ?side1 ?side2 A3.out).mono ?_); (case side1 => repeat (first | exact HR0.out | (with_reducible refine Kd.C_alloc ?_ _) | (with_reducible refine Kd.C_drewN ?_ _) | (with_reducible refine Kd.C_drew ?_))); (case side2 => exact HC0.out); rintro e w7 ⟨rfl, hb⟩; refine ⟨_, rfl, ?_⟩; have n0_ := Aside0.mk (below_step (zh HB.out) hb); clear HB; have HB := n0_; clear n0_; (try clear hb); (try clear hb2); (try clear hk); (try clear hi)))
  go_ret
  exact ⟨by first | rfl | (simp [*, errW_none, errW_some] <;> rfl), zh HB.out⟩
 subst c4
 have H1 : ((impl_isIncreasing.f k l0).bind fun t529 => (some t529)) = some r := by rw [if_pos rfl] at H; exact H
 clear H
 have H := H1
 clear H1
 replace H := Option.bind_eq_some_iff.mp H
 obtain ⟨t529, A50, H⟩ := H
 replace H : (some t529) = some r := H
 have A5 := Aside0.mk A50
 clear A50
 obtain rfl := Option.some.inj H
 go_enter Try.func98, Try.ntmps98
 go_wp2_with (first | ((with_reducible refine gate_callee (f := 53) rfl ?_); refine goesL_ (some 8) rfl rfl Try.func53 (by kernel_rfl) rfl #[.slice A0 l0.length c0, .int .i64 0, .int .i64 (wrap64 (a1 - 1))] rfl (by (try simp only [List.map_toArray, List.map_cons, List.map_nil]); first | done | rfl | (simp only [List.length_drop, List.length_take]; rfl)) ?_; (with_reducible refine (impl_areIn.calls _ _ l0 0 (wrap64 (a1 - 1)) true _ ?side1 ?side2 A3.out).mono ?_); (case side1 => repeat (first | exact HR0.out | (with_reducible refine Kd.C_alloc ?_ _) | (with_reducible refine Kd.C_drewN ?_ _) | (with_reducible refine Kd.C_drew ?_))); (case side2 => exact HC0.out); rintro e w6 ⟨rfl, hb⟩; refine ⟨_, rfl, ?_⟩; have n0_ := Aside0.mk (below_step (zh HB.out) hb); clear HB; have HB := n0_; clear n0_; (try clear hb); (try clear hb2); (try clear hk); (try clear hi)) | (go_at_call 106; (with_reducible refine (impl_isIncreasing.calls k _ _ l0 t529 _ ?side1 ?side2 A5.out).mono ?_); (case side1 => repeat (first | exact (Kd.C_below HR0.out HB.out) | (with_reducible refine Kd.C_alloc ?_ _) | (with_reducible refine Kd.C_drewN ?_ _) | (with_reducible refine Kd.C_drew ?_))); (case side2 => exact HC0.out); rintro e w' ⟨rfl, ⟨nd, rfl⟩⟩))
 go_ret
 exact ⟨by first | rfl | (simp [*, errW_none, errW_some] <;> rfl), zh HB.out⟩
def impl_votesBy.l0 : Nat → Int → List (List Int) → Int → Int → List Int → Option (Int × List Bool)
 | 0, _, _, _, _, _ => none
 | k + 1, x0, x9, x10, x11, x546000 => if x11 < x10 then (if 0 ≤ x11 then (if x11 < (x9.length : Int) then ((impl_maskOf.f k (rd_L1 x9 x11)).bind fun t547 => (if x546000.length < 17592186044416 then (impl_votesBy.l0 k x0 x9 x10 (wrap64 (x11 + 1)) (x546000 ++ [t547])) else (none))) else (none)) else (none)) else ((votesOf_votesBy.f k x0 x546000).bind fun bt551 => (some (bt551.1, bt551.2)))
def impl_votesBy.f (k : Nat) (a0 : Int) (l1 : List (List Int)) : Option (Int × List Bool) := impl_votesBy.l0 k a0 l1 (l1.length : Int) 0 (([] : List Int))
set_option maxHeartbeats 8000000 in
set_option maxRecDepth 100000 in
theorem impl_votesBy.calls (k : Nat) (a0 : Int) (A1 : Option Addr) (c1 : Nat) (l1 : List (List Int)) (r1 : Int) (r2 : List Bool) (w : World) (hr1 : Kd.C (Kd.slice 3 (Kd.int .i64)) w A1 l1.length l1) (hc1 : l1.length ≤ c1) (h : impl_votesBy.f k a0 l1 = some (r1, r2)) :
  Calls Try.prog 65 #[.int .i64 a0, .slice A1 l1.length c1] w fun e w' => ∃ v1_ : Value, e = .returned (.agg #[.int .i64 r1, v1_]) ∧ Kd.R Kd.bool 4 w' w.heap.size (fun _ => True) v1_ r2 ∧ Below w.heap.size w w' := by
 have hu53 := Try.underlying53
 have HR1 := Aside0.mk hr1
 have HC1 := Aside0.mk hc1
 clear hr1 hc1
 have HB := Aside0.mk (Below.refl w.heap.size w)
 have H : (impl_votesBy.l0 k a0 l1 (l1.length : Int) 0 (([] : List Int))) = some (r1, r2) := h
 clear h
 obtain ⟨y542, hy542⟩ : ∃ y_ : List Int, y_ = (([] : List Int)) := ⟨_, rfl⟩
 replace H : (impl_votesBy.l0 k a0 l1 (l1.length : Int) 0 y542) = some (r1, r2) := by first | (rw [hy542]; with_reducible exact H) | (have H2_ := (Option.bind_some _ _).symm.trans H; rw [hy542]; with_reducible exact H2_) | (have H2_ := (Option.bind_some _ _).symm.trans H; with_reducible exact H2_) | with_reducible exact H | (rw [hy542]; exact H) | exact H
 have Ny542 := Aside0.mk hy542
 clear hy542
 have H' := Aside0.mk H
 clear H
 go_enter Try.func65, Try.ntmps65
 go_wp2_with (first | ((with_reducible refine gate_dst (N := 4) rfl ?_); refine box_event ?hg (N := 4) ?hd (cs := #[.int .i64 0, .slice none 0 0]) (t := 53) ?hr ?_; (case hd => rfl); (case hg => rfl); (case hr => first | (go_simp; done) | (go_simp; rfl)); intro gb541 hg w3 hbox hb; have n2_ := Aside0.mk ((by rw [hg]; exact (below_size (zh HB.out)) : w.heap.size ≤ gb541)); replace HB := Aside0.mk (below_step (zh HB.out) hb); have BK541 := Aside0.mk hbox; have GW541 := n2_; have GE541 := n2_; clear n2_ hb hbox hg) | ((with_reducible refine gate_dst (N := 8) rfl ?_); refine Kd.R_lit (Kd.int .i64) _ 3 ?hg (N := 8) ?hd (xs := ([] : List Int)) (inner := []) (ok := fun _ => True) (okp := fun _ => True) ?hr ?hp (fun _ hk => hk) trivial (Below.refl _ _) (Nat.le_refl _) (by simp) ?_; (case hd => rfl); (case hg => rfl); (case hr => first | (go_simp; done) | (go_simp; rfl)); (case hp => exact (Reps.none _ _)); intro v543 w4 ho5 hb hg_ hnew_; clear hg_ hnew_; (first | rw [← Ny542.out] at ho5 | (simp only [Int.reduceToNat] at ho5; rw [← Ny542.out] at ho5)); have n0_ := Aside0.mk (Kd.R_lower ho5 (below_size (zh HB.out))); have n1_ := Aside0.mk (blk_below (g := gb541) (o := .cells #[.int .i64 0, .slice none 0 0] 53 (0, 0)) (zb BK541.out) hb); have n2_ := Aside0.mk (below_step (zh HB.out) hb); clear BK541; clear HB; have HO544 := n0_; have BK541 := n1_; have HB := n2_; clear n0_ n1_ n2_; clear hb ho5) | ((with_reducible refine gate_dst (N := 5) rfl ?_); refine box_event ?hg (N := 5) ?hd (cs := #[.slice none 0 0]) (t := 22) ?hr ?_; (case hd => rfl); (case hg => rfl); (case hr => first | (go_simp; done) | (go_simp; rfl)); intro gb545 hg w6 hbox hb; have n0_ := Aside0.mk (Kd.R_below (zr HO544.out) hb); have n1_ := Aside0.mk (blk_below (g := gb541) (o := .cells #[.int .i64 0, .slice none 0 0] 53 (0, 0)) (zb BK541.out) hb); have n2_ := Aside0.mk (below_step (zh HB.out) hb); have n3_ := Aside0.mk (hbox); have n4_ := Aside0.mk ((by rw [hg]; exact (below_size (zh HB.out)) : w.heap.size ≤ gb545)); have n5_ := Aside0.mk ((by rw [hg]; exact (below_size (zh HB.out)) : w.heap.size ≤ gb545)); have n6_ := Aside0.mk ((by rw [hg]; exact Nat.ne_of_lt (blk_lt (g := gb541) (o := .cells #[.int .i64 0, .slice none 0 0] 53 (0, 0)) (zb BK541.out)) : gb541 ≠ gb545)); have n7_ := Aside0.mk ((by rw [hg]; exact Nat.ne_of_gt (blk_lt (g := gb541) (o := .cells #[.int .i64 0, .slice none 0 0] 53 (0, 0)) (zb BK541.out)) : gb545 ≠ gb541)); clear HO544; clear BK541; clear HB; have HO544 := n0_; have BK541 := n1_; have HB := n2_; have BK545 := n3_; have GW545 := n4_; have GE545 := n5_; have NB541_545 := n6_; have NB545_541 := n7_; clear n0_ n1_ n2_ n3_ n4_ n5_ n6_ n7_; clear hb hbox hg; obtain ⟨Ao7, co7, eo7⟩ := Kd.R_slice HO544.out; subst eo7; have hnb8 := NB545_541.out; have hnc8 := NB541_545.out; have hcz9_0 : w6.cell? ⟨gb545, 0, none⟩ = some (.slice none 0 0) := (blk_cell BK545.out 0).trans rfl; have hfz9_0 := blk_frozen BK545.out 0))
 go_loopg [11] k (fun kq v11 w' => ∃ (x11_1 : Int) (x546000_1 : List Int) (u546000 : Value), v11 = .int .i64 x11_1 ∧ Aside0 (impl_votesBy.l0 kq a0 l1 (l1.length : Int) x11_1 x546000_1 = some (r1, r2)) ∧ Aside0 (kq ≤ k) ∧ Aside0 (Kd.R (Kd.int .i64) 3 w' w.heap.size (fun _ => True) u546000 x546000_1) ∧ Aside0 (w'.heap[gb541]? = some (.cells #[.int .i64 0, (.slice none 0 0)] 53 (0, 0))) ∧ Aside0 (w'.heap[gb545]? = some (.cells #[u546000] 22 (0, 0))) ∧ Aside0 (Below w.heap.size w w'))
 case atStart => exact ⟨(0), (y542), (.slice Ao7 y542.length co7), (by first | rfl | (simp; done) | (simp [*]; done)), H', ⟨Nat.le_refl _⟩, ⟨by (with_reducible repeat (first | apply Kd.R_alloc | apply Kd.R_drewN | apply Kd.R_drew)); exact Kd.R_mono (Kd.R_far (p := ⟨gb545, 0, none⟩) (Kd.R_types HO544.out BK545.out (by decide)) (fun _ hk => hk.2) (.slice Ao7 y542.length co7)) (fun _ hk => trivial)⟩, ⟨by (with_reducible repeat (first | refine blk_drewN ?_ _ | refine blk_drew ?_ | refine blk_alloc ?_ _)); refine blk_far ?_ NB541_545.out _; (with_reducible repeat (first | refine blk_drewN ?_ _ | refine blk_drew ?_ | refine blk_alloc ?_ _)); exact BK541.out⟩, ⟨by (with_reducible repeat (first | refine blk_drewN ?_ _ | refine blk_drew ?_ | refine blk_alloc ?_ _)); refine blk_put (cs := #[.slice none 0 0]) ?_ 0 _ rfl; (with_reducible repeat (first | refine blk_drewN ?_ _ | refine blk_drew ?_ | refine blk_alloc ?_ _)); exact BK545.out⟩, ⟨zh HB.out⟩⟩
 case round =>
  clear H'
  try clear c1
  try clear p2
  try clear c6
  try clear c8
  try clear hcz9_0
  try clear hfz9_0
  obtain ⟨x11_1, x546000_1, u546000, rfl, HA, HK1, HO_546000, BK541, BK545, HB⟩ := hrel
  cases gk with
  | zero => exact absurd HA.out (by simp [impl_votesBy.l0])
  | succ k1 =>
   have H := HA.out
   clear HA
   simp only [impl_votesBy.l0] at H
   by_cases c10 : x11_1 < (l1.length : Int)
   rotate_left
   ·rw [if_neg c10] at H
    have c10b0 : decide (x11_1 < (l1.length : Int)) = false := decide_eq_false c10
    clear c10
    replace H := Option.bind_eq_some_iff.mp H
    obtain ⟨⟨t551, t552⟩, A190, H⟩ := H
    replace H : (some (t551, t552)) = some (r1, r2) := H
    have A19 := Aside0.mk A190
    clear A190
    simp only [Option.some.injEq, Prod.mk.injEq] at H
    obtain ⟨rfl, rfl⟩ := H
    obtain ⟨Ao20, co20, eo20⟩ := Kd.R_slice HO_546000.out
    subst eo20
    go_wp2_with (first | ((with_reducible refine gate_callee (f := 55) rfl ?_); refine goesL_ (some 23) rfl rfl Try.func55 (by kernel_rfl) rfl #[.int .i64 a0, .func (.func 86) #[] #[.pointer (some ⟨gb545, 0, none⟩)]] rfl (by (try simp only [List.map_toArray, List.map_cons, List.map_nil]); first | done | rfl | (simp only [List.length_drop, List.length_take]; rfl)) ?_; (with_reducible refine (votesOf_votesBy.calls k1 a0 _ _ x546000_1 t551 t552 _ ?side1 ?side2 gb545 (by first | exact (blk_cell (zb BK545.out) 0).trans rfl | exact (blk_cell (blk_put (zb BK545.out) 0 _ rfl) 0).trans rfl | exact zb BK545.out) A19.out).mono ?_); (case side1 => repeat (first | exact (Kd.R_reads' HO_546000.out).2.2 | (with_reducible refine Kd.C_alloc ?_ _) | (with_reducible refine Kd.C_drewN ?_ _) | (with_reducible refine Kd.C_drew ?_))); (case side2 => exact (Kd.R_reads' HO_546000.out).2.1); rintro e w21 ⟨v553, rfl, ho0, hb⟩; refine ⟨_, rfl, ?_⟩; have n0_ := Aside0.mk (Kd.R_below (zr HO_546000.out) hb); have n1_ := Aside0.mk (Kd.R_lower ho0 (below_size (zh HB.out))); have n2_ := Aside0.mk (blk_below (g := gb541) (o := .cells #[.int .i64 0, .slice none 0 0] 53 (0, 0)) (zb BK541.out) hb); have n3_ := Aside0.mk (blk_below (g := gb545) (o := .cells #[.slice Ao20 x546000_1.length co20] 22 (0, 0)) (zb BK545.out) hb); have n4_ := Aside0.mk (below_step (zh HB.out) hb); clear HO_546000; clear BK541; clear BK545; clear HB; have HO_546000 := n0_; have HO554 := n1_; have BK541 := n2_; have BK545 := n3_; have HB := n4_; clear n0_ n1_ n2_ n3_ n4_; (try clear hb); (try clear hb2); (try clear hk); (try clear hi); (try clear ho0); have hnb22 := NB541_545.out; have hnc22 := NB545_541.out; have hcz23_0 : w21.cell? ⟨gb541, 0, none⟩ = some (.int .i64 0) := (blk_cell BK541.out 0).trans rfl; have hcz23_1 : w21.cell? ⟨gb541, 1, none⟩ = some (.slice none 0 0) := (blk_cell BK541.out 1).trans rfl; have hfz23_0 := blk_frozen BK541.out 0; have hfz23_1 := blk_frozen BK541.out 1; obtain ⟨Ao24, co24, eo24⟩ := Kd.R_slice HO554.out; subst eo24))
    refine bodyPost_ret (results_cell_row rfl _ _ gb541 53 #[.int .i64 t551, .slice Ao24 t552.length co24] (0, 0) _ rfl (by (with_reducible repeat (first | refine blk_drewN ?_ _ | refine blk_drew ?_ | refine blk_alloc ?_ _)); refine blk_put (cs := #[.int .i64 t551, .slice none 0 0]) ?_ 1 _ rfl; (with_reducible repeat (first | refine blk_drewN ?_ _ | refine blk_drew ?_ | refine blk_alloc ?_ _)); refine blk_put (cs := #[.int .i64 0, .slice none 0 0]) ?_ 0 _ rfl; (with_reducible repeat (first | refine blk_drewN ?_ _ | refine blk_drew ?_ | refine blk_alloc ?_ _)); exact BK541.out) Try.underlying53 rfl (by kernel_rfl)) rfl ?_
    exact ⟨_, by first | rfl | (simp [*, errW_none, errW_some] <;> rfl), by (with_reducible repeat (first | apply Kd.R_alloc | apply Kd.R_drewN | apply Kd.R_drew)); exact Kd.R_mono (Kd.R_far (p := ⟨gb541, 1, none⟩) (Kd.R_far (p := ⟨gb541, 0, none⟩) (Kd.R_types HO554.out BK541.out (by decide)) (fun _ hk => hk.2) (.int .i64 t551)) (fun _ hk => hk.2) (.slice Ao24 t552.length co24)) (fun _ hk => trivial), zh HB.out⟩
   rw [if_pos c10] at H
   have c10b0 : decide (x11_1 < (l1.length : Int)) = true := decide_eq_true c10
   clear c10
   by_cases c11 : 0 ≤ x11_1
   rotate_left
   ·rw [if_neg c11] at H
    exact absurd H (by simp)
   rw [if_pos c11] at H
   have c11b0 : decide (0 ≤ x11_1) = true := decide_eq_true c11
   clear c11
   by_cases c12 : x11_1 < (l1.length : Int)
   rotate_left
   ·rw [if_neg c12] at H
    exact absurd H (by simp)
   rw [if_pos c12] at H
   have c12b0 : decide (x11_1 < (l1.length : Int)) = true := decide_eq_true c12
   clear c12
   replace H := Option.bind_eq_some_iff.mp H
   obtain ⟨t547, A130, H⟩ := H
   replace H : (if x546000_1.length < 17592186044416 then (impl_votesBy.l0 k1 a0 l1 (l1.length : Int) (wrap64 (x11_1 + 1)) (x546000_1 ++ [t547])) else (none)) = some (r1, r2) := H
   have A13 := Aside0.mk A130
   clear A130
   by_cases c14 : x546000_1.length < 17592186044416
   rotate_left
   ·rw [if_neg c14] at H
    exact absurd H (by simp)
   rw [if_pos c14] at H
   have LMc14 := Aside0.mk c14
   clear c14
   obtain ⟨y548, hy548⟩ : ∃ y_ : List Int, y_ = (x546000_1 ++ [t547]) := ⟨_, rfl⟩
   replace H : (impl_votesBy.l0 k1 a0 l1 (l1.length : Int) (wrap64 (x11_1 + 1)) y548) = some (r1, r2) := by first | (rw [hy548]; with_reducible exact H) | (have H2_ := (Option.bind_some _ _).symm.trans H; rw [hy548]; with_reducible exact H2_) | (have H2_ := (Option.bind_some _ _).symm.trans H; with_reducible exact H2_) | with_reducible exact H | (rw [hy548]; exact H) | exact H
   have Ny548 := Aside0.mk hy548
   clear hy548
   have H' := Aside0.mk H
   clear H
   have p546 : 0 ≤ (x11_1 : Int) := of_decide_eq_true (by first | (with_reducible assumption) | assumption)
   have q546 : x11_1 < (l1.length : Int) := of_decide_eq_true (by first | (with_reducible assumption) | assumption)
   obtain ⟨ad546, A546_0, c546_0, e546, hx546_0, hl546_0, hi546_0⟩ := at_L1 HR1.out x11_1 p546 q546
   cases e546
   replace hx546_0 := (HB.out.cell (World.block_lt_of_cell? w _ hx546_0)).trans hx546_0
   have HR546_0 := Aside0.mk hi546_0
   have HC546_0 := Aside0.mk hl546_0
   clear hi546_0 hl546_0
   replace p546 := eq_true p546
   replace q546 := eq_true q546
   try go_wp2
   have n0_ := Aside0.mk (Kd.R_drew HO_546000.out)
   have n1_ := Aside0.mk (blk_drew BK541.out)
   have n2_ := Aside0.mk (blk_drew BK545.out)
   have n3_ := Aside0.mk (below_drew1 HB.out)
   clear HO_546000
   clear BK541
   clear BK545
   clear HB
   have HO_546000 := n0_
   have BK541 := n1_
   have BK545 := n2_
   have HB := n3_
   clear n0_ n1_ n2_ n3_
   refine start_ (n := 6) (S := fun w' => w'.cell? ⟨gb545, 0, none⟩ = some (u546000)) (ds := [5]) (tb 6 0) (by kernel_rfl) rfl rfl ((blk_cell BK545.out 0).trans rfl) (fun hHeld => ?_)
   generalize wr.drew = w15 at HO_546000 BK541 BK545 HB hHeld ⊢
   refine pure_ (i := 1) (N := some 16) (v := ?_) (a' := ?_) (tb 6 2) rfl rfl (by kernel_rfl) (fun _ _ _ h => h) (Or.inl ⟨by rfl, ?_⟩) ?_ ?_
   rotate_left
   ·intro w'
    go_simp
    with_reducible rfl
   rotate_left
   ·simp only [Act.put, List.setIfInBounds_toArray, List.set_cons_zero, List.set_cons_succ, i64_w, i32_w]
    rfl
   refine take_ (i := 0) (N := some 15) (v := ?_) (a' := ?_) (tb 6 3) rfl rfl (by kernel_rfl) (fun _ _ _ h => h) (Or.inl ⟨by rfl, ?_⟩) hHeld ?_ ?_
   rotate_left
   ·intro w' s0
    go_simp
    with_reducible rfl
   rotate_left
   ·simp only [Act.put, List.setIfInBounds_toArray, List.set_cons_zero, List.set_cons_succ, i64_w, i32_w]
    rfl
   refine one_ (i := 2) (N := some 17) (tb 6 7) rfl rfl (by kernel_rfl) (by decide) (fun K hK => ?_)
   refine goes_ Try.func85 (by kernel_rfl) rfl #[.slice A546_0 (rd_L1 l1 x11_1).length c546_0] (by rfl) rfl rfl (by (try simp only [List.map_toArray, List.map_cons, List.map_nil]); first | done | rfl | (simp only [List.length_drop, List.length_take]; rfl)) ?_
   with_reducible refine (impl_maskOf.calls k1 _ _ (rd_L1 l1 x11_1) t547 _ ?side1 ?side2 A13.out).mono ?_
   (case side1 => repeat (first | exact (Kd.C_below HR546_0.out HB.out) | (with_reducible refine Kd.C_alloc ?_ _) | (with_reducible refine Kd.C_drewN ?_ _) | (with_reducible refine Kd.C_drew ?_)))
   (case side2 => exact HC546_0.out)
   rintro e w' ⟨rfl, ⟨nd, rfl⟩⟩
   refine ⟨_, rfl, ?_⟩
   refine hK.out _ _ ((blk_cell BK545.out 0).trans rfl) (fun hHeld => ?_)
   clear hK K
   refine norm_ (a' := ?_) ?_ ?_
   rotate_left
   ·show Act.put _ (some 17) _ = _
    simp only [Act.put, List.setIfInBounds_toArray, List.set_cons_zero, List.set_cons_succ, i64_w, i32_w]
    rfl
   refine one_ (i := 3) (N := some 18) (tb 6 15) rfl rfl (by kernel_rfl) (by decide) (fun K hK => ?_)
   refine value_ (w1 := ?_) (v := ?_) (by rfl) rfl ?_ ?_
   rotate_left 2
   ·go_simp
    constructor
    ·rfl
    ·rfl
   refine hK.out _ _ ((blk_cell (blk_alloc BK545.out _) 0).trans rfl) (fun hHeld => ?_)
   clear hK K
   refine norm_ (a' := ?_) ?_ ?_
   rotate_left
   ·show Act.put _ (some 18) _ = _
    simp only [Act.put, List.setIfInBounds_toArray, List.set_cons_zero, List.set_cons_succ, i64_w, i32_w]
    rfl
   refine one_ (i := 4) (N := some 19) (tb 6 31) rfl rfl (by kernel_rfl) (by decide) (fun K hK => ?_)
   refine Kd.R_append_step (Kd.int .i64) (w0 := w) w.heap.size (by rfl) (.tmp 15) (.tmp 18) 22 3 (.int .i64 0) 8 rfl Try.underlying22 info3 rfl (by decide) (by omega) u546000 x546000_1 t547 [.int .i64 t547] (fun _ => True) (fun _ => False) rfl rfl ?aP (fun _ hk => hk.elim) ?aF ?aO ?aB ?aS ?aL ?_
   (case aP => exact rfl)
   (case aB => exact (zh HB.out))
   (case aF => exact (fun _ _ => trivial))
   (case aO => exact (zr HO_546000.out))
   (case aS => exact (below_size (zh HB.out)))
   (case aL => have := LMc14.out; omega)
   intro v549 w16 ho hb hg hat
   rw [← Ny548.out] at ho
   have n0_ := Aside0.mk (blk_grown (g := gb541) (o := .cells #[.int .i64 0, .slice none 0 0] 53 (0, 0)) (zb BK541.out) hg (Kd.R_ne HO_546000.out BK541.out (by decide)))
   have n1_ := Aside0.mk (blk_grown (g := gb545) (o := .cells #[u546000] 22 (0, 0)) (zb BK545.out) hg (Kd.R_ne HO_546000.out BK545.out (by decide)))
   have n2_ := Aside0.mk (hb)
   have n3_ := Aside0.mk (ho)
   clear BK541
   clear BK545
   clear HB
   clear HO_546000
   have BK541 := n0_
   have BK545 := n1_
   have HB := n2_
   have HO550 := n3_
   clear n0_ n1_ n2_ n3_
   clear ho hb hg hat
   obtain ⟨Ao17, co17, eo17⟩ := Kd.R_slice HO550.out
   (first | subst eo17 | (injection eo17 with f1_ f2_ f3_; have f4_ := f1_.symm; have f5_ := f3_.symm; clear f1_ f2_ f3_; subst f4_; subst f5_))
   refine hK.out _ _ ((blk_cell BK545.out 0).trans rfl) (fun hHeld => ?_)
   clear hK K
   refine norm_ (a' := ?_) ?_ ?_
   rotate_left
   ·show Act.put _ (some 19) _ = _
    simp only [Act.put, List.setIfInBounds_toArray, List.set_cons_zero, List.set_cons_succ, i64_w, i32_w]
    rfl
   refine last_ (i := 5) (N := none) (tb 6 63) rfl rfl (by kernel_rfl) (by decide) (fun K hK => ?_)
   have hs18 : w16.cell? ⟨gb545, 0, none⟩ = some (u546000) := (blk_cell BK545.out 0).trans rfl
   have hfs18 := blk_frozen BK545.out 0
   have hns18_0 := NB541_545.out
   have hms18_0 := NB545_541.out
   refine skip_ (w1 := ?_) (by rfl) rfl ?_ ?_
   rotate_left
   ·go_simp
    rfl
   refine hK.out _ _ ?_
   clear hK K
   refine done_ (by kernel_rfl) ?_
   try go_wp2
   go_roundg k1
   case measure => have := HK1.out; omega
   case rel => exact ⟨(wrap64 (x11_1 + 1)), (y548), (.slice Ao17 y548.length co17), (by first | rfl | (simp; done) | (simp [*]; done)), H', ⟨by have := HK1.out; omega⟩, ⟨by (with_reducible repeat (first | apply Kd.R_alloc | apply Kd.R_drewN | apply Kd.R_drew)); exact Kd.R_mono (Kd.R_far (p := ⟨gb545, 0, none⟩) (Kd.R_types HO550.out BK545.out (by decide)) (fun _ hk => hk.2) (.slice Ao17 y548.length co17)) (fun _ hk => trivial)⟩, ⟨by (with_reducible repeat (first | refine blk_drewN ?_ _ | refine blk_drew ?_ | refine blk_alloc ?_ _)); refine blk_far ?_ NB541_545.out _; (with_reducible repeat (first | refine blk_drewN ?_ _ | refine blk_drew ?_ | refine blk_alloc ?_ _)); exact BK541.out⟩, ⟨by (with_reducible repeat (first | refine blk_drewN ?_ _ | refine blk_drew ?_ | refine blk_alloc ?_ _)); refine blk_put (cs := #[u546000]) ?_ 0 _ rfl; (with_reducible repeat (first | refine blk_drewN ?_ _ | refine blk_drew ?_ | refine blk_alloc ?_ _)); exact BK545.out⟩, ⟨zh HB.out⟩⟩
def impl_Game_votes.f (k : Nat) (a0_0 : Int) (l0_1 : List (List Int)) : Option (Int × List Bool) := (impl_votesBy.f k a0_0 l0_1).bind fun bt557 => (some (bt557.1, bt557.2))
set_option maxHeartbeats 8000000 in
set_option maxRecDepth 100000 in
theorem impl_Game_votes.calls (k : Nat) (a0_0 : Int) (A0_1 : Option Addr) (c0_1 : Nat) (l0_1 : List (List Int)) (r1 : Int) (r2 : List Bool) (w : World) (hr0_1 : Kd.C (Kd.slice 3 (Kd.int .i64)) w A0_1 l0_1.length l0_1) (hc0_1 : l0_1.length ≤ c0_1) (h : impl_Game_votes.f k a0_0 l0_1 = some (r1, r2)) :
  Calls Try.prog 44 #[.agg #[.int .i64 a0_0, .slice A0_1 l0_1.length c0_1]] w fun e w' => ∃ v1_ : Value, e = .returned (.agg #[.int .i64 r1, v1_]) ∧ Kd.R Kd.bool 4 w' w.heap.size (fun _ => True) v1_ r2 ∧ Below w.heap.size w w' := by
 have hu41 := Try.underlying41
 have hu53 := Try.underlying53
 have HR0_1 := Aside0.mk hr0_1
 have HC0_1 := Aside0.mk hc0_1
 clear hr0_1 hc0_1
 have HB := Aside0.mk (Below.refl w.heap.size w)
 have H : ((impl_votesBy.f k a0_0 l0_1).bind fun bt557 => (some (bt557.1, bt557.2))) = some (r1, r2) := h
 clear h
 replace H := Option.bind_eq_some_iff.mp H
 obtain ⟨⟨t557, t558⟩, A20, H⟩ := H
 replace H : (some (t557, t558)) = some (r1, r2) := H
 have A2 := Aside0.mk A20
 clear A20
 simp only [Option.some.injEq, Prod.mk.injEq] at H
 obtain ⟨rfl, rfl⟩ := H
 go_enter Try.func44, Try.ntmps44
 go_wp2_with (first | ((with_reducible refine gate_dst (N := 1) rfl ?_); refine box_event ?hg (N := 1) ?hd (cs := #[.int .i64 a0_0, .slice A0_1 l0_1.length c0_1]) (t := 41) ?hr ?_; (case hd => rfl); (case hg => rfl); (case hr => first | (go_simp; done) | (go_simp; rfl)); intro gb555 hg w3 hbox hb; have n2_ := Aside0.mk ((by rw [hg]; exact (below_size (zh HB.out)) : w.heap.size ≤ gb555)); replace HB := Aside0.mk (below_step (zh HB.out) hb); have BK555 := Aside0.mk hbox; have GW555 := n2_; have GE555 := n2_; clear n2_ hb hbox hg) | ((with_reducible refine gate_dst (N := 2) rfl ?_); refine box_event ?hg (N := 2) ?hd (cs := #[.int .i64 0, .slice none 0 0]) (t := 53) ?hr ?_; (case hd => rfl); (case hg => rfl); (case hr => first | (go_simp; done) | (go_simp; rfl)); intro gb556 hg w4 hbox hb; have n0_ := Aside0.mk (blk_below (g := gb555) (o := .cells #[.int .i64 a0_0, .slice A0_1 l0_1.length c0_1] 41 (0, 0)) (zb BK555.out) hb); have n1_ := Aside0.mk (below_step (zh HB.out) hb); have n2_ := Aside0.mk (hbox); have n3_ := Aside0.mk ((by rw [hg]; exact (below_size (zh HB.out)) : w.heap.size ≤ gb556)); have n4_ := Aside0.mk ((by rw [hg]; exact (below_size (zh HB.out)) : w.heap.size ≤ gb556)); have n5_ := Aside0.mk ((by rw [hg]; exact Nat.ne_of_lt (blk_lt (g := gb555) (o := .cells #[.int .i64 a0_0, .slice A0_1 l0_1.length c0_1] 41 (0, 0)) (zb BK555.out)) : gb555 ≠ gb556)); have n6_ := Aside0.mk ((by rw [hg]; exact Nat.ne_of_gt (blk_lt (g := gb555) (o := .cells #[.int .i64 a0_0, .slice A0_1 l0_1.length c0_1] 41 (0, 0)) (zb BK555.out)) : gb556 ≠ gb555)); clear BK555; clear HB; have BK555 := n0_; have HB := n1_; have BK556 := n2_; have GW556 := n3_; have GE556 := n4_; have NB555_556 := n5_; have NB556_555 := n6_; clear n0_ n1_ n2_ n3_ n4_ n5_ n6_; clear hb hbox hg; have hnb5 := NB555_556.out; have hnc5 := NB556_555.out; have hcz6_0 : w4.cell? ⟨gb555, 0, none⟩ = some (.int .i64 a0_0) := (blk_cell BK555.out 0).trans rfl; have hcz6_1 : w4.cell? ⟨gb555, 1, none⟩ = some (.slice A0_1 l0_1.length c0_1) := (blk_cell BK555.out 1).trans rfl; have hfz6_0 := blk_frozen BK555.out 0; have hfz6_1 := blk_frozen BK555.out 1) | ((with_reducible refine gate_callee (f := 65) rfl ?_); refine goesL_ (some 7) rfl rfl Try.func65 (by kernel_rfl) rfl #[.int .i64 a0_0, .slice A0_1 l0_1.length c0_1] rfl (by (try simp only [List.map_toArray, List.map_cons, List.map_nil]); first | done | rfl | (simp only [List.length_drop, List.length_take]; rfl)) ?_; (with_reducible refine (impl_votesBy.calls k a0_0 _ _ l0_1 t557 t558 _ ?side1 ?side2 A2.out).mono ?_); (case side1 => repeat (first | exact (Kd.C_below HR0_1.out HB.out) | (with_reducible refine Kd.C_alloc ?_ _) | (with_reducible refine Kd.C_drewN ?_ _) | (with_reducible refine Kd.C_drew ?_))); (case side2 => exact HC0_1.out); rintro e w7 ⟨v559, rfl, ho0, hb⟩; refine ⟨_, rfl, ?_⟩; have n0_ := Aside0.mk (Kd.R_lower ho0 (below_size (zh HB.out))); have n1_ := Aside0.mk (blk_below (g := gb555) (o := .cells #[.int .i64 a0_0, .slice A0_1 l0_1.length c0_1] 41 (0, 0)) (zb BK555.out) hb); have n2_ := Aside0.mk (blk_below (g := gb556) (o := .cells #[.int .i64 0, .slice none 0 0] 53 (0, 0)) (zb BK556.out) hb); have n3_ := Aside0.mk (below_step (zh HB.out) hb); clear BK555; clear BK556; clear HB; have HO560 := n0_; have BK555 := n1_; have BK556 := n2_; have HB := n3_; clear n0_ n1_ n2_ n3_; (try clear hb); (try clear hb2); (try clear hk); (try clear hi); (try clear ho0); have hcz8_0 : w7.cell? ⟨gb556, 0, none⟩ = some (.int .i64 0) := (blk_cell BK556.out 0).trans rfl; have hcz8_1 : w7.cell? ⟨gb556, 1, none⟩ = some (.slice none 0 0) := (blk_cell BK556.out 1).trans rfl; have hfz8_0 := blk_frozen BK556.out 0; have hfz8_1 := blk_frozen BK556.out 1; obtain ⟨Ao9, co9, eo9⟩ := Kd.R_slice HO560.out; subst eo9))
 refine bodyPost_ret (results_cell_row rfl _ _ gb556 53 #[.int .i64 t557, .slice Ao9 t558.length co9] (0, 0) _ rfl (by (with_reducible repeat (first | refine blk_drewN ?_ _ | refine blk_drew ?_ | refine blk_alloc ?_ _)); refine blk_put (cs := #[.int .i64 t557, .slice none 0 0]) ?_ 1 _ rfl; (with_reducible repeat (first | refine blk_drewN ?_ _ | refine blk_drew ?_ | refine blk_alloc ?_ _)); refine blk_put (cs := #[.int .i64 0, .slice none 0 0]) ?_ 0 _ rfl; (with_reducible repeat (first | refine blk_drewN ?_ _ | refine blk_drew ?_ | refine blk_alloc ?_ _)); exact BK556.out) Try.underlying53 rfl (by kernel_rfl)) rfl ?_
 exact ⟨_, by first | rfl | (simp [*, errW_none, errW_some] <;> rfl), by (with_reducible repeat (first | apply Kd.R_alloc | apply Kd.R_drewN | apply Kd.R_drew)); exact Kd.R_mono (Kd.R_far (p := ⟨gb556, 1, none⟩) (Kd.R_far (p := ⟨gb556, 0, none⟩) (Kd.R_types HO560.out BK556.out (by decide)) (fun _ hk => hk.2) (.int .i64 t557)) (fun _ hk => hk.2) (.slice Ao9 t558.length co9)) (fun _ hk => trivial), zh HB.out⟩
end Go.Proofs.Ytlhkphehlocdcaa.Q
end
section
namespace Go.Proofs.Ytlhkphehlocdcaa.Q
open Go.RowKit Go.Proofs.YtlhkphehlocdcaaW.PrintWords Go.Proofs.YtlhkphehlocdcaaW.PrintLast Go.Proofs.YtlhkphehlocdcaaW.PrintMore
set_option linter.unusedVariables false
set_option linter.unusedSimpArgs false
theorem toIntS_ev (l : List Int) (hl : l.length ≤ 1152921504606) : Ev (fun k => laws_toIntS.f k l) l := by
  unfold laws_toIntS.f
  refine ev_pos (by omega) (ev_pos (by omega) ?_)
  rw [Int.toNat_natCast]
  have key : ∀ (d i : Nat), i + d = l.length → Ev (fun k => laws_toIntS.l0 k l (l.take i ++ List.replicate (l.length - i) 0) (i : Int)) l := by
    intro d
    induction d with
    | zero =>
      intro i hi
      refine ev_succ ?_
      simp only [laws_toIntS.l0]
      refine ev_neg (by omega) (ev_eqv (Ev.now _) ?_)
      rw [show i = l.length by omega]; simp
    | succ d ih =>
      intro i hi
      have h1 : i < l.length := by omega
      refine ev_succ ?_
      simp only [laws_toIntS.l0]
      refine ev_pos (by omega) (ev_pos (by omega) (ev_pos (by rw [List.length_append, List.length_take, List.length_replicate]; omega) ?_))
      rw [wrap_succ h1 (by omega), Int.toNat_natCast, rd_get h1]
      have e : (l.take i ++ List.replicate (l.length - i) 0).set i l[i] = l.take (i + 1) ++ List.replicate (l.length - (i + 1)) 0 := by
        rw [List.set_append_right _ _ (by rw [List.length_take]; omega), List.length_take, Nat.min_eq_left (by omega), Nat.sub_self, show l.length - i = (l.length - (i + 1)) + 1 by omega, List.replicate_succ, List.set_cons_zero, List.take_succ_eq_append_getElem h1, List.append_assoc]
        rfl
      rw [e]
      exact ih (i + 1) (by omega)
  exact key l.length 0 (by omega)
def maskN (m : Nat) : List Int → Nat
  | [] => m
  | x :: l => maskN (m ||| 2 ^ x.toNat) l
theorem maskOf_ev (l : List Int) (hl : l.length ≤ 1152921504606) (h : ∀ x ∈ l, 0 ≤ x ∧ x ≤ 15) : Ev (fun k => impl_maskOf.f k l) (maskN 0 l : Int) ∧ Ev (fun k => spec_voBits.f k l) (maskN 0 l : Int) := by
  unfold impl_maskOf.f spec_voBits.f
  have key : ∀ (d i m : Nat), i + d = l.length → m < 65536 → Ev (fun k => impl_maskOf.l0 k (m : Int) l (l.length : Int) (i : Int)) (maskN m (l.drop i) : Int) ∧ Ev (fun k => spec_voBits.l0 k (m : Int) l (l.length : Int) (i : Int)) (maskN m (l.drop i) : Int) := by
    intro d
    induction d with
    | zero =>
      intro i m hi hm
      refine ⟨ev_succ ?_, ev_succ ?_⟩
      all_goals
        simp only [impl_maskOf.l0, spec_voBits.l0]
        refine ev_neg (by omega) (ev_eqv (Ev.now _) ?_)
        rw [List.drop_of_length_le (by omega)]; rfl
    | succ d ih =>
      intro i m hi hm
      have h1 : i < l.length := by omega
      have hx := h l[i] (List.getElem_mem h1)
      obtain ⟨q, hq⟩ := Int.eq_ofNat_of_zero_le hx.1
      have hq16 : q ≤ 15 := by omega
      have hp : 2 ^ q < 65536 := Nat.pow_lt_pow_right (n := 16) (by decide) (by omega)
      have ih' := ih (i + 1) (m ||| 2 ^ q) (by omega) (Nat.or_lt_two_pow (n := 16) hm hp)
      rw [List.drop_eq_getElem_cons h1, maskN, hq, Int.toNat_natCast]
      refine ⟨ev_succ ?_, ev_succ ?_⟩
      all_goals
        simp only [impl_maskOf.l0, spec_voBits.l0]
        refine ev_pos (by omega) (ev_pos (by omega) (ev_pos (by omega) (ev_pos (by rw [rd_get h1]; omega) ?_)))
        rw [rd_get h1, hq, shl_one_nat q (by omega), or_nat m (2 ^ q) (by omega) (by omega), wrap_succ h1 (by omega)]
      · exact ih'.1
      · exact ih'.2
  exact key l.length 0 0 (by omega) (by decide)
def incFrom : Option Int → List Int → Bool
  | _, [] => true
  | p, x :: l => (match p with | none => true | some y => decide (y < x)) && incFrom (some x) l
def incB (l : List Int) : Bool := incFrom none l
def isSetB (l : List Int) (n : Int) : Bool := l.all (inB · 0 (n - 1)) && incB l
def prev (l : List Int) : Nat → Option Int
  | 0 => none
  | i + 1 => l[i]?
theorem isIncreasing_ev (l : List Int) (hl : l.length ≤ 1152921504606) : Ev (fun k => impl_isIncreasing.f k l) (incB l) := by
  unfold impl_isIncreasing.f
  have key : ∀ (d i : Nat), i + d = l.length → Ev (fun k => impl_isIncreasing.l0 k l (l.length : Int) (i : Int)) (incFrom (prev l i) (l.drop i)) := by
    intro d
    induction d with
    | zero =>
      intro i hi
      refine ev_succ ?_
      simp only [impl_isIncreasing.l0]
      refine ev_neg (by omega) (ev_eqv (Ev.now _) ?_)
      rw [List.drop_of_length_le (by omega)]; rfl
    | succ d ih =>
      intro i hi
      have h1 : i < l.length := by omega
      have ih' := ih (i + 1) (by omega)
      have hp : prev l (i + 1) = some l[i] := by rw [prev, List.getElem?_eq_getElem h1]
      rw [hp] at ih'
      refine ev_succ ?_
      simp only [impl_isIncreasing.l0]
      refine ev_pos (by omega) ?_
      rw [wrap_succ h1 (by omega), List.drop_eq_getElem_cons h1]
      cases i with
      | zero => exact ev_neg (by omega) (ev_eqv ih' (by simp [incFrom, prev]))
      | succ i =>
        have h2 : i < l.length := by omega
        rw [wrap_pred h2 (by omega), rd_get h1, rd_get h2]
        refine ev_pos (by omega) (ev_pos (by omega) (ev_pos (by omega) (ev_pos (by omega) (ev_pos (by omega) ?_))))
        have e : prev l (i + 1) = some l[i] := by rw [prev, List.getElem?_eq_getElem h2]
        rw [e, incFrom]
        by_cases c : l[i + 1] ≤ l[i]
        · exact ev_pos c (ev_eqv (Ev.now _) (by rw [decide_eq_false (by omega)]; rfl))
        · exact ev_neg c (ev_eqv ih' (by rw [decide_eq_true (by omega)]; rfl))
  exact key l.length 0 (by omega)
theorem l1Rising_ev (l : List Int) (lo hi : Int) (hl : l.length ≤ 1152921504606) : Ev (fun k => spec_l1Rising.f k l lo hi) (l.all (inB · lo hi) && incB l) := by
  unfold spec_l1Rising.f
  have key : ∀ (d i : Nat), i + d = l.length → Ev (fun k => spec_l1Rising.l0 k l lo hi l (l.length : Int) (i : Int)) ((l.drop i).all (inB · lo hi) && incFrom (prev l i) (l.drop i)) := by
    intro d
    induction d with
    | zero =>
      intro i hi
      refine ev_succ ?_
      simp only [spec_l1Rising.l0]
      refine ev_neg (by omega) (ev_eqv (Ev.now _) ?_)
      rw [List.drop_of_length_le (by omega)]; rfl
    | succ d ih =>
      intro i hi
      have h1 : i < l.length := by omega
      have ih' := ih (i + 1) (by omega)
      have hp : prev l (i + 1) = some l[i] := by rw [prev, List.getElem?_eq_getElem h1]
      rw [hp] at ih'
      refine ev_succ ?_
      simp only [spec_l1Rising.l0, l1In_eq, Option.bind_some]
      refine ev_pos (by omega) (ev_pos (by omega) (ev_pos (by omega) ?_))
      rw [wrap_succ h1 (by omega), List.drop_eq_getElem_cons h1, rd_get h1, List.all_cons]
      refine ev_bool (fun hb => ?_) (fun hb => ev_eqv (Ev.now _) (by rw [hb]; rfl))
      rw [hb]
      cases i with
      | zero => exact ev_neg (by omega) (ev_eqv ih' (by simp [incFrom, prev]))
      | succ i =>
        have h2 : i < l.length := by omega
        rw [wrap_pred h2 (by omega), rd_get h2]
        refine ev_pos (by omega) (ev_pos (by omega) (ev_pos (by omega) ?_))
        have e : prev l (i + 1) = some l[i] := by rw [prev, List.getElem?_eq_getElem h2]
        rw [e, incFrom]
        by_cases c : l[i] ≥ l[i + 1]
        · exact ev_pos c (ev_eqv (Ev.now _) (by rw [decide_eq_false (by omega)]; simp))
        · exact ev_neg c (ev_eqv ih' (by rw [decide_eq_true (by omega)]; rfl))
  exact key l.length 0 (by omega)
theorem any_not_all {α : Type} (l : List α) (p : α → Bool) : (!l.any fun x => !p x) = l.all p := by
  induction l with
  | nil => rfl
  | cons x l ih => rw [List.any_cons, List.all_cons, ← ih]; cases p x <;> simp
theorem areIn_eq (l : List Int) (lo hi : Int) : impl_areIn.f l lo hi = some (l.all (inB · lo hi)) := by
  unfold impl_areIn.f
  rw [anyO_some (q := fun x => !inB x lo hi) (fun x _ => by unfold impl_areIn_1.f; rw [within_eq]; rfl)]
  rw [Option.bind_some, any_not_all]
theorem isSet_ev (l : List Int) (n : Int) (hn : -1000000 ≤ n ∧ n ≤ 1000000) (hl : l.length ≤ 1152921504606) : Ev (fun k => impl_isSet.f k l n) (isSetB l n) := by
  unfold impl_isSet.f isSetB
  rw [wrap64_id (by omega)]
  simp only [areIn_eq, Option.bind_some]
  refine ev_bool (fun hb => ?_) (fun hb => ev_eqv (Ev.now _) (by rw [hb]; rfl))
  rw [hb]
  exact Ev.bind (isIncreasing_ev l hl) (Ev.now _)
theorem voSet_ev (l : List Int) (n : Int) (hn : -1000000 ≤ n ∧ n ≤ 1000000) (hl : l.length ≤ 1152921504606) : Ev (fun k => spec_voSet.f k n l) (isSetB l n) := by
  unfold spec_voSet.f isSetB
  rw [wrap64_id (by omega)]
  exact Ev.bind (l1Rising_ev l 0 (n - 1) hl) (Ev.now _)
theorem isSetB_mem {l : List Int} {n : Int} (h : isSetB l n = true) : ∀ x ∈ l, 0 ≤ x ∧ x ≤ n - 1 := by
  intro x hx
  unfold isSetB at h
  rw [Bool.and_eq_true, List.all_eq_true] at h
  exact inB_iff.1 (h.1 x hx)
theorem ev_range {R : Type} (n : Nat) (L : Nat → Nat → Option R) (v : Nat → R) (hend : Ev (fun k => L k n) (v n)) (hstep : ∀ i, i < n → Ev (fun k => L k (i + 1)) (v (i + 1)) → Ev (fun k => L k i) (v i)) :
    ∀ i, i ≤ n → Ev (fun k => L k i) (v i) := by
  have key : ∀ d i, i + d = n → Ev (fun k => L k i) (v i) := by
    intro d
    induction d with
    | zero => intro i hi; rw [show i = n by omega]; exact hend
    | succ d ih => intro i hi; exact hstep i (by omega) (ih (i + 1) (by omega))
  exact fun i hi => key (n - i) i (by omega)
theorem ev_rangeS {R σ : Type} (n : Nat) (L : Nat → Nat → σ → Option R) (v : Nat → σ → R) (I : Nat → σ → Prop) (hend : ∀ s, I n s → Ev (fun k => L k n s) (v n s))
    (hstep : ∀ i s, i < n → I i s → (∀ s', I (i + 1) s' → Ev (fun k => L k (i + 1) s') (v (i + 1) s')) → Ev (fun k => L k i s) (v i s)) :
    ∀ i s, i ≤ n → I i s → Ev (fun k => L k i s) (v i s) := by
  have key : ∀ d i s, i + d = n → I i s → Ev (fun k => L k i s) (v i s) := by
    intro d
    induction d with
    | zero =>
      intro i s hi h
      have e : i = n := by omega
      subst e
      exact hend s h
    | succ d ih => intro i s hi h; exact hstep i s (by omega) h (fun s' h' => ih (i + 1) s' (by omega) h')
  exact fun i s hi h => key (n - i) i s (by omega) h
theorem set_copy {α β : Type} (g : α → β) (z : β) (l : List α) (i : Nat) (h : i < l.length) :
    ((l.take i).map g ++ List.replicate (l.length - i) z).set i (g l[i]) = (l.take (i + 1)).map g ++ List.replicate (l.length - (i + 1)) z := by
  rw [List.set_append_right _ _ (by rw [List.length_map, List.length_take]; omega), List.length_map, List.length_take, Nat.min_eq_left (by omega), Nat.sub_self, show l.length - i = (l.length - (i + 1)) + 1 by omega, List.replicate_succ, List.set_cons_zero, List.take_succ_eq_append_getElem h, List.map_append, List.append_assoc]
  rfl
theorem copy_len {α β : Type} (g : α → β) (z : β) (l : List α) (i : Nat) (h : i ≤ l.length) : ((l.take i).map g ++ List.replicate (l.length - i) z).length = l.length := by
  rw [List.length_append, List.length_map, List.length_take, List.length_replicate]; omega
theorem getD_get {α : Type} {xs : List α} {z : α} {i : Nat} (h : i < xs.length) : xs.getD i z = xs[i] := by
  simp [List.getD_eq_getElem?_getD, List.getElem?_eq_getElem h]
theorem all_drop {α : Type} (p : α → Bool) (l : List α) (i : Nat) (h : i < l.length) : (l.drop i).all p = (p l[i] && (l.drop (i + 1)).all p) := by
  rw [List.drop_eq_getElem_cons h, List.all_cons]
theorem drop_end {α : Type} (l : List α) : l.drop l.length = [] := by simp
theorem eq_drop {α : Type} [DecidableEq α] (a b : List α) (i : Nat) (h1 : i < a.length) (h2 : i < b.length) : decide (a.drop i = b.drop i) = (decide (a[i] = b[i]) && decide (a.drop (i + 1) = b.drop (i + 1))) := by
  rw [List.drop_eq_getElem_cons h1, List.drop_eq_getElem_cons h2]
  by_cases e : a[i] = b[i]
  · by_cases e2 : a.drop (i + 1) = b.drop (i + 1)
    · rw [decide_eq_true e, decide_eq_true e2, decide_eq_true (by rw [e, e2])]; rfl
    · rw [decide_eq_false e2, decide_eq_false (fun h => e2 (List.cons.inj h).2)]; simp
  · rw [decide_eq_false e, decide_eq_false (fun h => e (List.cons.inj h).1)]; rfl
theorem voBefore_ev (a b : List Int) (ha : a.length ≤ 1152921504606846976) : Ev (fun k => spec_voBefore.f k a b) (lexB a b) := by
  unfold spec_voBefore.f
  have := ev_range a.length (fun k i => spec_voBefore.l0 k a b (i : Int)) (fun i => lexB (a.drop i) (b.drop i)) ?_ ?_ 0 (Nat.zero_le _)
  · simpa using this
  · refine ev_succ ?_
    simp only [spec_voBefore.l0]
    refine ev_neg (by omega) (ev_succ ?_)
    simp only [spec_voBefore.j1]
    refine ev_neg (by simp) (ev_eqv (Ev.now _) ?_)
    rw [drop_end, lexB_drop_nil]
  · intro i hi ih
    refine ev_succ ?_
    simp only [spec_voBefore.l0]
    refine ev_pos (by omega) (ev_succ ?_)
    simp only [spec_voBefore.j1]
    by_cases h2 : i < b.length
    · refine ev_pos (by simp; omega) (ev_pos (by omega) (ev_pos (by omega) (ev_pos (by omega) ?_)))
      rw [rd_get hi, rd_get h2, wrap_succ hi ha]
      show Ev _ (lexB (a.drop i) (b.drop i))
      rw [List.drop_eq_getElem_cons hi, List.drop_eq_getElem_cons h2]
      unfold lexB
      by_cases e : a[i] = b[i]
      · rw [if_pos e]; exact ev_pos e ih
      · rw [if_neg e]; exact ev_neg e (Ev.now _)
    · refine ev_neg (by simp; omega) (ev_eqv (Ev.now _) ?_)
      rw [lexB_cons_nil a b i hi h2]
theorem cmpInt_eq (a b : Int) : cmp_Compare_int.f a b = some (if a < b then -1 else if a > b then 1 else 0) := by
  unfold cmp_Compare_int.f cmp_isNaN_int.f
  simp
  repeat' split
  all_goals rfl
theorem Compare_ev (a b : List Int) (ha : a.length ≤ 1152921504606846976) : Ev (fun k => slices_Compare_int_int.f k a b) (cmpL a b) := by
  unfold slices_Compare_int_int.f
  have := ev_range a.length (fun k i => slices_Compare_int_int.l0 k a b a (a.length : Int) (i : Int)) (fun i => cmpL (a.drop i) (b.drop i)) ?_ ?_ 0 (Nat.zero_le _)
  · simpa using this
  · refine ev_succ ?_
    simp only [slices_Compare_int_int.l0]
    refine ev_neg (by omega) ?_
    rw [drop_end]
    by_cases h : a.length < b.length
    · rw [List.drop_eq_getElem_cons h]; exact ev_pos (by omega) (Ev.now _)
    · rw [List.drop_of_length_le (by omega)]; exact ev_neg (by omega) (Ev.now _)
  · intro i hi ih
    refine ev_succ ?_
    simp only [slices_Compare_int_int.l0]
    refine ev_pos (by omega) (ev_pos (by omega) (ev_pos (by omega) ?_))
    by_cases h2 : i < b.length
    · refine ev_neg (by omega) (ev_pos (by omega) ?_)
      simp only [rd_get hi, rd_get h2, wrap_succ hi ha, cmpInt_eq, Option.bind_some]
      show Ev _ (cmpL (a.drop i) (b.drop i))
      rw [List.drop_eq_getElem_cons hi, List.drop_eq_getElem_cons h2]
      unfold cmpL
      by_cases e : a[i] = b[i]
      · rw [if_pos e, if_neg (by omega), if_neg (by omega)]; exact ev_pos rfl ih
      · rw [if_neg e]
        by_cases e2 : a[i] < b[i]
        · rw [if_pos e2, if_pos e2]; exact ev_neg (by decide) (Ev.now _)
        · rw [if_neg e2, if_neg e2, if_pos (by omega)]; exact ev_neg (by decide) (Ev.now _)
    · refine ev_pos (by omega) (ev_eqv (Ev.now _) ?_)
      show 1 = cmpL (a.drop i) (b.drop i)
      have hb : b.drop i = [] := List.drop_of_length_le (by omega)
      rw [List.drop_eq_getElem_cons hi, hb]; rfl
theorem rdL1_get {xs : List (List Int)} {i : Nat} (h : i < xs.length) : rd_L1 xs (i : Int) = xs[i] := by unfold rd_L1; rw [Int.toNat_natCast]; exact getD_get h
section
variable {α : Type} (lt : α → α → Bool)
def insL (x : α) : List α → List α
  | [] => [x]
  | y :: ys => if lt y x = true then y :: insL x ys else x :: y :: ys
def sortL (l : List α) : List α := l.foldl (fun out x => insL lt x out) []
theorem insL_perm (x : α) : ∀ l, (insL lt x l).Perm (x :: l)
  | [] => List.Perm.refl _
  | y :: ys => by
    unfold insL
    split
    · exact ((insL_perm x ys).cons y).trans (List.Perm.swap x y ys)
    · exact List.Perm.refl _
theorem foldl_perm : ∀ (l out : List α), (l.foldl (fun out x => insL lt x out) out).Perm (l ++ out)
  | [], out => List.Perm.refl _
  | x :: xs, out => by
    rw [List.foldl_cons]
    refine (foldl_perm xs _).trans ?_
    exact ((insL_perm lt x out).append_left xs).trans (List.perm_middle.trans (List.Perm.refl _))
theorem sortL_perm (l : List α) : (sortL lt l).Perm l := by
  have := foldl_perm lt l []
  rwa [List.append_nil] at this
variable (htr : ∀ a b c, lt a b = true → lt b c = true → lt a c = true) (hnt : ∀ a b c, lt a b = false → lt b c = false → lt a c = false) (has : ∀ a b, lt a b = true → lt b a = false)
include hnt has
theorem insL_sorted (x : α) : ∀ l : List α, l.Pairwise (fun a b => lt b a = false) → (insL lt x l).Pairwise (fun a b => lt b a = false)
  | [], _ => List.pairwise_singleton _ _
  | y :: ys, h => by
    rw [List.pairwise_cons] at h
    unfold insL
    split
    · rename_i hy
      rw [List.pairwise_cons]
      refine ⟨fun z hz => ?_, insL_sorted x ys h.2⟩
      rcases List.mem_cons.1 ((insL_perm lt x ys).mem_iff.1 hz) with rfl | hz
      · exact has _ _ hy
      · exact h.1 z hz
    · rename_i hy
      rw [Bool.not_eq_true] at hy
      rw [List.pairwise_cons]
      refine ⟨fun z hz => ?_, List.pairwise_cons.2 h⟩
      rcases List.mem_cons.1 hz with rfl | hz
      · exact hy
      · exact hnt _ _ _ (h.1 z hz) hy
theorem foldl_sorted : ∀ (l out : List α), out.Pairwise (fun a b => lt b a = false) → (l.foldl (fun out x => insL lt x out) out).Pairwise (fun a b => lt b a = false)
  | [], _, h => h
  | x :: xs, out, h => foldl_sorted xs _ (insL_sorted lt hnt has x out h)
theorem sortL_sorted (l : List α) : (sortL lt l).Pairwise (fun a b => lt b a = false) := foldl_sorted lt hnt has l [] List.Pairwise.nil
omit hnt has in
theorem sorted_unique (tot : ∀ a b, lt a b = false → lt b a = false → a = b) : ∀ {l1 l2 : List α}, l1.Perm l2 → l1.Pairwise (fun a b => lt b a = false) → l2.Pairwise (fun a b => lt b a = false) → l1 = l2
  | [], l2, hp, _, _ => (List.Perm.nil_eq hp)
  | x :: xs, [], hp, _, _ => by have := hp.length_eq; simp at this
  | x :: xs, y :: ys, hp, h1, h2 => by
    rw [List.pairwise_cons] at h1 h2
    have hxy : x = y := by
      rcases List.mem_cons.1 (hp.mem_iff.1 (List.mem_cons_self ..)) with e | hx
      · exact e
      · rcases List.mem_cons.1 (hp.mem_iff.2 (List.mem_cons_self ..)) with e | hy
        · exact e.symm
        · exact tot _ _ (h2.1 x hx) (h1.1 y hy)
    subst hxy
    rw [sorted_unique tot ((List.perm_cons x).1 hp) h1.2 h2.2]
theorem sortL_eq (tot : ∀ a b, lt a b = false → lt b a = false → a = b) {l t : List α} (hp : t.Perm l) (hs : t.Pairwise (fun a b => lt b a = false)) : t = sortL lt l :=
  sorted_unique lt tot (hp.trans (sortL_perm lt l).symm) hs (sortL_sorted lt hnt has l)
end
end Go.Proofs.Ytlhkphehlocdcaa.Q
end
section
namespace Go.Proofs.Ytlhkphehlocdcaa.Q
open Go.RowKit Go.Proofs.YtlhkphehlocdcaaW.PrintWords Go.Proofs.YtlhkphehlocdcaaW.PrintLast Go.Proofs.YtlhkphehlocdcaaW.PrintMore
set_option linter.unusedVariables false
set_option linter.unusedSimpArgs false
def ly108_ren : Go.Shelf.Ren := ⟨fun | 6 => 108 | 15 => 110 | 14 => 109 | 28 => 119 | 29 => 120 | 20 => 111 | 21 => 112 | 22 => 113 | 23 => 114 | 24 => 115 | 25 => 116 | 26 => 117 | 27 => 118 | 46 => 121 | 47 => 122 | 48 => 123 | 49 => 124 | 50 => 125 | 57 => 126 | n => n, fun | 22 => 35 | 24 => 22 | 25 => 92 | 3 => 3 | 39 => 106 | 0 => 0 | 53 => 115 | 55 => 117 | 4 => 4 | 46 => 109 | 45 => 108 | 50 => 39 | 5 => 5 | 9 => 9 | 66 => 118 | 70 => 122 | 76 => 124 | 77 => 79 | n => n, fun | n => n⟩
theorem ly108 : Go.Proofs.SlLaysF.n6 Try.prog ly108_ren := {
  mixed := by kernel_rfl
  f6 := ⟨Try.f108.name, by decide, Try.func108.trans (congrArg some (by kernel_rfl))⟩
  f14 := ⟨Try.f109.name, by decide, Try.func109.trans (congrArg some (by kernel_rfl))⟩
  f15 := Try.func110.trans (congrArg some (by kernel_rfl))
  f20 := ⟨Try.f111.name, by decide, Try.func111.trans (congrArg some (by kernel_rfl))⟩
  f21 := ⟨Try.f112.name, by decide, Try.func112.trans (congrArg some (by kernel_rfl))⟩
  f22 := ⟨Try.f113.name, by decide, Try.func113.trans (congrArg some (by kernel_rfl))⟩
  f23 := ⟨Try.f114.name, by decide, Try.func114.trans (congrArg some (by kernel_rfl))⟩
  f24 := ⟨Try.f115.name, by decide, Try.func115.trans (congrArg some (by kernel_rfl))⟩
  f25 := ⟨Try.f116.name, by decide, Try.func116.trans (congrArg some (by kernel_rfl))⟩
  f26 := ⟨Try.f117.name, by decide, Try.func117.trans (congrArg some (by kernel_rfl))⟩
  f27 := ⟨Try.f118.name, by decide, Try.func118.trans (congrArg some (by kernel_rfl))⟩
  f28 := Try.func119.trans (congrArg some (by kernel_rfl))
  f29 := Try.func120.trans (congrArg some (by kernel_rfl))
  f46 := ⟨Try.f121.name, by decide, Try.func121.trans (congrArg some (by kernel_rfl))⟩
  f47 := Try.func122.trans (congrArg some (by kernel_rfl))
  f48 := Try.func123.trans (congrArg some (by kernel_rfl))
  f49 := ⟨Try.f124.name, by decide, Try.func124.trans (congrArg some (by kernel_rfl))⟩
  f50 := ⟨Try.f125.name, by decide, Try.func125.trans (congrArg some (by kernel_rfl))⟩
  f57 := ⟨Try.f126.name, by decide, Try.func126.trans (congrArg some (by kernel_rfl))⟩
  t0 := Try.underlying0
  a0 := Try.isAgg0
  z0 := Try.sizeOf0
  v0 := Try.zeroValue0
  t3 := Try.underlying3
  a3 := Try.isAgg3
  z3 := Try.sizeOf3
  v3 := Try.zeroValue3
  t4 := Try.underlying4
  a4 := Try.isAgg4
  z4 := Try.sizeOf4
  v4 := Try.zeroValue4
  t5 := Try.underlying5
  a5 := Try.isAgg5
  z5 := Try.sizeOf5
  v5 := Try.zeroValue5
  t9 := Try.underlying9
  a9 := Try.isAgg9
  z9 := Try.sizeOf9
  v9 := Try.zeroValue9
  t22 := Try.underlying35
  a22 := Try.isAgg35
  z22 := Try.sizeOf35
  v22 := Try.zeroValue35
  a24 := Try.isAgg22
  z24 := Try.sizeOf22
  t25 := Try.underlying92
  a25 := Try.isAgg92
  z25 := Try.sizeOf92
  v25 := Try.zeroValue92
  t39 := Try.underlying106
  a39 := Try.isAgg106
  z39 := Try.sizeOf106
  v39 := Try.zeroValue106
  t45 := Try.underlying108
  a45 := Try.isAgg108
  z45 := Try.sizeOf108
  v45 := Try.zeroValue108
  t46 := Try.underlying109
  a46 := Try.isAgg109
  z46 := Try.sizeOf109
  v46 := Try.zeroValue109
  t50 := Try.underlying39
  a50 := Try.isAgg39
  z50 := Try.sizeOf39
  v50 := Try.zeroValue39
  t53 := Try.underlying115
  a53 := Try.isAgg115
  z53 := Try.sizeOf115
  v53 := Try.zeroValue115
  t55 := Try.underlying117
  a55 := Try.isAgg117
  z55 := Try.sizeOf117
  v55 := Try.zeroValue117
  t66 := Try.underlying118
  a66 := Try.isAgg118
  z66 := Try.sizeOf118
  v66 := Try.zeroValue118
  t70 := Try.underlying122
  a70 := Try.isAgg122
  z70 := Try.sizeOf122
  v70 := Try.zeroValue122
  t76 := Try.underlying124
  a76 := Try.isAgg124
  z76 := Try.sizeOf124
  v76 := Try.zeroValue124
  t77 := Try.underlying79
  a77 := Try.isAgg79
  z77 := Try.sizeOf79
  v77 := Try.zeroValue79 }
open Go.Shelf Go.Lib Go.Sort
section
variable {α : Type} [Inhabited α]
theorem holds_of_block (enc : α → Value) {w : World} {g : Nat} {cur : Array Value} {e : TypeId} {ss : List α} (hb : w.heap[g]? = some (.cells cur e (0, 0))) (ht : cur.toList.take ss.length = ss.map enc) : Holds enc w g 0 ss.toArray := by
  intro j hj
  have hj' : j < ss.length := by simpa using hj
  refine ⟨?_, by simp [World.frozen?, hb]⟩
  have h1 : (cur.toList.take ss.length)[j]? = (ss.map enc)[j]? := by rw [ht]
  rw [List.getElem?_take_of_lt hj'] at h1
  simp only [World.cell?, hb, Nat.zero_add]
  simp only [Option.isSome_none, Bool.false_eq_true, if_false]
  rw [← Array.getElem?_toList, h1]
  simp [hj']
theorem heap_sorted (enc : α → Value) {w : World} {g n : Nat} {os : Array Obj} {cur : Array Value} {e : TypeId} {fr : Nat × Nat} (d : Array α) (hb : w.heap[g]? = some (.cells cur e fr)) :
    (sortWorld enc w g 0 n d os).heap[g]? = some (.cells (putCells enc 0 d cur) e fr) := by
  have hg : g < w.heap.size := (Array.getElem?_eq_some_iff.1 hb).1
  unfold sortWorld
  rw [Go.Sort.heap_grow_old _ _ (by simpa using hg)]
  simp [putRow, mapBlock, Sort.ahead, Array.getElem?_modify, hb, onCells]
theorem grownBy_sorted (enc : α → Value) {w : World} {g n : Nat} {os : Array Obj} (d : Array α) : w.grownBy (sortWorld enc w g 0 n d os) (some g) := by
  unfold sortWorld
  refine ⟨rfl, rfl, rfl, by simp, fun k hk hne => ?_⟩
  rw [Go.Sort.heap_grow_old _ _ (by simpa using hk)]
  have : g ≠ k := fun e => hne (by rw [e])
  simp [putRow, mapBlock, Sort.ahead, Array.getElem?_modify, this]
theorem take_putCells (enc : α → Value) (cur : Array Value) (ts : List α) (h : ts.length ≤ cur.size) : (putCells enc 0 ts.toArray cur).toList.take ts.length = ts.map enc := by
  apply List.ext_getElem?
  intro j
  by_cases hj : j < ts.length
  · rw [List.getElem?_take_of_lt hj, Array.getElem?_toList]
    simp [putCells, hj, show j < cur.size by omega]
  · rw [List.getElem?_take_eq_none (by omega), List.getElem?_eq_none (by simp; omega)]
theorem ownsRow_sorted (enc : α → Value) {w : World} {base g cap n : Nat} {e : TypeId} {os : Array Obj} {cur : Array Value} {ts : List α} (hbase : base ≤ g) (hb : w.heap[g]? = some (.cells cur e (0, 0)))
    (h1 : ts.length ≤ cap) (h2 : cap ≤ maxLen) (h3 : cur.size = cap * 1) :
    (sortWorld enc w g 0 n ts.toArray os).ownsRow base e 1 (.slice (some ⟨g, 0, none⟩) ts.length cap) ts.length (ts.map enc) :=
  ⟨by simp, .inr ⟨g, cap, _, rfl, hbase, heap_sorted enc _ hb, h1, h2, by simp [putCells, h3], by rw [Nat.mul_one]; exact take_putCells enc cur ts (by omega)⟩⟩
theorem perm_of_PermIn {d d' : Array α} (h : PermIn 0 d.size d d') : d'.toList.Perm d.toList := by
  have h1 := h.2.2
  have e1 : d.extract 0 d.size = d := by simp
  have e2 : d'.extract 0 d.size = d' := by rw [← h.1]; simp
  rw [e1, e2] at h1
  exact h1
theorem pairwise_of_SortedIn {lt : α → α → Bool} {d : Array α} (h : SortedIn lt 0 d.size d) : d.toList.Pairwise (fun a b => lt b a = false) := by
  rw [List.pairwise_iff_getElem]
  intro i j hi hj hij
  have h1 := h i j (Nat.zero_le _) hij (by simpa using hj)
  rwa [getElem!_pos d j (by simpa using hj), getElem!_pos d i (by simpa using hi)] at h1
end
structure QS (W : World) (okq : Nat → Prop) (f : Nat → Nat) (base : Nat) where
  v : Value
  l : List Int
  j : Nat
  hM : Kd.R (Kd.int .i64) 3 W base (fun k => okq k ∧ f k = j) v l
  hl : l.length ≤ 1152921504606846976
instance {W okq f base} : Inhabited (QS W okq f base) := ⟨⟨.slice none 0 0, [], 0, Kd.R_nil _ _ _ _ _, by simp⟩⟩
def sortSets.f (l : List (List Int)) : Option (List (List Int)) := if (decide (l.length < 4611686018427387904) && l.all fun x => decide (x.length ≤ 1152921504606846976)) = true then some (sortL lexB l) else none
theorem cmp_lays (W : World) (okq : Nat → Prop) (f : Nat → Nat) (base g n : Nat) (hg : ∀ k, okq k → k ≠ g) :
    CmpLays1 Try.prog 84 #[] (fun q : QS W okq f base => q.v) (fun x y => cmpL x.l y.l) g 0 n W := by
  intro m os dk hs x y
  have hgr := grownBy_sorted (fun q : QS W okq f base => q.v) (w := W) (g := g) (n := m) (os := os) dk
  generalize hw : sortWorld (fun q : QS W okq f base => q.v) W g 0 m dk os = wS at hgr
  have hx := Kd.R_grown x.hM hgr (fun k hk e => hg k hk.1 (by injection e))
  have hy := Kd.R_grown y.hM hgr (fun k hk e => hg k hk.1 (by injection e))
  obtain ⟨A, c, hxv, hxl, hxC⟩ := Kd.R_reads hx
  obtain ⟨B, d, hyv, hyl, hyC⟩ := Kd.R_reads hy
  obtain ⟨k, hk⟩ := Compare_ev x.l y.l x.hl
  have := slices_Compare_int_int.calls k A c x.l B d y.l _ wS hxC hxl hyC hyl (hk k (Nat.le_refl _))
  show Calls Try.prog 84 #[x.v, y.v] wS _
  rw [hxv, hyv]
  refine this.mono ?_
  rintro e w' ⟨rfl, ⟨q, rfl⟩⟩
  exact ⟨rfl, q, #[], by rw [grow_empty]⟩
theorem swo_lex {W okq f base} : SWO (ltOf (fun x y : QS W okq f base => cmpL x.l y.l)) where
  irrefl x := by unfold ltOf; rw [cmpL_lt]; exact lexB_irrefl _
  trans x y z h1 h2 := by unfold ltOf at *; rw [cmpL_lt] at *; exact lexB_trans _ _ _ h1 h2
  ntrans x y z h1 h2 := by unfold ltOf at *; rw [cmpL_lt] at *; exact lexB_ntrans _ _ _ h1 h2
theorem sortSets.calls (l t : List (List Int)) (A : Option Addr) (c base : Nat) (ok : Nat → Prop) (w : World) (hS : Kd.S (Kd.slice 3 (Kd.int .i64)) 22 w base ok (.slice A l.length c) l) (h : sortSets.f l = some t) :
    Calls Try.prog 108 #[.slice A l.length c, .func (.func 84) #[] #[]] w fun e w' =>
      e = .returned (.tuple #[]) ∧ Kd.S (Kd.slice 3 (Kd.int .i64)) 22 w' base ok (.slice A l.length c) t ∧ t.length = l.length ∧ w.grownBy w' (Value.slice A l.length c).ownBlock := by
  unfold sortSets.f at h
  split at h
  · rename_i hall
    rw [Bool.and_eq_true, decide_eq_true_eq] at hall
    obtain ⟨hsz, hall⟩ := hall
    injection h with h
    subst h
    have hlen : (sortL lexB l).length = l.length := (sortL_perm lexB l).length_eq
    by_cases h0 : l.length = 0
    · have hl0 := List.length_eq_zero_iff.1 h0
      subst hl0
      have hcon := AnyF.slices_SortFunc_none { ly108 with } A c (.func (.func 84) #[] #[]) w
      change Calls Try.prog 108 _ _ _ at hcon
      refine hcon.mono ?_
      rintro e w' ⟨rfl, rfl⟩
      exact ⟨rfl, hS, rfl, ⟨rfl, rfl, rfl, Nat.le_refl _, fun _ _ _ => rfl⟩⟩
    · obtain ⟨f, hok, inner, ho, hr⟩ := hS
      rw [List.length_zipIdx] at ho
      rcases ho.2 with ⟨hv, hn⟩ | ⟨g, cap, cur, hv, hbase, hb, h1, h2, h3, h4⟩
      · exact absurd hn h0
      · injection hv with hA _ hc
        subst hA; subst hc
        have hil : inner.length = l.length := by
          have := ho.1
          change inner.length = l.length * 1 at this
          omega
        change cur.size = c * 1 at h3
        change cur.toList.take (l.length * 1) = inner at h4
        rw [Nat.mul_one] at h4
        have key : ∀ j : Nat, ∃ q : QS w (fun k => ok k ∧ k ≠ g) f base, j < l.length → q.l = l.getD j [] ∧ q.j = j ∧ inner[j]? = some q.v := by
          intro j
          by_cases hj : j < l.length
          · have hp := hr.2 j _ (Kd.zip_at (List.getElem?_eq_getElem hj))
            obtain ⟨v, hv, hR⟩ := hp
            refine ⟨⟨v, l[j], j, Kd.R_mono hR (fun k hk => ⟨⟨hk.1.1, fun e => hk.1.2 (by rw [e]; rfl)⟩, hk.2⟩), ?_⟩, fun _ => ⟨?_, rfl, ?_⟩⟩
            · exact of_decide_eq_true (List.all_eq_true.1 hall _ (List.getElem_mem hj))
            · rw [List.getD_eq_getElem?_getD, List.getElem?_eq_getElem hj]; rfl
            · have hx := congrArg (fun z => z[0]?) hv
              simpa [show (Kd.tag f (Kd.slice 3 (Kd.int .i64))).sz = 1 from rfl, List.getElem?_take, List.getElem?_drop] using hx
          · exact ⟨default, fun e => absurd e hj⟩
        obtain ⟨fq, hfq⟩ := Classical.axiomOfChoice key
        obtain ⟨ss, hss⟩ : ∃ ss, ss = (List.range l.length).map fq := ⟨_, rfl⟩
        have hsl : ss.length = l.length := by rw [hss]; simp
        have hget : ∀ j (hj : j < ss.length), ss[j] = fq j := fun j hj => by simp [hss]
        have hinn : inner = ss.map QS.v := by
          refine List.ext_getElem? fun j => ?_
          by_cases hj : j < l.length
          · rw [(hfq j hj).2.2, List.getElem?_map, List.getElem?_eq_getElem (by omega), hget]; rfl
          · rw [List.getElem?_eq_none (by omega), List.getElem?_eq_none (by rw [List.length_map]; omega)]
        have hsll : ss.map QS.l = l := by
          refine List.ext_getElem (by rw [List.length_map]; exact hsl) fun j h1 h2 => ?_
          rw [List.getElem_map, hget, (hfq j h2).1, List.getD_eq_getElem?_getD, List.getElem?_eq_getElem h2]; rfl
        have hsj : ss.map QS.j = List.range l.length := by
          refine List.ext_getElem (by rw [List.length_map, List.length_range]; exact hsl) fun j h1 h2 => ?_
          rw [List.getElem_map, hget, (hfq j (by simpa using h2)).2.1, List.getElem_range]
        have hH : Holds QS.v w g 0 ss.toArray := holds_of_block QS.v hb (by rw [hsl, h4, hinn])
        have eg : ∀ args w, (callFunc 84 args).run Try.prog w = .ok (.enter 84 args) w := enters_of Try.func84 (by kernel_rfl) rfl
        have hcon := Any.slices_SortFunc ly108 QS.v (fun q => (Kd.R_val q.hM).2) (fun x y => cmpL x.l y.l) swo_lex 84 #[] g 0 c ss.toArray w eg (cmp_lays w _ f base g _ (fun k hk => hk.2)) hH (Array.getElem?_eq_some_iff.1 hb).1 (by simpa [hsl] using hsz)
        change Calls Try.prog 108 _ _ _ at hcon
        rw [List.size_toArray, hsl] at hcon
        refine hcon.mono ?_
        rintro e w' ⟨rfl, d', n, os, hp, hs, rfl⟩
        obtain ⟨ts, rfl⟩ : ∃ ts : List _, d' = ts.toArray := ⟨d'.toList, rfl⟩
        have hgr := grownBy_sorted QS.v (w := w) (g := g) (n := n) (os := os) ts.toArray
        have hperm : ts.Perm ss := perm_of_PermIn (d := ss.toArray) (by simpa [hsl] using hp)
        have htl : ts.length = l.length := by rw [hperm.length_eq, hsl]
        have hsort : ts.Pairwise (fun a b => ltOf (fun x y : QS w _ f base => cmpL x.l y.l) b a = false) := pairwise_of_SortedIn (d := ts.toArray) (by simpa [htl] using hs)
        have ht : ts.map QS.l = sortL lexB l := by
          refine sortL_eq lexB lexB_ntrans (fun _ _ => lexB_asymm) lexB_total ?_ ?_
          · rw [← hsll]; exact hperm.map QS.l
          · rw [List.pairwise_map]
            refine hsort.imp fun h => ?_
            unfold ltOf at h
            rwa [cmpL_lt] at h
        rw [← ht]
        have hnd : (ts.map QS.j).Nodup := by
          refine (hperm.map QS.j).nodup_iff.2 ?_
          rw [hsj]; exact List.nodup_range
        have hblk : ∀ k, (ok k ∧ k ≠ g) → some k ≠ some g := fun k hk e => hk.2 (by injection e)
        refine ⟨rfl, ⟨fun k => (ts.map QS.j).idxOf (f k), hok, ts.map QS.v, ?_, ?_, fun j p hj => ?_⟩, by rw [List.length_map]; exact htl, hgr⟩
        · rw [List.length_zipIdx, List.length_map, htl]
          have := ownsRow_sorted QS.v (w := w) (base := base) (g := g) (cap := c) (n := n) (e := 22) (os := os) (ts := ts) hbase hb (by omega) h2 h3
          rwa [htl] at this
        · rw [List.length_map, List.length_zipIdx, List.length_map]; exact (Nat.mul_one _).symm
        · rw [List.getElem?_zipIdx, List.getElem?_map, Nat.zero_add] at hj
          obtain ⟨x, hx, rfl⟩ := Option.map_eq_some_iff.1 hj
          obtain ⟨q, hq, rfl⟩ := Option.map_eq_some_iff.1 hx
          obtain ⟨hjl, hqe⟩ := List.getElem?_eq_some_iff.1 hq
          show ∃ v, _ ∧ _
          refine ⟨q.v, ?_, ?_⟩
          · refine List.ext_getElem? fun i => ?_
            rw [show (Kd.tag (fun k => (ts.map QS.j).idxOf (f k)) (Kd.slice 3 (Kd.int .i64))).sz = 1 from rfl, Nat.mul_one]
            cases i with
            | zero => rw [List.getElem?_take_of_lt (by omega), List.getElem?_drop, List.getElem?_map, Nat.add_zero, hq]; rfl
            | succ i => rw [List.getElem?_eq_none (by rw [List.length_take]; omega), List.getElem?_eq_none (by simp)]
          · refine Kd.R_mono (Kd.R_grown q.hM hgr (fun k hk => hblk k hk.1)) (fun k hk => ⟨⟨hk.1.1, ?_⟩, ?_⟩)
            · exact fun e => hk.1.2 (by injection e)
            · show (ts.map QS.j).idxOf (f k) = j
              rw [hk.2, ← hqe, show ts[j].j = (ts.map QS.j)[j]'(by rw [List.length_map]; exact hjl) from by rw [List.getElem_map]]
              exact hnd.idxOf_getElem j _
  · cases h
end Go.Proofs.Ytlhkphehlocdcaa.Q
end
section
namespace Go.Proofs.Ytlhkphehlocdcaa.Q
open Go.RowKit Go.Proofs.YtlhkphehlocdcaaW.PrintWords Go.Proofs.YtlhkphehlocdcaaW.PrintLast Go.Proofs.YtlhkphehlocdcaaW.PrintMore
attribute [local go_sem] max2_int min2_int max_two min_two max_three min_three max_four min_four
set_option linter.unusedVariables false
set_option linter.unusedSimpArgs false
section
variable (a1 : Int → Option Bool)
def impl_votes_sets.l0 : Nat → List (List Int) → Int → Int → Option ((List (List Int)))
 | 0, _, _, _ => none
 | k + 1, x5, x10, x11 => if x11 < x10 then ((a1 x11).bind fun t272 => (if t272 = true then ((impl_setOf.f k x11).bind fun t273 => (if x5.length < 5864062014805 then (impl_votes_sets.l0 k (x5 ++ [t273]) x10 (wrap64 (x11 + 1))) else (none))) else (impl_votes_sets.l0 k x5 x10 (wrap64 (x11 + 1))))) else ((sortSets.f x5).bind fun t_ => (some t_))
def impl_votes_sets.f (k : Nat) (a0_0 : Int) (l0_1 : List Bool) (a1 : Int → Option Bool) : Option ((List (List Int))) := impl_votes_sets.l0 a1 k (([] : List (List Int))) (l0_1.length : Int) 0
set_option maxHeartbeats 8000000 in
set_option maxRecDepth 100000 in
theorem impl_votes_sets.calls (k : Nat) (a0_0 : Int) (A0_1 : Option Addr) (c0_1 : Nat) (l0_1 : List Bool) (a1 : Int → Option Bool) (g_ : Nat) (fa_ lb_ : Array Value) (eg_ : ∀ args w, (callFunc g_ args).run Try.prog w = .ok (.enter g_ args) w) (r : List (List Int)) (w : World) (hp0_ : PredI Try.prog g_ fa_ lb_ w a1) (hr0_1 : Kd.C Kd.bool w A0_1 l0_1.length l0_1) (hc0_1 : l0_1.length ≤ c0_1) (h : impl_votes_sets.f k a0_0 l0_1 a1 = some r) :
  Calls Try.prog 100 #[.agg #[.int .i64 a0_0, .slice A0_1 l0_1.length c0_1], .func (.func g_) fa_ lb_] w fun e w' => ∃ v0_ : Value, e = .returned (v0_) ∧ Kd.S (Kd.slice 3 (Kd.int .i64)) 22 w' w.heap.size (fun _ => True) v0_ r ∧ Below w.heap.size w w' := by
 have hp_ := Aside0.mk hp0_
 clear hp0_
 have hu53 := Try.underlying53
 have HR0_1 := Aside0.mk hr0_1
 have HC0_1 := Aside0.mk hc0_1
 clear hr0_1 hc0_1
 have HB := Aside0.mk (Below.refl w.heap.size w)
 have H : (impl_votes_sets.l0 a1 k (([] : List (List Int))) (l0_1.length : Int) 0) = some r := h
 clear h
 obtain ⟨y269, hy269⟩ : ∃ y_ : List (List Int), y_ = (([] : List (List Int))) := ⟨_, rfl⟩
 replace H : (impl_votes_sets.l0 a1 k y269 (l0_1.length : Int) 0) = some r := by first | (rw [hy269]; with_reducible exact H) | (have H2_ := (Option.bind_some _ _).symm.trans H; rw [hy269]; with_reducible exact H2_) | (have H2_ := (Option.bind_some _ _).symm.trans H; with_reducible exact H2_) | with_reducible exact H | (rw [hy269]; exact H) | exact H
 have Ny269 := Aside0.mk hy269
 clear hy269
 have H' := Aside0.mk H
 clear H
 go_enter Try.func100, Try.ntmps100
 go_wp2_with (first | ((with_reducible refine gate_dst (N := 2) rfl ?_); refine box_event ?hg (N := 2) ?hd (cs := #[.int .i64 a0_0, .slice A0_1 l0_1.length c0_1]) (t := 53) ?hr ?_; (case hd => rfl); (case hg => rfl); (case hr => first | (go_simp; done) | (go_simp; rfl)); intro gb268 hg w3 hbox hb; have n2_ := Aside0.mk ((by rw [hg]; exact (below_size (zh HB.out)) : w.heap.size ≤ gb268)); replace HB := Aside0.mk (below_step (zh HB.out) hb); have BK268 := Aside0.mk hbox; have GW268 := n2_; have GE268 := n2_; clear n2_ hb hbox hg) | ((with_reducible refine gate_dst (N := 7) rfl ?_); refine Kd.S_lit (Kd.slice 3 (Kd.int .i64)) _ 22 ?hg (N := 7) ?hd (xs := ([] : List (List Int))) (inner := []) (ok := fun _ => True) (okp := fun _ => True) ?hr ?hp (fun _ hk => hk) trivial (Below.refl _ _) (Nat.le_refl _) (by simp) ?_; (case hd => rfl); (case hg => rfl); (case hr => first | (go_simp; done) | (go_simp; rfl)); (case hp => exact (Reps.none _ _)); intro v270 w4 ho5 hb hg_ hnew_; clear hg_ hnew_; (first | rw [← Ny269.out] at ho5 | (simp only [Int.reduceToNat] at ho5; rw [← Ny269.out] at ho5)); have n0_ := Aside0.mk (Kd.S_lower ho5 (below_size (zh HB.out))); have n1_ := Aside0.mk (blk_below (g := gb268) (o := .cells #[.int .i64 a0_0, .slice A0_1 l0_1.length c0_1] 53 (0, 0)) (zb BK268.out) hb); have n2_ := Aside0.mk (below_step (zh HB.out) hb); clear BK268; clear HB; have HO271 := n0_; have BK268 := n1_; have HB := n2_; clear n0_ n1_ n2_; clear hb ho5; have hcz6_0 : w4.cell? ⟨gb268, 0, none⟩ = some (.int .i64 a0_0) := (blk_cell BK268.out 0).trans rfl; have hcz6_1 : w4.cell? ⟨gb268, 1, none⟩ = some (.slice A0_1 l0_1.length c0_1) := (blk_cell BK268.out 1).trans rfl; have hfz6_0 := blk_frozen BK268.out 0; have hfz6_1 := blk_frozen BK268.out 1))
 go_loopg [5, 11] k (fun kq v5 v11 w' => ∃ (x5_1 : List (List Int)) (x11_1 : Int), v11 = .int .i64 x11_1 ∧ Aside0 (impl_votes_sets.l0 a1 kq x5_1 (l0_1.length : Int) x11_1 = some r) ∧ Aside0 (kq ≤ k) ∧ Aside0 (Kd.S (Kd.slice 3 (Kd.int .i64)) 22 w' w.heap.size (fun _ => True) v5 x5_1) ∧ Aside0 (w'.heap[gb268]? = some (.cells #[.int .i64 a0_0, (.slice A0_1 l0_1.length c0_1)] 53 (0, 0))) ∧ Aside0 (Below w.heap.size w w'))
 case atStart => exact ⟨(y269), (0), (by first | rfl | (simp; done) | (simp [*]; done)), H', ⟨Nat.le_refl _⟩, ⟨by (with_reducible repeat (first | apply Kd.S_alloc | apply Kd.S_drewN | apply Kd.S_drew)); exact HO271.out⟩, ⟨zb BK268.out⟩, ⟨zh HB.out⟩⟩
 case round =>
  clear H'
  try clear c1
  try clear p2
  try clear hcz6_0
  try clear hcz6_1
  try clear hfz6_0
  try clear hfz6_1
  obtain ⟨x5_1, x11_1, rfl, HA, HK1, HO_5, BK268, HB⟩ := hrel
  cases gk with
  | zero => exact absurd HA.out (by simp [impl_votes_sets.l0])
  | succ k1 =>
   have H := HA.out
   clear HA
   simp only [impl_votes_sets.l0] at H
   by_cases c7 : x11_1 < (l0_1.length : Int)
   ·rw [if_pos c7] at H
    have c7b0 : decide (x11_1 < (l0_1.length : Int)) = true := decide_eq_true c7
    clear c7
    replace H := Option.bind_eq_some_iff.mp H
    obtain ⟨t272, A80, H⟩ := H
    replace H : (if t272 = true then ((impl_setOf.f k1 x11_1).bind fun t273 => (if x5_1.length < 5864062014805 then (impl_votes_sets.l0 a1 k1 (x5_1 ++ [t273]) (l0_1.length : Int) (wrap64 (x11_1 + 1))) else (none))) else (impl_votes_sets.l0 a1 k1 x5_1 (l0_1.length : Int) (wrap64 (x11_1 + 1)))) = some r := H
    have A8 := Aside0.mk A80
    clear A80
    by_cases c9 : t272 = true
    ·subst c9
     have H1 : ((impl_setOf.f k1 x11_1).bind fun t273 => (if x5_1.length < 5864062014805 then (impl_votes_sets.l0 a1 k1 (x5_1 ++ [t273]) (l0_1.length : Int) (wrap64 (x11_1 + 1))) else (none))) = some r := by rw [if_pos rfl] at H; exact H
     clear H
     have H := H1
     clear H1
     replace H := Option.bind_eq_some_iff.mp H
     obtain ⟨t273, A100, H⟩ := H
     replace H : (if x5_1.length < 5864062014805 then (impl_votes_sets.l0 a1 k1 (x5_1 ++ [t273]) (l0_1.length : Int) (wrap64 (x11_1 + 1))) else (none)) = some r := H
     have A10 := Aside0.mk A100
     clear A100
     by_cases c11 : x5_1.length < 5864062014805
     ·rw [if_pos c11] at H
      have LMc11 := Aside0.mk c11
      clear c11
      obtain ⟨y276, hy276⟩ : ∃ y_ : List (List Int), y_ = (x5_1 ++ [t273]) := ⟨_, rfl⟩
      replace H : (impl_votes_sets.l0 a1 k1 y276 (l0_1.length : Int) (wrap64 (x11_1 + 1))) = some r := by first | (rw [hy276]; with_reducible exact H) | (have H2_ := (Option.bind_some _ _).symm.trans H; rw [hy276]; with_reducible exact H2_) | (have H2_ := (Option.bind_some _ _).symm.trans H; with_reducible exact H2_) | with_reducible exact H | (rw [hy276]; exact H) | exact H
      have Ny276 := Aside0.mk hy276
      clear hy276
      have H' := Aside0.mk H
      clear H
      go_wp2_with (first | ((with_reducible refine gate_dst (N := 16) rfl ?_); refine goesLF_ (some 16) rfl rfl eg_ (by rfl) #[.int .i64 x11_1] rfl (by (try simp only [List.map_toArray, List.map_cons, List.map_nil]); first | done | rfl | (simp only [List.length_drop, List.length_take]; rfl)) ?_; (with_reducible refine (hp_.out _ x11_1 true (zh HB.out) A8.out).mono ?_); rintro e w12 ⟨rfl, hb⟩; refine ⟨_, rfl, ?_⟩; have n0_ := Aside0.mk (Kd.S_below (by (with_reducible repeat (first | apply Kd.S_alloc | apply Kd.S_drewN | apply Kd.S_drew)); exact HO_5.out) hb); have n1_ := Aside0.mk (blk_below (g := gb268) (o := .cells #[.int .i64 a0_0, .slice A0_1 l0_1.length c0_1] 53 (0, 0)) (zb BK268.out) hb); have n2_ := Aside0.mk (below_step (zh HB.out) hb); clear HO_5; clear BK268; clear HB; have HO_5 := n0_; have BK268 := n1_; have HB := n2_; clear n0_ n1_ n2_; (try clear hb); (try clear hb2); (try clear hk); (try clear hi)) | ((with_reducible refine gate_callee (f := 103) rfl ?_); refine goesL_ (some 19) rfl rfl Try.func103 (by kernel_rfl) rfl #[.int .i64 x11_1] rfl (by (try simp only [List.map_toArray, List.map_cons, List.map_nil]); first | done | rfl | (simp only [List.length_drop, List.length_take]; rfl)) ?_; (with_reducible refine (impl_setOf.calls k1 x11_1 t273 _ A10.out).mono ?_); rintro e w13 ⟨v274, rfl, ho0, hb⟩; refine ⟨_, rfl, ?_⟩; have n0_ := Aside0.mk (Kd.S_elder' (by (with_reducible repeat (first | apply Kd.S_alloc | apply Kd.S_drewN | apply Kd.S_drew)); exact HO_5.out) (Kd.R_base ho0) hb); have n1_ := Aside0.mk (Kd.R_lower ho0 (below_size (zh HB.out))); have n2_ := Aside0.mk (blk_below (g := gb268) (o := .cells #[.int .i64 a0_0, .slice A0_1 l0_1.length c0_1] 53 (0, 0)) (zb BK268.out) hb); have n3_ := Aside0.mk (below_step (zh HB.out) hb); clear HO_5; clear BK268; clear HB; have HO_5 := n0_; have HO275 := n1_; have BK268 := n2_; have HB := n3_; clear n0_ n1_ n2_ n3_; (try clear hb); (try clear hb2); (try clear hk); (try clear hi); (try clear ho0); obtain ⟨Ao15, co15, eo15⟩ := Kd.R_slice HO275.out; subst eo15) | ((with_reducible refine gate_builtin (b := .append) (xs := #[.tmp 17, .tmp 20]) rfl ?_); at_builtin; refine Kd.S_append (Kd.slice 3 (Kd.int .i64)) (w0 := w) w.heap.size rfl (.tmp 17) (.tmp 20) 35 22 (.slice none 0 0) 24 rfl Try.underlying35 info22 rfl (by decide) (by omega) u5 x5_1 t273 [.slice Ao15 t273.length co15] (fun _ => True) (fun k_ => some k_ = (.slice Ao15 t273.length co15 : Value).ownBlock) rfl rfl ?aP (fun k_ hk_ => ((Kd.R_mono (ok' := fun k_ => ((fun _ => True)) k_ ∧ some k_ ≠ (u5 : Value).ownBlock) (Kd.R_apart' (HO275.out) (Kd.S_typed HO_5.out) (by decide)) (fun k_ hk => ⟨trivial, hk.2⟩))).1 k_ hk_.symm) ?aF ?aO ?aB ?aS ?aL ?_; (case aP => exact Kd.M_row (Kd.R_mono (Kd.R_tight rfl (Kd.R_mono (ok' := fun k_ => ((fun _ => True)) k_ ∧ some k_ ≠ (u5 : Value).ownBlock) (Kd.R_apart' (HO275.out) (Kd.S_typed HO_5.out) (by decide)) (fun k_ hk => ⟨trivial, hk.2⟩))) (fun _ h_ => h_))); (case aB => exact (zh HB.out)); (case aF => exact (fun _ _ => trivial)); (case aO => exact (by (with_reducible repeat (first | apply Kd.S_alloc | apply Kd.S_drewN | apply Kd.S_drew)); exact Kd.S_mono HO_5.out (fun k_ hk => ⟨trivial, fun e_ => hk.2 e_⟩))); (case aS => exact (below_size (zh HB.out))); (case aL => have := LMc11.out; omega); intro v277 w14 ho hb hg hat; rw [← Ny276.out] at ho; have n0_ := Aside0.mk (blk_grown (g := gb268) (o := .cells #[.int .i64 a0_0, .slice A0_1 l0_1.length c0_1] 53 (0, 0)) (zb BK268.out) hg (Kd.S_ne HO_5.out BK268.out (by decide))); have n1_ := Aside0.mk (hb); have n2_ := Aside0.mk (ho); clear BK268; clear HB; clear HO_5; clear HO275; have BK268 := n0_; have HB := n1_; have HO278 := n2_; clear n0_ n1_ n2_; clear ho hb hg hat))
      go_roundg k1
      case measure => have := HK1.out; omega
      case rel => exact ⟨(y276), (wrap64 (x11_1 + 1)), (by first | rfl | (simp; done) | (simp [*]; done)), H', ⟨by have := HK1.out; omega⟩, ⟨by (with_reducible repeat (first | apply Kd.S_alloc | apply Kd.S_drewN | apply Kd.S_drew)); exact HO278.out⟩, ⟨zb BK268.out⟩, ⟨zh HB.out⟩⟩
     ·rw [if_neg c11] at H
      exact absurd H (by simp)
    ·replace c9 := Bool.eq_false_iff.mpr c9
     subst c9
     have H1 : (impl_votes_sets.l0 a1 k1 x5_1 (l0_1.length : Int) (wrap64 (x11_1 + 1))) = some r := by rw [if_neg (show ¬ (false = true) by decide)] at H; exact H
     clear H
     have H := H1
     clear H1
     have H' := Aside0.mk H
     clear H
     go_wp2_with (first | ((with_reducible refine gate_dst (N := 16) rfl ?_); refine goesLF_ (some 16) rfl rfl eg_ (by rfl) #[.int .i64 x11_1] rfl (by (try simp only [List.map_toArray, List.map_cons, List.map_nil]); first | done | rfl | (simp only [List.length_drop, List.length_take]; rfl)) ?_; (with_reducible refine (hp_.out _ x11_1 false (zh HB.out) A8.out).mono ?_); rintro e w16 ⟨rfl, hb⟩; refine ⟨_, rfl, ?_⟩; have n0_ := Aside0.mk (Kd.S_below (by (with_reducible repeat (first | apply Kd.S_alloc | apply Kd.S_drewN | apply Kd.S_drew)); exact HO_5.out) hb); have n1_ := Aside0.mk (blk_below (g := gb268) (o := .cells #[.int .i64 a0_0, .slice A0_1 l0_1.length c0_1] 53 (0, 0)) (zb BK268.out) hb); have n2_ := Aside0.mk (below_step (zh HB.out) hb); clear HO_5; clear BK268; clear HB; have HO_5 := n0_; have BK268 := n1_; have HB := n2_; clear n0_ n1_ n2_; (try clear hb); (try clear hb2); (try clear hk); (try clear hi)))
     go_roundg k1
     case measure => have := HK1.out; omega
     case rel => exact ⟨(x5_1), (wrap64 (x11_1 + 1)), (by first | rfl | (simp; done) | (simp [*]; done)), H', ⟨by have := HK1.out; omega⟩, ⟨by (with_reducible repeat (first | apply Kd.S_alloc | apply Kd.S_drewN | apply Kd.S_drew)); exact HO_5.out⟩, ⟨zb BK268.out⟩, ⟨zh HB.out⟩⟩
   ·rw [if_neg c7] at H
    have c7b0 : decide (x11_1 < (l0_1.length : Int)) = false := decide_eq_false c7
    clear c7
    replace H := Option.bind_eq_some_iff.mp H
    obtain ⟨t_, A170, H⟩ := H
    replace H : (some t_) = some r := H
    have A17 := Aside0.mk A170
    clear A170
    obtain rfl := Option.some.inj H
    obtain ⟨Ao18, co18, eo18⟩ := Kd.S_slice HO_5.out
    subst eo18
    go_wp2_with (first | ((with_reducible refine gate_callee (f := 108) rfl ?_); refine goesL_ (some 24) rfl rfl Try.func108 (by kernel_rfl) rfl #[.slice Ao18 x5_1.length co18, .func (.func 84) #[] #[]] rfl (by (try simp only [List.map_toArray, List.map_cons, List.map_nil]); first | done | rfl | (simp only [List.length_drop, List.length_take]; rfl)) ?_; refine (sortSets.calls x5_1 t_ _ _ w.heap.size (fun _ => True) _ ?side1 A17.out).mono ?_; (case side1 => exact (by (with_reducible repeat (first | apply Kd.S_alloc | apply Kd.S_drewN | apply Kd.S_drew)); exact HO_5.out)); rintro e w' ⟨rfl, hs_, hl_, hg_⟩; refine ⟨_, rfl, ?_⟩; have n0_ := Aside0.mk hs_; have hB_ := ((zh HB.out) : Below w.heap.size w _); have n2_ := Aside0.mk (Below.grown hB_ hg_ (below_size hB_) (Kd.S_base HO_5.out)); clear HO_5; clear HB; have HO_5 := n0_; have HB := n2_; clear n0_ n2_ hs_ hl_ hg_ hB_))
    go_ret
    exact ⟨_, by first | rfl | (simp [*, errW_none, errW_some] <;> rfl), by (with_reducible repeat (first | apply Kd.S_alloc | apply Kd.S_drewN | apply Kd.S_drew)); exact HO_5.out, zh HB.out⟩
end
end Go.Proofs.Ytlhkphehlocdcaa.Q
end
section
namespace Go.Proofs.Ytlhkphehlocdcaa.Q
open Go.RowKit Go.Proofs.YtlhkphehlocdcaaW.PrintWords Go.Proofs.YtlhkphehlocdcaaW.PrintLast Go.Proofs.YtlhkphehlocdcaaW.PrintMore
set_option linter.unusedVariables false
set_option linter.unusedSimpArgs false
theorem ordered_1.pred (w : World) : PredI Try.prog 101 #[] #[] w (fun _ => some true) := by
  intro W x b hb hp
  obtain rfl := Option.some.inj hp
  show Calls Try.prog 101 #[.int .i64 x] W _
  clear hp
  go_enter Try.func101, Try.ntmps101
  go_wp2
  go_ret
  exact ⟨rfl, Below.refl _ _⟩
def setsAll.f (k : Nat) (a0_0 : Int) (l0_1 : List Bool) : Option (List (List Int)) := impl_votes_sets.f k a0_0 l0_1 (fun _ => some true)
theorem setsAll.calls (k : Nat) (a0_0 : Int) (A0_1 : Option Addr) (c0_1 : Nat) (l0_1 : List Bool) (r : List (List Int)) (w : World) (hr0_1 : Kd.C Kd.bool w A0_1 l0_1.length l0_1) (hc0_1 : l0_1.length ≤ c0_1) (h : setsAll.f k a0_0 l0_1 = some r) :
    Calls Try.prog 100 #[.agg #[.int .i64 a0_0, .slice A0_1 l0_1.length c0_1], .func (.func 101) #[] #[]] w fun e w' => ∃ v0_ : Value, e = .returned v0_ ∧ Kd.S (Kd.slice 3 (Kd.int .i64)) 22 w' w.heap.size (fun _ => True) v0_ r ∧ Below w.heap.size w w' :=
  impl_votes_sets.calls k a0_0 A0_1 c0_1 l0_1 _ 101 #[] #[] (enters_of Try.func101 (by kernel_rfl) rfl) r w (ordered_1.pred w) hr0_1 hc0_1 h
end Go.Proofs.Ytlhkphehlocdcaa.Q
end
section
namespace Go.Proofs.Ytlhkphehlocdcaa.Q
open Go.RowKit Go.Proofs.YtlhkphehlocdcaaW.PrintWords Go.Proofs.YtlhkphehlocdcaaW.PrintLast Go.Proofs.YtlhkphehlocdcaaW.PrintMore
attribute [local go_sem] max2_int min2_int max_two min_two max_three min_three max_four min_four
set_option linter.unusedVariables false
set_option linter.unusedSimpArgs false
def impl_votes_ordered.l0 : Nat → List Int → List (List Int) → Int → Int → Option (List Int)
 | 0, _, _, _, _ => none
 | k + 1, x3, x8, x9, x10 => if x10 < x9 then (if 0 ≤ x10 then (if x10 < (x8.length : Int) then ((impl_maskOf.f k (rd_L1 x8 x10)).bind fun t287 => (if x3.length < 17592186044416 then (impl_votes_ordered.l0 k (x3 ++ [t287]) x8 x9 (wrap64 (x10 + 1))) else (none))) else (none)) else (none)) else (some x3)
def impl_votes_ordered.f (k : Nat) (a0_0 : Int) (l0_1 : List Bool) : Option (List Int) := (setsAll.f k a0_0 l0_1).bind fun t283 => (impl_votes_ordered.l0 k (([] : List Int)) t283 (t283.length : Int) 0)
set_option maxHeartbeats 8000000 in
set_option maxRecDepth 100000 in
theorem impl_votes_ordered.calls (k : Nat) (a0_0 : Int) (A0_1 : Option Addr) (c0_1 : Nat) (l0_1 : List Bool) (r : List Int) (w : World) (hr0_1 : Kd.C Kd.bool w A0_1 l0_1.length l0_1) (hc0_1 : l0_1.length ≤ c0_1) (h : impl_votes_ordered.f k a0_0 l0_1 = some r) :
  Calls Try.prog 92 #[.agg #[.int .i64 a0_0, .slice A0_1 l0_1.length c0_1]] w fun e w' => ∃ v0_ : Value, e = .returned (v0_) ∧ Kd.R (Kd.int .i64) 3 w' w.heap.size (fun _ => True) v0_ r ∧ Below w.heap.size w w' := by
 have hu53 := Try.underlying53
 have HR0_1 := Aside0.mk hr0_1
 have HC0_1 := Aside0.mk hc0_1
 clear hr0_1 hc0_1
 have HB := Aside0.mk (Below.refl w.heap.size w)
 have H : ((setsAll.f k a0_0 l0_1).bind fun t283 => (impl_votes_ordered.l0 k (([] : List Int)) t283 (t283.length : Int) 0)) = some r := h
 clear h
 obtain ⟨y280, hy280⟩ : ∃ y_ : List Int, y_ = (([] : List Int)) := ⟨_, rfl⟩
 replace H : ((setsAll.f k a0_0 l0_1).bind fun t283 => (impl_votes_ordered.l0 k y280 t283 (t283.length : Int) 0)) = some r := by first | (rw [hy280]; with_reducible exact H) | (have H2_ := (Option.bind_some _ _).symm.trans H; rw [hy280]; with_reducible exact H2_) | (have H2_ := (Option.bind_some _ _).symm.trans H; with_reducible exact H2_) | with_reducible exact H | (rw [hy280]; exact H) | exact H
 have Ny280 := Aside0.mk hy280
 clear hy280
 replace H := Option.bind_eq_some_iff.mp H
 obtain ⟨t283, A20, H⟩ := H
 replace H : (impl_votes_ordered.l0 k y280 t283 (t283.length : Int) 0) = some r := H
 have A2 := Aside0.mk A20
 clear A20
 have H' := Aside0.mk H
 clear H
 go_enter Try.func92, Try.ntmps92
 go_wp2_with (first | ((with_reducible refine gate_dst (N := 1) rfl ?_); refine box_event ?hg (N := 1) ?hd (cs := #[.int .i64 a0_0, .slice A0_1 l0_1.length c0_1]) (t := 53) ?hr ?_; (case hd => rfl); (case hg => rfl); (case hr => first | (go_simp; done) | (go_simp; rfl)); intro gb279 hg w3 hbox hb; have n2_ := Aside0.mk ((by rw [hg]; exact (below_size (zh HB.out)) : w.heap.size ≤ gb279)); replace HB := Aside0.mk (below_step (zh HB.out) hb); have BK279 := Aside0.mk hbox; have GW279 := n2_; have GE279 := n2_; clear n2_ hb hbox hg) | ((with_reducible refine gate_dst (N := 6) rfl ?_); refine Kd.R_lit (Kd.int .i64) _ 3 ?hg (N := 6) ?hd (xs := ([] : List Int)) (inner := []) (ok := fun _ => True) (okp := fun _ => True) ?hr ?hp (fun _ hk => hk) trivial (Below.refl _ _) (Nat.le_refl _) (by simp) ?_; (case hd => rfl); (case hg => rfl); (case hr => first | (go_simp; done) | (go_simp; rfl)); (case hp => exact (Reps.none _ _)); intro v281 w4 ho5 hb hg_ hnew_; clear hg_ hnew_; (first | rw [← Ny280.out] at ho5 | (simp only [Int.reduceToNat] at ho5; rw [← Ny280.out] at ho5)); have n0_ := Aside0.mk (Kd.R_lower ho5 (below_size (zh HB.out))); have n1_ := Aside0.mk (blk_below (g := gb279) (o := .cells #[.int .i64 a0_0, .slice A0_1 l0_1.length c0_1] 53 (0, 0)) (zb BK279.out) hb); have n2_ := Aside0.mk (below_step (zh HB.out) hb); clear BK279; clear HB; have HO282 := n0_; have BK279 := n1_; have HB := n2_; clear n0_ n1_ n2_; clear hb ho5; have hcz6_0 : w4.cell? ⟨gb279, 0, none⟩ = some (.int .i64 a0_0) := (blk_cell BK279.out 0).trans rfl; have hcz6_1 : w4.cell? ⟨gb279, 1, none⟩ = some (.slice A0_1 l0_1.length c0_1) := (blk_cell BK279.out 1).trans rfl; have hfz6_0 := blk_frozen BK279.out 0; have hfz6_1 := blk_frozen BK279.out 1) | ((with_reducible refine gate_callee (f := 100) rfl ?_); refine goesL_ (some 8) rfl rfl Try.func100 (by kernel_rfl) rfl #[.agg #[.int .i64 a0_0, .slice A0_1 l0_1.length c0_1], .func (.func 101) #[] #[]] rfl (by (try simp only [List.map_toArray, List.map_cons, List.map_nil]); first | done | rfl | (simp only [List.length_drop, List.length_take]; rfl)) ?_; (with_reducible refine (setsAll.calls k a0_0 _ _ l0_1 t283 _ ?side1 ?side2 A2.out).mono ?_); (case side1 => repeat (first | exact (Kd.C_below HR0_1.out HB.out) | (with_reducible refine Kd.C_alloc ?_ _) | (with_reducible refine Kd.C_drewN ?_ _) | (with_reducible refine Kd.C_drew ?_))); (case side2 => exact HC0_1.out); rintro e w7 ⟨v284, rfl, ho0, hb⟩; refine ⟨_, rfl, ?_⟩; have n0_ := Aside0.mk (Kd.R_below (zr HO282.out) hb); have n1_ := Aside0.mk (Kd.S_lower (Kd.S_new' ho0 (Kd.R_lt (zr HO282.out))) (below_size (zh HB.out))); have n2_ := Aside0.mk (blk_below (g := gb279) (o := .cells #[.int .i64 a0_0, .slice A0_1 l0_1.length c0_1] 53 (0, 0)) (zb BK279.out) hb); have n3_ := Aside0.mk (below_step (zh HB.out) hb); clear HO282; clear BK279; clear HB; have HO282 := n0_; have HO285 := n1_; have BK279 := n2_; have HB := n3_; clear n0_ n1_ n2_ n3_; (try clear hb); (try clear hb2); (try clear hk); (try clear hi); (try clear ho0); obtain ⟨Ao8, co8, eo8⟩ := Kd.S_slice HO285.out; subst eo8))
 go_loopg [3, 10] k (fun kq v3 v10 w' => ∃ (x3_1 : List Int) (x10_1 : Int), v10 = .int .i64 x10_1 ∧ Aside0 (impl_votes_ordered.l0 kq x3_1 t283 (t283.length : Int) x10_1 = some r) ∧ Aside0 (kq ≤ k) ∧ Aside0 (Kd.R (Kd.int .i64) 3 w' w.heap.size (fun _ => True) v3 x3_1) ∧ Aside0 (Kd.S (Kd.slice 3 (Kd.int .i64)) 22 w' w.heap.size (fun k_ => some k_ ≠ (v3 : Value).ownBlock) (.slice Ao8 t283.length co8) t283) ∧ Aside0 (w'.heap[gb279]? = some (.cells #[.int .i64 a0_0, (.slice A0_1 l0_1.length c0_1)] 53 (0, 0))) ∧ Aside0 (Below w.heap.size w w'))
 case atStart => exact ⟨(y280), (0), (by first | rfl | (simp; done) | (simp [*]; done)), H', ⟨Nat.le_refl _⟩, ⟨zr HO282.out⟩, ⟨by (with_reducible repeat (first | apply Kd.S_alloc | apply Kd.S_drewN | apply Kd.S_drew)); exact Kd.S_mono HO285.out (fun _ hk => hk.2)⟩, ⟨zb BK279.out⟩, ⟨zh HB.out⟩⟩
 case round =>
  clear H'
  try clear c2
  try clear p2
  try clear hcz6_0
  try clear hcz6_1
  try clear hfz6_0
  try clear hfz6_1
  obtain ⟨x3_1, x10_1, rfl, HA, HK1, HO_3, HO_8, BK279, HB⟩ := hrel
  cases gk with
  | zero => exact absurd HA.out (by simp [impl_votes_ordered.l0])
  | succ k1 =>
   have H := HA.out
   clear HA
   simp only [impl_votes_ordered.l0] at H
   by_cases c9 : x10_1 < (t283.length : Int)
   rotate_left
   ·rw [if_neg c9] at H
    have c9b0 : decide (x10_1 < (t283.length : Int)) = false := decide_eq_false c9
    clear c9
    obtain rfl := Option.some.inj H
    go_wp2
    go_ret
    exact ⟨_, by first | rfl | (simp [*, errW_none, errW_some] <;> rfl), by (with_reducible repeat (first | apply Kd.R_alloc | apply Kd.R_drewN | apply Kd.R_drew)); exact HO_3.out, zh HB.out⟩
   rw [if_pos c9] at H
   have c9b0 : decide (x10_1 < (t283.length : Int)) = true := decide_eq_true c9
   clear c9
   by_cases c10 : 0 ≤ x10_1
   rotate_left
   ·rw [if_neg c10] at H
    exact absurd H (by simp)
   rw [if_pos c10] at H
   have c10b0 : decide (0 ≤ x10_1) = true := decide_eq_true c10
   clear c10
   by_cases c11 : x10_1 < (t283.length : Int)
   rotate_left
   ·rw [if_neg c11] at H
    exact absurd H (by simp)
   rw [if_pos c11] at H
   have c11b0 : decide (x10_1 < (t283.length : Int)) = true := decide_eq_true c11
   clear c11
   replace H := Option.bind_eq_some_iff.mp H
   obtain ⟨t287, A120, H⟩ := H
   replace H : (if x3_1.length < 17592186044416 then (impl_votes_ordered.l0 k1 (x3_1 ++ [t287]) t283 (t283.length : Int) (wrap64 (x10_1 + 1))) else (none)) = some r := H
   have A12 := Aside0.mk A120
   clear A120
   by_cases c13 : x3_1.length < 17592186044416
   rotate_left
   ·rw [if_neg c13] at H
    exact absurd H (by simp)
   rw [if_pos c13] at H
   have LMc13 := Aside0.mk c13
   clear c13
   obtain ⟨y288, hy288⟩ : ∃ y_ : List Int, y_ = (x3_1 ++ [t287]) := ⟨_, rfl⟩
   replace H : (impl_votes_ordered.l0 k1 y288 t283 (t283.length : Int) (wrap64 (x10_1 + 1))) = some r := by first | (rw [hy288]; with_reducible exact H) | (have H2_ := (Option.bind_some _ _).symm.trans H; rw [hy288]; with_reducible exact H2_) | (have H2_ := (Option.bind_some _ _).symm.trans H; with_reducible exact H2_) | with_reducible exact H | (rw [hy288]; exact H) | exact H
   have Ny288 := Aside0.mk hy288
   clear hy288
   have H' := Aside0.mk H
   clear H
   have p286 : 0 ≤ (x10_1 : Int) := of_decide_eq_true (by first | (with_reducible assumption) | assumption)
   have q286 : x10_1 < (t283.length : Int) := of_decide_eq_true (by first | (with_reducible assumption) | assumption)
   obtain ⟨ad286, A286_0, c286_0, e286, hx286_0, hl286_0, hi286_0⟩ := at_L1 (Kd.S_reads' HO_8.out).2.2 x10_1 p286 q286
   cases e286
   obtain ⟨ce286, hce286, hMe286, hcc286⟩ := Kd.S_get HO_8.out [] x10_1 p286 (by first | exact q286 | exact of_decide_eq_true (by first | (with_reducible assumption) | assumption) | (have e_ := (Kd.S_reads' HO_8.out).1; omega))
   obtain ⟨ve286_0, rfl, ge286_0⟩ := hMe286
   have hv286_0 := hcc286 0 _ rfl
   rw [Nat.add_zero, show ((Kd.slice 3 (Kd.int .i64))).sz = 1 from rfl, Nat.mul_one] at hv286_0
   replace hv286_0 := Option.some.inj (hv286_0.symm.trans hx286_0)
   rw [hv286_0] at ge286_0
   have HL286_0 := Aside0.mk (show Kd.R (Kd.int .i64) 3 _ _ _ _ (rd_L1 t283 x10_1) from ge286_0)
   clear hv286_0 ge286_0
   clear hcc286 hce286
   have HR286_0 := Aside0.mk hi286_0
   have HC286_0 := Aside0.mk hl286_0
   clear hi286_0 hl286_0
   replace p286 := eq_true p286
   replace q286 := eq_true q286
   go_wp2_with (first | ((with_reducible refine gate_callee (f := 85) rfl ?_); refine goesL_ (some 16) rfl rfl Try.func85 (by kernel_rfl) rfl #[.slice A286_0 (rd_L1 t283 x10_1).length c286_0] rfl (by (try simp only [List.map_toArray, List.map_cons, List.map_nil]); first | done | rfl | (simp only [List.length_drop, List.length_take]; rfl)) ?_; (with_reducible refine (impl_maskOf.calls k1 _ _ (rd_L1 t283 x10_1) t287 _ ?side1 ?side2 A12.out).mono ?_); (case side1 => repeat (first | exact (by repeat (first | (with_reducible exact HR286_0.out) | (with_reducible refine Kd.C_alloc ?_ _) | (with_reducible refine Kd.C_drewN ?_ _) | (with_reducible refine Kd.C_drew ?_) | exact HR286_0.out)) | (with_reducible refine Kd.C_alloc ?_ _) | (with_reducible refine Kd.C_drewN ?_ _) | (with_reducible refine Kd.C_drew ?_))); (case side2 => exact HC286_0.out); rintro e w' ⟨rfl, ⟨nd, rfl⟩⟩; refine ⟨_, rfl, ?_⟩) | ((with_reducible refine gate_builtin (b := .append) (xs := #[.tmp 14, .tmp 17]) rfl ?_); at_builtin; refine Kd.R_append (Kd.int .i64) (w0 := w) w.heap.size rfl (.tmp 14) (.tmp 17) 22 3 (.int .i64 0) 8 rfl Try.underlying22 info3 rfl (by decide) (by omega) u3 x3_1 t287 [.int .i64 t287] (fun _ => True) (fun _ => False) rfl rfl ?aP (fun _ hk => hk.elim) ?aF ?aO ?aB ?aS ?aL ?_; (case aP => exact rfl); (case aB => exact (zh HB.out)); (case aF => exact (fun _ _ => trivial)); (case aO => exact (zr HO_3.out)); (case aS => exact (below_size (zh HB.out))); (case aL => have := LMc13.out; omega); intro v289 w14 ho hb hg hat; rw [← Ny288.out] at ho; have n0_ := Aside0.mk (Kd.S_after (ok := (fun _ => True)) (by (with_reducible repeat (first | apply Kd.S_alloc | apply Kd.S_drewN | apply Kd.S_drew)); exact Kd.S_mono HO_8.out (fun _ hk => ⟨trivial, hk⟩)) hg hat); have n1_ := Aside0.mk (blk_grown (g := gb279) (o := .cells #[.int .i64 a0_0, .slice A0_1 l0_1.length c0_1] 53 (0, 0)) (zb BK279.out) hg (Kd.R_ne HO_3.out BK279.out (by decide))); have n2_ := Aside0.mk (Kd.R_after (ok := (fun k_ => some k_ ≠ (.slice (some ad286) t283.length co8 : Value).ownBlock)) (by (with_reducible repeat (first | apply Kd.R_alloc | apply Kd.R_drewN | apply Kd.R_drew)); exact Kd.R_mono HL286_0.out (fun _ hk => ⟨hk.2, hk.1⟩)) hg hat); have n3_ := Aside0.mk (hb); have n4_ := Aside0.mk (ho); clear HO_8; clear BK279; clear HL286_0; clear HB; clear HO_3; have HO_8 := n0_; have BK279 := n1_; have HL286_0 := n2_; have HB := n3_; have HO290 := n4_; clear n0_ n1_ n2_ n3_ n4_; clear ho hb hg hat))
   go_roundg k1
   case measure => have := HK1.out; omega
   case rel => exact ⟨(y288), (wrap64 (x10_1 + 1)), (by first | rfl | (simp; done) | (simp [*]; done)), H', ⟨by have := HK1.out; omega⟩, ⟨zr HO290.out⟩, ⟨by (with_reducible repeat (first | apply Kd.S_alloc | apply Kd.S_drewN | apply Kd.S_drew)); exact Kd.S_mono HO_8.out (fun _ hk => hk.2)⟩, ⟨zb BK279.out⟩, ⟨zh HB.out⟩⟩
section
variable (a1 : Int → Int → Int → Int → Option Bool)
mutual
def impl_votes_firstOfTwo.l0 : Nat → List Int → List Int → Int → Int → Int → List Bool → Option ((List (List Int)) × (List (List Int)) × Bool)
 | 0, _, _, _, _, _, _ => none
 | k + 1, x6, x16, x17, x18, x310000, x310001 => if x18 < x17 then (if 0 ≤ x18 then (if x18 < (x16.length : Int) then (if x18 ≤ (x6.length : Int) then ((some (x6.drop (x18 : Int).toNat : List Int)).bind fun y315 => (impl_votes_firstOfTwo.l1 k x6 (rd x16 x18) x16 x17 x18 y315 (y315.length : Int) 0 x310000 x310001)) else (none)) else (none)) else (none)) else (some (([] : List (List Int)), ([] : List (List Int)), false))
def impl_votes_firstOfTwo.l1 : Nat → List Int → Int → List Int → Int → Int → List Int → Int → Int → Int → List Bool → Option ((List (List Int)) × (List (List Int)) × Bool)
 | 0, _, _, _, _, _, _, _, _, _, _ => none
 | k + 1, x6, x8, x16, x17, x18, x25, x26, x27, x310000, x310001 => if x27 < x26 then (if 0 ≤ x27 then (if x27 < (x25.length : Int) then (if 0 ≤ x8 then (if x8 < (x310001.length : Int) then (if rdOf false x310001 x8 = true then (if 0 ≤ (rd x25 x27) then (if (rd x25 x27) < (x310001.length : Int) then (impl_votes_firstOfTwo.j2 k x6 x8 (rd x25 x27) x16 x17 x18 x25 x26 x27 (!(rdOf false x310001 (rd x25 x27))) x310000 x310001) else (none)) else (none)) else (impl_votes_firstOfTwo.j2 k x6 x8 (rd x25 x27) x16 x17 x18 x25 x26 x27 true x310000 x310001)) else (none)) else (none)) else (none)) else (none)) else (impl_votes_firstOfTwo.l0 k x6 x16 x17 (wrap64 (x18 + 1)) x310000 x310001)
def impl_votes_firstOfTwo.j2 : Nat → List Int → Int → Int → List Int → Int → Int → List Int → Int → Int → Bool → Int → List Bool → Option ((List (List Int)) × (List (List Int)) × Bool)
 | 0, _, _, _, _, _, _, _, _, _, _, _, _ => none
 | k + 1, x6, x8, x10, x16, x17, x18, x25, x26, x27, x44, x310000, x310001 => if x44 = true then (impl_votes_firstOfTwo.l1 k x6 x8 x16 x17 x18 x25 x26 (wrap64 (x27 + 1)) x310000 x310001) else (impl_votes_firstOfTwo.l2 k x6 x8 x10 x16 x17 x18 x25 x26 x27 x6 (x6.length : Int) 0 x310000 x310001)
def impl_votes_firstOfTwo.l2 : Nat → List Int → Int → Int → List Int → Int → Int → List Int → Int → Int → List Int → Int → Int → Int → List Bool → Option ((List (List Int)) × (List (List Int)) × Bool)
 | 0, _, _, _, _, _, _, _, _, _, _, _, _, _, _ => none
 | k + 1, x6, x8, x10, x16, x17, x18, x25, x26, x27, x45, x46, x47, x310000, x310001 => if x47 < x46 then (if 0 ≤ x47 then (if x47 < (x45.length : Int) then (if 0 ≤ (rd x45 x47) then (if (rd x45 x47) < (x310001.length : Int) then (if rdOf false x310001 (rd x45 x47) = true then (impl_votes_firstOfTwo.j4 k x6 x8 x10 x47 (rd x45 x47) x16 x17 x18 x25 x26 x27 x45 x46 x47 true x310000 x310001) else (if (Go.bits .and .i64 (rd x45 x47) (Go.bits .and .i64 x8 x10)) = (Go.bits .and .i64 x8 x10) then (impl_votes_firstOfTwo.j4 k x6 x8 x10 x47 (rd x45 x47) x16 x17 x18 x25 x26 x27 x45 x46 x47 ((Go.bits .andNot .i64 (rd x45 x47) (Go.bits .or .i64 x8 x10)) != 0) x310000 x310001) else (impl_votes_firstOfTwo.j4 k x6 x8 x10 x47 (rd x45 x47) x16 x17 x18 x25 x26 x27 x45 x46 x47 true x310000 x310001))) else (none)) else (none)) else (none)) else (none)) else (impl_votes_firstOfTwo.l1 k x6 x8 x16 x17 x18 x25 x26 (wrap64 (x27 + 1)) x310000 x310001)
def impl_votes_firstOfTwo.j4 : Nat → List Int → Int → Int → Int → Int → List Int → Int → Int → List Int → Int → Int → List Int → Int → Int → Bool → Int → List Bool → Option ((List (List Int)) × (List (List Int)) × Bool)
 | 0, _, _, _, _, _, _, _, _, _, _, _, _, _, _, _, _, _ => none
 | k + 1, x6, x8, x10, x11, x12, x16, x17, x18, x25, x26, x27, x45, x46, x47, x75, x310000, x310001 => if x75 = true then (impl_votes_firstOfTwo.l2 k x6 x8 x10 x16 x17 x18 x25 x26 x27 x45 x46 (wrap64 (x47 + 1)) x310000 x310001) else (if 0 ≤ (Go.bits .or .i64 (Go.bits .and .i64 x8 x10) (Go.bits .andNot .i64 (Go.bits .or .i64 x8 x10) x12)) then (if (Go.bits .or .i64 (Go.bits .and .i64 x8 x10) (Go.bits .andNot .i64 (Go.bits .or .i64 x8 x10) x12)) < (x310001.length : Int) then (if (rdOf false x310001 (Go.bits .or .i64 (Go.bits .and .i64 x8 x10) (Go.bits .andNot .i64 (Go.bits .or .i64 x8 x10) x12)) = true) then (impl_votes_firstOfTwo.l2 k x6 x8 x10 x16 x17 x18 x25 x26 x27 x45 x46 (wrap64 (x47 + 1)) x310000 x310001) else (if 0 ≤ x11 then (if x11 ≤ (x6.length : Int) then ((slices_Contains_int_int.f k (x6.drop (x11 : Int).toNat) (Go.bits .or .i64 (Go.bits .and .i64 x8 x10) (Go.bits .andNot .i64 (Go.bits .or .i64 x8 x10) x12))).bind fun t329 => (if t329 = true then ((a1 x8 x10 x12 (Go.bits .or .i64 (Go.bits .and .i64 x8 x10) (Go.bits .andNot .i64 (Go.bits .or .i64 x8 x10) x12))).bind fun t330 => (if t330 = true then ((impl_pairs.f k (([x8, x10] : List Int)) (([x12, Go.bits .or .i64 (Go.bits .and .i64 x8 x10) (Go.bits .andNot .i64 (Go.bits .or .i64 x8 x10) x12)] : List Int))).bind fun bt337 => (some (bt337.1, bt337.2, true))) else (impl_votes_firstOfTwo.l2 k x6 x8 x10 x16 x17 x18 x25 x26 x27 x45 x46 (wrap64 (x47 + 1)) x310000 x310001))) else (impl_votes_firstOfTwo.l2 k x6 x8 x10 x16 x17 x18 x25 x26 x27 x45 x46 (wrap64 (x47 + 1)) x310000 x310001))) else (none)) else (none))) else (none)) else (none))
end
def impl_votes_firstOfTwo.f (k : Nat) (a0_0 : Int) (l0_1 : List Bool) (a1 : Int → Int → Int → Int → Option Bool) : Option ((List (List Int)) × (List (List Int)) × Bool) := (impl_votes_ordered.f k a0_0 l0_1).bind fun t311 => (impl_votes_firstOfTwo.l0 a1 k t311 t311 (t311.length : Int) 0 a0_0 l0_1)
set_option maxHeartbeats 8000000 in
set_option maxRecDepth 100000 in
theorem impl_votes_firstOfTwo.calls (k : Nat) (a0_0 : Int) (A0_1 : Option Addr) (c0_1 : Nat) (l0_1 : List Bool) (a1 : Int → Int → Int → Int → Option Bool) (g_ : Nat) (fa_ lb_ : Array Value) (eg_ : ∀ args w, (callFunc g_ args).run Try.prog w = .ok (.enter g_ args) w) (r1 : List (List Int)) (r2 : List (List Int)) (r3 : Bool) (w : World) (hp0_ : PredI4 Try.prog g_ fa_ lb_ w a1) (hr0_1 : Kd.C Kd.bool w A0_1 l0_1.length l0_1) (hc0_1 : l0_1.length ≤ c0_1) (h : impl_votes_firstOfTwo.f k a0_0 l0_1 a1 = some (r1, r2, r3)) :
  Calls Try.prog 77 #[.agg #[.int .i64 a0_0, .slice A0_1 l0_1.length c0_1], .func (.func g_) fa_ lb_] w fun e w' => ∃ v0_ v1_ : Value, e = .returned (.tuple #[.agg #[v0_, v1_], .bool r3]) ∧ ∃ ow_ : Nat → Bool, Kd.S (Kd.slice 3 (Kd.int .i64)) 22 w' w.heap.size (fun k_ => ow_ k_ = true) v0_ r1 ∧ Kd.S (Kd.slice 3 (Kd.int .i64)) 22 w' w.heap.size (fun k_ => ow_ k_ = false) v1_ r2 ∧ Below w.heap.size w w' := by
 have hp_ := Aside0.mk hp0_
 clear hp0_
 have hu53 := Try.underlying53
 have hu75 := Try.underlying75
 have HR0_1 := Aside0.mk hr0_1
 have HC0_1 := Aside0.mk hc0_1
 clear hr0_1 hc0_1
 have HB := Aside0.mk (Below.refl w.heap.size w)
 have H : ((impl_votes_ordered.f k a0_0 l0_1).bind fun t311 => (impl_votes_firstOfTwo.l0 a1 k t311 t311 (t311.length : Int) 0 a0_0 l0_1)) = some (r1, r2, r3) := h
 clear h
 replace H := Option.bind_eq_some_iff.mp H
 obtain ⟨t311, A30, H⟩ := H
 replace H : (impl_votes_firstOfTwo.l0 a1 k t311 t311 (t311.length : Int) 0 a0_0 l0_1) = some (r1, r2, r3) := H
 have A3 := Aside0.mk A30
 clear A30
 have H' := Aside0.mk H
 clear H
 go_enter Try.func77, Try.ntmps77
 go_wp2_with (first | ((with_reducible refine gate_dst (N := 2) rfl ?_); refine box_event ?hg (N := 2) ?hd (cs := #[.int .i64 a0_0, .slice A0_1 l0_1.length c0_1]) (t := 53) ?hr ?_; (case hd => rfl); (case hg => rfl); (case hr => first | (go_simp; done) | (go_simp; rfl)); intro gb309 hg w4 hbox hb; have n2_ := Aside0.mk ((by rw [hg]; exact (below_size (zh HB.out)) : w.heap.size ≤ gb309)); replace HB := Aside0.mk (below_step (zh HB.out) hb); have BK309 := Aside0.mk hbox; have GW309 := n2_; have GE309 := n2_; clear n2_ hb hbox hg) | ((with_reducible refine gate_dst (N := 4) rfl ?_); refine box_event ?hg (N := 4) ?hd (cs := #[.slice none 0 0, .slice none 0 0]) (t := 75) ?hr ?_; (case hd => rfl); (case hg => rfl); (case hr => first | (go_simp; done) | (go_simp; rfl)); intro gb310 hg w5 hbox hb; have n0_ := Aside0.mk (blk_below (g := gb309) (o := .cells #[.int .i64 a0_0, .slice A0_1 l0_1.length c0_1] 53 (0, 0)) (zb BK309.out) hb); have n1_ := Aside0.mk (below_step (zh HB.out) hb); have n2_ := Aside0.mk (hbox); have n3_ := Aside0.mk ((by rw [hg]; exact (below_size (zh HB.out)) : w.heap.size ≤ gb310)); have n4_ := Aside0.mk ((by rw [hg]; exact (below_size (zh HB.out)) : w.heap.size ≤ gb310)); have n5_ := Aside0.mk ((by rw [hg]; exact Nat.ne_of_lt (blk_lt (g := gb309) (o := .cells #[.int .i64 a0_0, .slice A0_1 l0_1.length c0_1] 53 (0, 0)) (zb BK309.out)) : gb309 ≠ gb310)); have n6_ := Aside0.mk ((by rw [hg]; exact Nat.ne_of_gt (blk_lt (g := gb309) (o := .cells #[.int .i64 a0_0, .slice A0_1 l0_1.length c0_1] 53 (0, 0)) (zb BK309.out)) : gb310 ≠ gb309)); clear BK309; clear HB; have BK309 := n0_; have HB := n1_; have BK310 := n2_; have GW310 := n3_; have GE310 := n4_; have NB309_310 := n5_; have NB310_309 := n6_; clear n0_ n1_ n2_ n3_ n4_ n5_ n6_; clear hb hbox hg; have hnb6 := NB309_310.out; have hnc6 := NB310_309.out; have hcz7_0 : w5.cell? ⟨gb309, 0, none⟩ = some (.int .i64 a0_0) := (blk_cell BK309.out 0).trans rfl; have hcz7_1 : w5.cell? ⟨gb309, 1, none⟩ = some (.slice A0_1 l0_1.length c0_1) := (blk_cell BK309.out 1).trans rfl; have hfz7_0 := blk_frozen BK309.out 0; have hfz7_1 := blk_frozen BK309.out 1) | ((with_reducible refine gate_callee (f := 92) rfl ?_); refine goesL_ (some 15) rfl rfl Try.func92 (by kernel_rfl) rfl #[.agg #[.int .i64 a0_0, .slice A0_1 l0_1.length c0_1]] rfl (by (try simp only [List.map_toArray, List.map_cons, List.map_nil]); first | done | rfl | (simp only [List.length_drop, List.length_take]; rfl)) ?_; (with_reducible refine (impl_votes_ordered.calls k a0_0 _ _ l0_1 t311 _ ?side1 ?side2 A3.out).mono ?_); (case side1 => repeat (first | exact (Kd.C_below HR0_1.out HB.out) | (with_reducible refine Kd.C_alloc ?_ _) | (with_reducible refine Kd.C_drewN ?_ _) | (with_reducible refine Kd.C_drew ?_))); (case side2 => exact HC0_1.out); rintro e w8 ⟨v312, rfl, ho0, hb⟩; refine ⟨_, rfl, ?_⟩; have n0_ := Aside0.mk (Kd.R_lower ho0 (below_size (zh HB.out))); have n1_ := Aside0.mk (blk_below (g := gb309) (o := .cells #[.int .i64 a0_0, .slice A0_1 l0_1.length c0_1] 53 (0, 0)) (zb BK309.out) hb); have n2_ := Aside0.mk (blk_below (g := gb310) (o := .cells #[.slice none 0 0, .slice none 0 0] 75 (0, 0)) (zb BK310.out) hb); have n3_ := Aside0.mk (below_step (zh HB.out) hb); clear BK309; clear BK310; clear HB; have HO313 := n0_; have BK309 := n1_; have BK310 := n2_; have HB := n3_; clear n0_ n1_ n2_ n3_; (try clear hb); (try clear hb2); (try clear hk); (try clear hi); (try clear ho0); obtain ⟨Ao9, co9, eo9⟩ := Kd.R_slice HO313.out; subst eo9))
 go_loopg [18] k (fun kq v18 w' => ∃ (x18_1 : Int), v18 = .int .i64 x18_1 ∧ Aside0 (impl_votes_firstOfTwo.l0 a1 kq t311 t311 (t311.length : Int) x18_1 a0_0 l0_1 = some (r1, r2, r3)) ∧ Aside0 (kq ≤ k) ∧ Aside0 (Kd.R (Kd.int .i64) 3 w' w.heap.size (fun _ => True) (.slice Ao9 t311.length co9) t311) ∧ Aside0 (Kd.R (Kd.int .i64) 3 w' w.heap.size (fun _ => True) (.slice Ao9 t311.length co9) t311) ∧ Aside0 (w'.heap[gb309]? = some (.cells #[.int .i64 a0_0, (.slice A0_1 l0_1.length c0_1)] 53 (0, 0))) ∧ Aside0 (w'.heap[gb310]? = some (.cells #[(.slice none 0 0), (.slice none 0 0)] 75 (0, 0))) ∧ Aside0 (Below w.heap.size w w'))
 case atStart => exact ⟨(0), (by first | rfl | (simp; done) | (simp [*]; done)), H', ⟨Nat.le_refl _⟩, ⟨zr HO313.out⟩, ⟨zr HO313.out⟩, ⟨zb BK309.out⟩, ⟨zb BK310.out⟩, ⟨zh HB.out⟩⟩
 case round =>
  clear H'
  try clear p2
  try clear c6
  try clear c7
  try clear c9
  try clear hcz7_0
  try clear hcz7_1
  try clear hfz7_0
  try clear hfz7_1
  obtain ⟨x18_1, rfl, HA, HK1, HO_6, HO_16, BK309, BK310, HB⟩ := hrel
  cases gk with
  | zero => exact absurd HA.out (by simp [impl_votes_firstOfTwo.l0])
  | succ k1 =>
   have H := HA.out
   clear HA
   simp only [impl_votes_firstOfTwo.l0] at H
   by_cases c10 : x18_1 < (t311.length : Int)
   ·rw [if_pos c10] at H
    have c10b0 : decide (x18_1 < (t311.length : Int)) = true := decide_eq_true c10
    clear c10
    by_cases c11 : 0 ≤ x18_1
    ·rw [if_pos c11] at H
     have c11b0 : decide (0 ≤ x18_1) = true := decide_eq_true c11
     clear c11
     by_cases c12 : x18_1 < (t311.length : Int)
     ·rw [if_pos c12] at H
      have c12b0 : decide (x18_1 < (t311.length : Int)) = true := decide_eq_true c12
      clear c12
      have c13b0 := eq_true (of_decide_eq_true (by first | (with_reducible assumption) | assumption) : 0 ≤ x18_1)
      by_cases c14 : x18_1 ≤ (t311.length : Int)
      ·rw [if_pos c14] at H
       have c14b0 := eq_true c14
       have c14b1 : decide (x18_1 ≤ (t311.length : Int)) = true := decide_eq_true c14
       clear c14
       obtain ⟨y315, hy315⟩ : ∃ y_ : List Int, y_ = (t311.drop (x18_1 : Int).toNat) := ⟨_, rfl⟩
       replace H : (impl_votes_firstOfTwo.l1 a1 k1 t311 (rd t311 x18_1) t311 (t311.length : Int) x18_1 y315 (y315.length : Int) 0 a0_0 l0_1) = some (r1, r2, r3) := by first | (rw [hy315]; with_reducible exact H) | (have H2_ := (Option.bind_some _ _).symm.trans H; rw [hy315]; with_reducible exact H2_) | (have H2_ := (Option.bind_some _ _).symm.trans H; with_reducible exact H2_) | with_reducible exact H | (rw [hy315]; exact H) | exact H
       have Ny315 := Aside0.mk hy315
       clear hy315
       have H' := Aside0.mk H
       clear H
       have p314 : 0 ≤ (x18_1 : Int) := of_decide_eq_true (by first | (with_reducible assumption) | assumption)
       have q314 : x18_1 < (t311.length : Int) := of_decide_eq_true (by first | (with_reducible assumption) | assumption)
       obtain ⟨ad314, e314, hx314_0⟩ := Kd.at_int (Kd.R_reads' HO_16.out).2.2 x18_1 p314 q314
       cases e314
       replace p314 := eq_true p314
       replace q314 := eq_true q314
       have q15 : (x18_1 : Int) ≤ ((t311.length : Int) : Int) := of_decide_eq_true (by first | (with_reducible assumption) | assumption)
       obtain ⟨i015, hi015, _, hsz15, _⟩ := info_parts info3
       have hroom15 : t311.length ≤ co9 := (Kd.R_reads' HO_6.out).2.1
       have hC15 : Kd.C (Kd.int .i64) _ (some ad314) t311.length t311 := (Kd.R_reads' HO_6.out).2.2
       have q015 : (0 : Int) ≤ (x18_1 : Int) := of_decide_eq_true (by first | (with_reducible assumption) | assumption)
       have hcut15 := cut_from (P := Try.prog) 22 3 .i64 Try.underlying22 hi015 1 hsz15 (some ad314) t311.length co9 x18_1 q015 q15
       have hr15 := Kd.C_drop (m := (x18_1 : Int).toNat) (c := co9) hC15 (by omega) hroom15
       obtain ⟨A318, hA15⟩ : ∃ A1, A1 = (if co9 = (x18_1 : Int).toNat then (some ad314) else ((some ad314) : Option Addr).map (·.add ((x18_1 : Int).toNat * 1))) := ⟨_, rfl⟩
       obtain ⟨c15, hc15⟩ : ∃ c1, c1 = co9 - (x18_1 : Int).toNat := ⟨_, rfl⟩
       have hy15 : y315.length = t311.length - (x18_1 : Int).toNat := (by rw [Ny315.out, List.length_drop] <;> omega)
       rw [show (t311).drop (x18_1 : Int).toNat = y315 from Ny315.out.symm] at hr15
       replace hr15 : Kd.C (Kd.int .i64) _ A318 y315.length y315 := (by rw [hA15]; exact hr15)
       rw [← hy15, ← hA15, ← hc15] at hcut15
       have HR318 := Aside0.mk hr15
       have HC318 := Aside0.mk (show y315.length ≤ c15 from by rw [hy15, hc15]; exact Nat.sub_le_sub_right hroom15 _)
       clear hr15 hC15 hroom15 hi015 hsz15 hc15
       have KY15 := Aside0.mk hy15
       have KA15 := Aside0.mk hA15
       clear hy15 hA15
       have KL15 := Aside0.mk (show (x18_1 : Int).toNat ≤ t311.length from by omega)
       replace q15 := eq_true q15
       go_wp2
       go_loopg [27] k1 (fun kq v27 w' => ∃ (x27_2 : Int), v27 = .int .i64 x27_2 ∧ Aside0 (impl_votes_firstOfTwo.l1 a1 kq t311 (rd t311 x18_1) t311 (t311.length : Int) x18_1 y315 (y315.length : Int) x27_2 a0_0 l0_1 = some (r1, r2, r3)) ∧ Aside0 (kq ≤ k1) ∧ Aside0 (Kd.R (Kd.int .i64) 3 w' w.heap.size (fun _ => True) (.slice (some ad314) t311.length co9) t311) ∧ Aside0 (Kd.R (Kd.int .i64) 3 w' w.heap.size (fun _ => True) (.slice (some ad314) t311.length co9) t311) ∧ Aside0 (w'.heap[gb309]? = some (.cells #[.int .i64 a0_0, (.slice A0_1 l0_1.length c0_1)] 53 (0, 0))) ∧ Aside0 (w'.heap[gb310]? = some (.cells #[(.slice none 0 0), (.slice none 0 0)] 75 (0, 0))) ∧ Aside0 (Kd.C (Kd.int .i64) w' A318 y315.length y315) ∧ Aside0 (Below w.heap.size w w'))
       case atStart => exact ⟨(0), (by first | rfl | (simp; done) | (simp [*]; done)), H', ⟨Nat.le_refl _⟩, ⟨zr HO_6.out⟩, ⟨zr HO_16.out⟩, ⟨zb BK309.out⟩, ⟨zb BK310.out⟩, ⟨by repeat (first | (with_reducible exact HR318.out) | (with_reducible refine Kd.C_alloc ?_ _) | (with_reducible refine Kd.C_drewN ?_ _) | (with_reducible refine Kd.C_drew ?_) | exact HR318.out)⟩, ⟨zh HB.out⟩⟩
       case round =>
        clear H'
        try clear c1
        try clear q1
        try clear p2
        try clear p3
        try clear q3
        try clear hx3
        try clear c6
        try clear c7
        try clear c9
        try clear c10
        try clear c10b0
        try clear c11
        try clear c11b0
        try clear c12
        try clear c12b0
        try clear c13
        try clear c13b0
        try clear c14
        try clear c14b0
        try clear c14b1
        try clear c15
        try clear q15
        try clear hcz7_0
        try clear hcz7_1
        try clear hfz7_0
        try clear hfz7_1
        try clear hx314_0
        try clear p2
        try clear p314
        try clear q015
        try clear q15
        try clear q314
        obtain ⟨x27_2, rfl, HA, HK2, HO_6, HO_16, BK309, BK310, HR318, HB⟩ := hrel
        cases gk with
        | zero => exact absurd HA.out (by simp [impl_votes_firstOfTwo.l1])
        | succ k2 =>
         have H := HA.out
         clear HA
         simp only [impl_votes_firstOfTwo.l1] at H
         by_cases c16 : x27_2 < (y315.length : Int)
         ·rw [if_pos c16] at H
          have c16b0 : decide (x27_2 < (y315.length : Int)) = true := decide_eq_true c16
          clear c16
          by_cases c17 : 0 ≤ x27_2
          ·rw [if_pos c17] at H
           have c17b0 : decide (0 ≤ x27_2) = true := decide_eq_true c17
           clear c17
           by_cases c18 : x27_2 < (y315.length : Int)
           ·rw [if_pos c18] at H
            have c18b0 : decide (x27_2 < (y315.length : Int)) = true := decide_eq_true c18
            clear c18
            have HC19 := Aside0.mk H
            clear H
            have p319 : 0 ≤ (x27_2 : Int) := of_decide_eq_true (by first | (with_reducible assumption) | assumption)
            have q319 : x27_2 < (y315.length : Int) := of_decide_eq_true (by first | (with_reducible assumption) | assumption)
            obtain ⟨ad319, e319, hx319_0⟩ := Kd.at_int HR318.out x27_2 p319 q319
            cases e319
            (try replace hx319_0 := (HB.out.cell (World.block_lt_of_cell? w _ hx319_0)).trans hx319_0)
            replace p319 := eq_true p319
            replace q319 := eq_true q319
            go_upto_region 8 with (fail)
            go_cut [44] (fun v44 wc => ∃ (kq : Nat) (x44_18 : Bool), v44 = .bool x44_18 ∧ Aside0 (impl_votes_firstOfTwo.j2 a1 kq t311 (rd t311 x18_1) (rd y315 x27_2) t311 (t311.length : Int) x18_1 y315 (y315.length : Int) x27_2 x44_18 a0_0 l0_1 = some (r1, r2, r3)) ∧ Aside0 (kq ≤ k2) ∧ Aside0 (Kd.R (Kd.int .i64) 3 wc w.heap.size (fun _ => True) (.slice (some ad314) t311.length co9) t311) ∧ Aside0 (Kd.R (Kd.int .i64) 3 wc w.heap.size (fun _ => True) (.slice (some ad314) t311.length co9) t311) ∧ Aside0 (wc.heap[gb309]? = some (.cells #[.int .i64 a0_0, (.slice A0_1 l0_1.length c0_1)] 53 (0, 0))) ∧ Aside0 (wc.heap[gb310]? = some (.cells #[(.slice none 0 0), (.slice none 0 0)] 75 (0, 0))) ∧ Aside0 (Kd.C (Kd.int .i64) wc (some ad319) y315.length y315) ∧ Aside0 (Below w.heap.size w wc))
            case first =>
             have H := HC19.out
             clear HC19
             by_cases c20 : 0 ≤ (rd t311 x18_1)
             ·rw [if_pos c20] at H
              have c20b0 : decide (0 ≤ (rd t311 x18_1)) = true := decide_eq_true c20
              clear c20
              (first | rw [c20b0] | (simp only [i64_w, i32_w]; rw [c20b0]) | skip)
              by_cases c21 : (rd t311 x18_1) < (l0_1.length : Int)
              ·rw [if_pos c21] at H
               have c21b0 : decide ((rd t311 x18_1) < (l0_1.length : Int)) = true := decide_eq_true c21
               clear c21
               obtain ⟨bq22, hbq22⟩ : ∃ b_ : Bool, b_ = (rdOf false l0_1 (rd t311 x18_1)) := ⟨_, rfl⟩
               replace H : (if bq22 = true then (if 0 ≤ (rd y315 x27_2) then (if (rd y315 x27_2) < (l0_1.length : Int) then (impl_votes_firstOfTwo.j2 a1 k2 t311 (rd t311 x18_1) (rd y315 x27_2) t311 (t311.length : Int) x18_1 y315 (y315.length : Int) x27_2 (!(rdOf false l0_1 (rd y315 x27_2))) a0_0 l0_1) else (none)) else (none)) else (impl_votes_firstOfTwo.j2 a1 k2 t311 (rd t311 x18_1) (rd y315 x27_2) t311 (t311.length : Int) x18_1 y315 (y315.length : Int) x27_2 true a0_0 l0_1)) = some (r1, r2, r3) := by rw [← hbq22] at H; exact H
               have Nbq22 := Aside0.mk hbq22
               clear hbq22
               by_cases c23 : bq22 = true
               ·subst c23
                have H1 : (if 0 ≤ (rd y315 x27_2) then (if (rd y315 x27_2) < (l0_1.length : Int) then (impl_votes_firstOfTwo.j2 a1 k2 t311 (rd t311 x18_1) (rd y315 x27_2) t311 (t311.length : Int) x18_1 y315 (y315.length : Int) x27_2 (!(rdOf false l0_1 (rd y315 x27_2))) a0_0 l0_1) else (none)) else (none)) = some (r1, r2, r3) := by rw [if_pos rfl] at H; exact H
                clear H
                have H := H1
                clear H1
                by_cases c24 : 0 ≤ (rd y315 x27_2)
                ·rw [if_pos c24] at H
                 have c24b0 : decide (0 ≤ (rd y315 x27_2)) = true := decide_eq_true c24
                 clear c24
                 by_cases c25 : (rd y315 x27_2) < (l0_1.length : Int)
                 ·rw [if_pos c25] at H
                  have c25b0 : decide ((rd y315 x27_2) < (l0_1.length : Int)) = true := decide_eq_true c25
                  clear c25
                  have H' := Aside0.mk H
                  clear H
                  have hnb26 := NB309_310.out
                  have hnc26 := NB310_309.out
                  have hcz27_0 : wr.cell? ⟨gb309, 0, none⟩ = some (.int .i64 a0_0) := (blk_cell BK309.out 0).trans rfl
                  have hcz27_1 : wr.cell? ⟨gb309, 1, none⟩ = some (.slice A0_1 l0_1.length c0_1) := (blk_cell BK309.out 1).trans rfl
                  have hfz27_0 := blk_frozen BK309.out 0
                  have hfz27_1 := blk_frozen BK309.out 1
                  have p320 : 0 ≤ ((rd t311 x18_1) : Int) := of_decide_eq_true (by first | (with_reducible assumption) | assumption)
                  have q320 : (rd t311 x18_1) < (l0_1.length : Int) := of_decide_eq_true (by first | (with_reducible assumption) | assumption)
                  obtain ⟨ad320, e320, hx320_0⟩ := Kd.at_bool HR0_1.out (rd t311 x18_1) p320 q320
                  (try rw [← Nbq22.out] at hx320_0)
                  cases e320
                  (try replace hx320_0 := (HB.out.cell (World.block_lt_of_cell? w _ hx320_0)).trans hx320_0)
                  replace p320 := eq_true p320
                  replace q320 := eq_true q320
                  have p321 : 0 ≤ ((rd y315 x27_2) : Int) := of_decide_eq_true (by first | (with_reducible assumption) | assumption)
                  have q321 : (rd y315 x27_2) < (l0_1.length : Int) := of_decide_eq_true (by first | (with_reducible assumption) | assumption)
                  obtain ⟨ad321, e321, hx321_0⟩ := Kd.at_bool HR0_1.out (rd y315 x27_2) p321 q321
                  (try rw [← Nbq22.out] at hx321_0)
                  obtain rfl : ad320 = ad321 := (by injection e321)
                  (try replace hx321_0 := (HB.out.cell (World.block_lt_of_cell? w _ hx321_0)).trans hx321_0)
                  replace p321 := eq_true p321
                  replace q321 := eq_true q321
                  go_wp2
                  go_meet
                  case rel => exact ⟨_, (!(rdOf false l0_1 (rd y315 x27_2))), (by first | rfl | (simp; done) | (simp [*]; done)), H', ⟨by have := HK1.out; have := HK2.out; first | omega | exact Nat.le_refl _⟩, ⟨zr HO_6.out⟩, ⟨zr HO_16.out⟩, ⟨zb BK309.out⟩, ⟨zb BK310.out⟩, ⟨by repeat (first | (with_reducible exact HR318.out) | (with_reducible refine Kd.C_alloc ?_ _) | (with_reducible refine Kd.C_drewN ?_ _) | (with_reducible refine Kd.C_drew ?_) | exact HR318.out)⟩, ⟨zh HB.out⟩⟩
                 ·rw [if_neg c25] at H
                  exact absurd H (by simp)
                ·rw [if_neg c24] at H
                 exact absurd H (by simp)
               ·replace c23 := Bool.eq_false_iff.mpr c23
                subst c23
                have H1 : (impl_votes_firstOfTwo.j2 a1 k2 t311 (rd t311 x18_1) (rd y315 x27_2) t311 (t311.length : Int) x18_1 y315 (y315.length : Int) x27_2 true a0_0 l0_1) = some (r1, r2, r3) := by rw [if_neg (show ¬ (false = true) by decide)] at H; exact H
                clear H
                have H := H1
                clear H1
                have H' := Aside0.mk H
                clear H
                have hnb28 := NB309_310.out
                have hnc28 := NB310_309.out
                have hcz29_0 : wr.cell? ⟨gb309, 0, none⟩ = some (.int .i64 a0_0) := (blk_cell BK309.out 0).trans rfl
                have hcz29_1 : wr.cell? ⟨gb309, 1, none⟩ = some (.slice A0_1 l0_1.length c0_1) := (blk_cell BK309.out 1).trans rfl
                have hfz29_0 := blk_frozen BK309.out 0
                have hfz29_1 := blk_frozen BK309.out 1
                have p320 : 0 ≤ ((rd t311 x18_1) : Int) := of_decide_eq_true (by first | (with_reducible assumption) | assumption)
                have q320 : (rd t311 x18_1) < (l0_1.length : Int) := of_decide_eq_true (by first | (with_reducible assumption) | assumption)
                obtain ⟨ad320, e320, hx320_0⟩ := Kd.at_bool HR0_1.out (rd t311 x18_1) p320 q320
                (try rw [← Nbq22.out] at hx320_0)
                cases e320
                (try replace hx320_0 := (HB.out.cell (World.block_lt_of_cell? w _ hx320_0)).trans hx320_0)
                replace p320 := eq_true p320
                replace q320 := eq_true q320
                go_wp2
                go_meet
                case rel => exact ⟨_, (true), (by first | rfl | (simp; done) | (simp [*]; done)), H', ⟨by have := HK1.out; have := HK2.out; first | omega | exact Nat.le_refl _⟩, ⟨zr HO_6.out⟩, ⟨zr HO_16.out⟩, ⟨zb BK309.out⟩, ⟨zb BK310.out⟩, ⟨by repeat (first | (with_reducible exact HR318.out) | (with_reducible refine Kd.C_alloc ?_ _) | (with_reducible refine Kd.C_drewN ?_ _) | (with_reducible refine Kd.C_drew ?_) | exact HR318.out)⟩, ⟨zh HB.out⟩⟩
              ·rw [if_neg c21] at H
               exact absurd H (by simp)
             ·rw [if_neg c20] at H
              exact absurd H (by simp)
            case rest =>
             clear HC19
             try clear c1
             try clear q1
             try clear c2
             try clear p2
             try clear q2
             try clear p3
             try clear q3
             try clear hx3
             try clear c6
             try clear c7
             try clear c9
             try clear c10
             try clear c10b0
             try clear c11
             try clear c11b0
             try clear c12
             try clear c12b0
             try clear c13
             try clear c13b0
             try clear c14
             try clear c14b0
             try clear c14b1
             try clear c15
             try clear q15
             try clear c16
             try clear c16b0
             try clear c17
             try clear c17b0
             try clear c18
             try clear c18b0
             try clear c20
             try clear c20b0
             try clear c21
             try clear c21b0
             try clear q22
             try clear c23
             try clear c24
             try clear c24b0
             try clear c25
             try clear c25b0
             try clear c26
             try clear c28
             try clear hcz27_0
             try clear hcz27_1
             try clear hcz29_0
             try clear hcz29_1
             try clear hcz7_0
             try clear hcz7_1
             try clear hfz27_0
             try clear hfz27_1
             try clear hfz29_0
             try clear hfz29_1
             try clear hfz7_0
             try clear hfz7_1
             try clear hx314_0
             try clear hx319_0
             try clear hx320_0
             try clear hx321_0
             try clear p2
             try clear p3
             try clear p314
             try clear p319
             try clear p320
             try clear p321
             try clear q015
             try clear q1
             try clear q15
             try clear q3
             try clear q314
             try clear q319
             try clear q320
             try clear q321
             obtain ⟨kq, x44_18, rfl, HA, HJ18, HO_6, HO_16, BK309, BK310, HR318, HB⟩ := hcut
             cases kq with
             | zero => exact absurd HA.out (by simp [impl_votes_firstOfTwo.j2])
             | succ kj18 =>
              have H := HA.out
              clear HA
              simp only [impl_votes_firstOfTwo.j2] at H
              by_cases c30 : x44_18 = true
              ·subst c30
               have H1 : (impl_votes_firstOfTwo.l1 a1 kj18 t311 (rd t311 x18_1) t311 (t311.length : Int) x18_1 y315 (y315.length : Int) (wrap64 (x27_2 + 1)) a0_0 l0_1) = some (r1, r2, r3) := by rw [if_pos rfl] at H; exact H
               clear H
               have H := H1
               clear H1
               have H' := Aside0.mk H
               clear H
               go_wp2
               go_roundg kj18
               case measure => have := HK1.out; have := HK2.out; have := HJ18.out; omega
               case rel => exact ⟨(wrap64 (x27_2 + 1)), (by first | rfl | (simp; done) | (simp [*]; done)), H', ⟨by have := HK1.out; have := HK2.out; have := HJ18.out; omega⟩, ⟨zr HO_6.out⟩, ⟨zr HO_16.out⟩, ⟨zb BK309.out⟩, ⟨zb BK310.out⟩, ⟨by repeat (first | (with_reducible exact HR318.out) | (with_reducible refine Kd.C_alloc ?_ _) | (with_reducible refine Kd.C_drewN ?_ _) | (with_reducible refine Kd.C_drew ?_) | exact HR318.out)⟩, ⟨zh HB.out⟩⟩
              ·replace c30 := Bool.eq_false_iff.mpr c30
               subst c30
               have H1 : (impl_votes_firstOfTwo.l2 a1 kj18 t311 (rd t311 x18_1) (rd y315 x27_2) t311 (t311.length : Int) x18_1 y315 (y315.length : Int) x27_2 t311 (t311.length : Int) 0 a0_0 l0_1) = some (r1, r2, r3) := by rw [if_neg (show ¬ (false = true) by decide)] at H; exact H
               clear H
               have H := H1
               clear H1
               have H' := Aside0.mk H
               clear H
               go_wp2
               go_loopg [47] kj18 (fun kq v47 w' => ∃ (x47_4 : Int), v47 = .int .i64 x47_4 ∧ Aside0 (impl_votes_firstOfTwo.l2 a1 kq t311 (rd t311 x18_1) (rd y315 x27_2) t311 (t311.length : Int) x18_1 y315 (y315.length : Int) x27_2 t311 (t311.length : Int) x47_4 a0_0 l0_1 = some (r1, r2, r3)) ∧ Aside0 (kq ≤ kj18) ∧ Aside0 (Kd.R (Kd.int .i64) 3 w' w.heap.size (fun _ => True) (.slice (some ad314) t311.length co9) t311) ∧ Aside0 (Kd.R (Kd.int .i64) 3 w' w.heap.size (fun _ => True) (.slice (some ad314) t311.length co9) t311) ∧ Aside0 (Kd.R (Kd.int .i64) 3 w' w.heap.size (fun _ => True) (.slice (some ad314) t311.length co9) t311) ∧ Aside0 (w'.heap[gb309]? = some (.cells #[.int .i64 a0_0, (.slice A0_1 l0_1.length c0_1)] 53 (0, 0))) ∧ Aside0 (w'.heap[gb310]? = some (.cells #[(.slice none 0 0), (.slice none 0 0)] 75 (0, 0))) ∧ Aside0 (Kd.C (Kd.int .i64) w' (some ad319) y315.length y315) ∧ Aside0 (Below w.heap.size w w'))
               case atStart => exact ⟨(0), (by first | rfl | (simp; done) | (simp [*]; done)), H', ⟨Nat.le_refl _⟩, ⟨zr HO_6.out⟩, ⟨zr HO_16.out⟩, ⟨zr HO_6.out⟩, ⟨zb BK309.out⟩, ⟨zb BK310.out⟩, ⟨by repeat (first | (with_reducible exact HR318.out) | (with_reducible refine Kd.C_alloc ?_ _) | (with_reducible refine Kd.C_drewN ?_ _) | (with_reducible refine Kd.C_drew ?_) | exact HR318.out)⟩, ⟨zh HB.out⟩⟩
               case round =>
                clear H'
                try clear c1
                try clear q1
                try clear c2
                try clear p2
                try clear q2
                try clear c3
                try clear p3
                try clear q3
                try clear hx3
                try clear c6
                try clear p6
                try clear c7
                try clear c9
                try clear c10
                try clear c10b0
                try clear c11
                try clear c11b0
                try clear c12
                try clear c12b0
                try clear c13
                try clear c13b0
                try clear c14
                try clear c14b0
                try clear c14b1
                try clear c15
                try clear q15
                try clear c16
                try clear c16b0
                try clear c17
                try clear c17b0
                try clear c18
                try clear c18b0
                try clear c20
                try clear c20b0
                try clear c21
                try clear c21b0
                try clear q22
                try clear c23
                try clear c24
                try clear c24b0
                try clear c25
                try clear c25b0
                try clear c26
                try clear c28
                try clear c30
                try clear hcz27_0
                try clear hcz27_1
                try clear hcz29_0
                try clear hcz29_1
                try clear hcz7_0
                try clear hcz7_1
                try clear hfz27_0
                try clear hfz27_1
                try clear hfz29_0
                try clear hfz29_1
                try clear hfz7_0
                try clear hfz7_1
                try clear hx314_0
                try clear hx319_0
                try clear hx320_0
                try clear hx321_0
                try clear p2
                try clear p3
                try clear p314
                try clear p319
                try clear p320
                try clear p321
                try clear q015
                try clear q1
                try clear q15
                try clear q2
                try clear q22
                try clear q3
                try clear q314
                try clear q319
                try clear q320
                try clear q321
                obtain ⟨x47_4, rfl, HA, HK4, HO_6, HO_16, HO_45, BK309, BK310, HR318, HB⟩ := hrel
                cases gk with
                | zero => exact absurd HA.out (by simp [impl_votes_firstOfTwo.l2])
                | succ k4 =>
                 have H := HA.out
                 clear HA
                 simp only [impl_votes_firstOfTwo.l2] at H
                 by_cases c31 : x47_4 < (t311.length : Int)
                 ·rw [if_pos c31] at H
                  have c31b0 : decide (x47_4 < (t311.length : Int)) = true := decide_eq_true c31
                  clear c31
                  by_cases c32 : 0 ≤ x47_4
                  ·rw [if_pos c32] at H
                   have c32b0 : decide (0 ≤ x47_4) = true := decide_eq_true c32
                   clear c32
                   by_cases c33 : x47_4 < (t311.length : Int)
                   ·rw [if_pos c33] at H
                    have c33b0 : decide (x47_4 < (t311.length : Int)) = true := decide_eq_true c33
                    clear c33
                    have HC34 := Aside0.mk H
                    clear H
                    have p322 : 0 ≤ (x47_4 : Int) := of_decide_eq_true (by first | (with_reducible assumption) | assumption)
                    have q322 : x47_4 < (t311.length : Int) := of_decide_eq_true (by first | (with_reducible assumption) | assumption)
                    obtain ⟨ad322, e322, hx322_0⟩ := Kd.at_int (Kd.R_reads' HO_45.out).2.2 x47_4 p322 q322
                    obtain rfl : ad314 = ad322 := (by injection e322)
                    replace p322 := eq_true p322
                    replace q322 := eq_true q322
                    go_upto_region 12 with (fail)
                    go_cut [75] (fun v75 wc => ∃ (kq : Nat) (x75_33 : Bool), v75 = .bool x75_33 ∧ Aside0 (impl_votes_firstOfTwo.j4 a1 kq t311 (rd t311 x18_1) (rd y315 x27_2) x47_4 (rd t311 x47_4) t311 (t311.length : Int) x18_1 y315 (y315.length : Int) x27_2 t311 (t311.length : Int) x47_4 x75_33 a0_0 l0_1 = some (r1, r2, r3)) ∧ Aside0 (kq ≤ k4) ∧ Aside0 (Kd.R (Kd.int .i64) 3 wc w.heap.size (fun _ => True) (.slice (some ad314) t311.length co9) t311) ∧ Aside0 (Kd.R (Kd.int .i64) 3 wc w.heap.size (fun _ => True) (.slice (some ad314) t311.length co9) t311) ∧ Aside0 (Kd.R (Kd.int .i64) 3 wc w.heap.size (fun _ => True) (.slice (some ad314) t311.length co9) t311) ∧ Aside0 (wc.heap[gb309]? = some (.cells #[.int .i64 a0_0, (.slice A0_1 l0_1.length c0_1)] 53 (0, 0))) ∧ Aside0 (wc.heap[gb310]? = some (.cells #[(.slice none 0 0), (.slice none 0 0)] 75 (0, 0))) ∧ Aside0 (Kd.C (Kd.int .i64) wc (some ad319) y315.length y315) ∧ Aside0 (Below w.heap.size w wc))
                    case first =>
                     have H := HC34.out
                     clear HC34
                     by_cases c35 : 0 ≤ (rd t311 x47_4)
                     ·rw [if_pos c35] at H
                      have c35b0 : decide (0 ≤ (rd t311 x47_4)) = true := decide_eq_true c35
                      clear c35
                      (first | rw [c35b0] | (simp only [i64_w, i32_w]; rw [c35b0]) | skip)
                      by_cases c36 : (rd t311 x47_4) < (l0_1.length : Int)
                      ·rw [if_pos c36] at H
                       have c36b0 : decide ((rd t311 x47_4) < (l0_1.length : Int)) = true := decide_eq_true c36
                       clear c36
                       obtain ⟨bq37, hbq37⟩ : ∃ b_ : Bool, b_ = (rdOf false l0_1 (rd t311 x47_4)) := ⟨_, rfl⟩
                       replace H : (if bq37 = true then (impl_votes_firstOfTwo.j4 a1 k4 t311 (rd t311 x18_1) (rd y315 x27_2) x47_4 (rd t311 x47_4) t311 (t311.length : Int) x18_1 y315 (y315.length : Int) x27_2 t311 (t311.length : Int) x47_4 true a0_0 l0_1) else (if (Go.bits .and .i64 (rd t311 x47_4) (Go.bits .and .i64 (rd t311 x18_1) (rd y315 x27_2))) = (Go.bits .and .i64 (rd t311 x18_1) (rd y315 x27_2)) then (impl_votes_firstOfTwo.j4 a1 k4 t311 (rd t311 x18_1) (rd y315 x27_2) x47_4 (rd t311 x47_4) t311 (t311.length : Int) x18_1 y315 (y315.length : Int) x27_2 t311 (t311.length : Int) x47_4 ((Go.bits .andNot .i64 (rd t311 x47_4) (Go.bits .or .i64 (rd t311 x18_1) (rd y315 x27_2))) != 0) a0_0 l0_1) else (impl_votes_firstOfTwo.j4 a1 k4 t311 (rd t311 x18_1) (rd y315 x27_2) x47_4 (rd t311 x47_4) t311 (t311.length : Int) x18_1 y315 (y315.length : Int) x27_2 t311 (t311.length : Int) x47_4 true a0_0 l0_1))) = some (r1, r2, r3) := by rw [← hbq37] at H; exact H
                       have Nbq37 := Aside0.mk hbq37
                       clear hbq37
                       by_cases c38 : bq37 = true
                       ·subst c38
                        have H1 : (impl_votes_firstOfTwo.j4 a1 k4 t311 (rd t311 x18_1) (rd y315 x27_2) x47_4 (rd t311 x47_4) t311 (t311.length : Int) x18_1 y315 (y315.length : Int) x27_2 t311 (t311.length : Int) x47_4 true a0_0 l0_1) = some (r1, r2, r3) := by rw [if_pos rfl] at H; exact H
                        clear H
                        have H := H1
                        clear H1
                        have H' := Aside0.mk H
                        clear H
                        have hnb39 := NB309_310.out
                        have hnc39 := NB310_309.out
                        have hcz40_0 : wr.cell? ⟨gb309, 0, none⟩ = some (.int .i64 a0_0) := (blk_cell BK309.out 0).trans rfl
                        have hcz40_1 : wr.cell? ⟨gb309, 1, none⟩ = some (.slice A0_1 l0_1.length c0_1) := (blk_cell BK309.out 1).trans rfl
                        have hfz40_0 := blk_frozen BK309.out 0
                        have hfz40_1 := blk_frozen BK309.out 1
                        have p323 : 0 ≤ ((rd t311 x47_4) : Int) := of_decide_eq_true (by first | (with_reducible assumption) | assumption)
                        have q323 : (rd t311 x47_4) < (l0_1.length : Int) := of_decide_eq_true (by first | (with_reducible assumption) | assumption)
                        obtain ⟨ad323, e323, hx323_0⟩ := Kd.at_bool HR0_1.out (rd t311 x47_4) p323 q323
                        (try rw [← Nbq37.out] at hx323_0)
                        cases e323
                        (try replace hx323_0 := (HB.out.cell (World.block_lt_of_cell? w _ hx323_0)).trans hx323_0)
                        replace p323 := eq_true p323
                        replace q323 := eq_true q323
                        go_wp2
                        go_meet
                        case rel => exact ⟨_, (true), (by first | rfl | (simp; done) | (simp [*]; done)), H', ⟨by have := HK1.out; have := HK2.out; have := HJ18.out; have := HK4.out; first | omega | exact Nat.le_refl _⟩, ⟨zr HO_6.out⟩, ⟨zr HO_16.out⟩, ⟨zr HO_45.out⟩, ⟨zb BK309.out⟩, ⟨zb BK310.out⟩, ⟨by repeat (first | (with_reducible exact HR318.out) | (with_reducible refine Kd.C_alloc ?_ _) | (with_reducible refine Kd.C_drewN ?_ _) | (with_reducible refine Kd.C_drew ?_) | exact HR318.out)⟩, ⟨zh HB.out⟩⟩
                       ·replace c38 := Bool.eq_false_iff.mpr c38
                        subst c38
                        have H1 : (if (Go.bits .and .i64 (rd t311 x47_4) (Go.bits .and .i64 (rd t311 x18_1) (rd y315 x27_2))) = (Go.bits .and .i64 (rd t311 x18_1) (rd y315 x27_2)) then (impl_votes_firstOfTwo.j4 a1 k4 t311 (rd t311 x18_1) (rd y315 x27_2) x47_4 (rd t311 x47_4) t311 (t311.length : Int) x18_1 y315 (y315.length : Int) x27_2 t311 (t311.length : Int) x47_4 ((Go.bits .andNot .i64 (rd t311 x47_4) (Go.bits .or .i64 (rd t311 x18_1) (rd y315 x27_2))) != 0) a0_0 l0_1) else (impl_votes_firstOfTwo.j4 a1 k4 t311 (rd t311 x18_1) (rd y315 x27_2) x47_4 (rd t311 x47_4) t311 (t311.length : Int) x18_1 y315 (y315.length : Int) x27_2 t311 (t311.length : Int) x47_4 true a0_0 l0_1)) = some (r1, r2, r3) := by rw [if_neg (show ¬ (false = true) by decide)] at H; exact H
                        clear H
                        have H := H1
                        clear H1
                        by_cases c41 : (Go.bits .and .i64 (rd t311 x47_4) (Go.bits .and .i64 (rd t311 x18_1) (rd y315 x27_2))) = (Go.bits .and .i64 (rd t311 x18_1) (rd y315 x27_2))
                        ·rw [if_pos c41] at H
                         have c41b0 : ((Go.bits .and .i64 (rd t311 x47_4) (Go.bits .and .i64 (rd t311 x18_1) (rd y315 x27_2))) == (Go.bits .and .i64 (rd t311 x18_1) (rd y315 x27_2))) = true := beq_iff_eq.mpr c41
                         have c41b1 : ((Go.bits .and .i64 (rd t311 x47_4) (Go.bits .and .i64 (rd t311 x18_1) (rd y315 x27_2))) != (Go.bits .and .i64 (rd t311 x18_1) (rd y315 x27_2))) = false := bne_eq_false_iff_eq.mpr c41
                         clear c41
                         have H' := Aside0.mk H
                         clear H
                         have hnb42 := NB309_310.out
                         have hnc42 := NB310_309.out
                         have hcz43_0 : wr.cell? ⟨gb309, 0, none⟩ = some (.int .i64 a0_0) := (blk_cell BK309.out 0).trans rfl
                         have hcz43_1 : wr.cell? ⟨gb309, 1, none⟩ = some (.slice _ l0_1.length c0_1) := (blk_cell BK309.out 1).trans rfl
                         have hfz43_0 := blk_frozen BK309.out 0
                         have hfz43_1 := blk_frozen BK309.out 1
                         have p323 : 0 ≤ ((rd t311 x47_4) : Int) := of_decide_eq_true (by first | (with_reducible assumption) | assumption)
                         have q323 : (rd t311 x47_4) < (l0_1.length : Int) := of_decide_eq_true (by first | (with_reducible assumption) | assumption)
                         obtain ⟨ad323, e323, hx323_0⟩ := Kd.at_bool HR0_1.out (rd t311 x47_4) p323 q323
                         (try rw [← Nbq37.out] at hx323_0)
                         cases e323
                         (try replace hx323_0 := (HB.out.cell (World.block_lt_of_cell? w _ hx323_0)).trans hx323_0)
                         replace p323 := eq_true p323
                         replace q323 := eq_true q323
                         go_wp2
                         go_meet
                         case rel => exact ⟨_, (((Go.bits .andNot .i64 (rd t311 x47_4) (Go.bits .or .i64 (rd t311 x18_1) (rd y315 x27_2))) != 0)), (by first | rfl | (simp; done) | (simp [*]; done)), H', ⟨by have := HK1.out; have := HK2.out; have := HJ18.out; have := HK4.out; first | omega | exact Nat.le_refl _⟩, ⟨zr HO_6.out⟩, ⟨zr HO_16.out⟩, ⟨zr HO_45.out⟩, ⟨zb BK309.out⟩, ⟨zb BK310.out⟩, ⟨by repeat (first | (with_reducible exact HR318.out) | (with_reducible refine Kd.C_alloc ?_ _) | (with_reducible refine Kd.C_drewN ?_ _) | (with_reducible refine Kd.C_drew ?_) | exact HR318.out)⟩, ⟨zh HB.out⟩⟩
                        ·rw [if_neg c41] at H
                         have c41b0 : ((Go.bits .and .i64 (rd t311 x47_4) (Go.bits .and .i64 (rd t311 x18_1) (rd y315 x27_2))) == (Go.bits .and .i64 (rd t311 x18_1) (rd y315 x27_2))) = false := beq_eq_false_iff_ne.mpr c41
                         have c41b1 : ((Go.bits .and .i64 (rd t311 x47_4) (Go.bits .and .i64 (rd t311 x18_1) (rd y315 x27_2))) != (Go.bits .and .i64 (rd t311 x18_1) (rd y315 x27_2))) = true := bne_iff_ne.mpr c41
                         have H' := Aside0.mk H
                         clear H
                         have hnb44 := NB309_310.out
                         have hnc44 := NB310_309.out
                         have hcz45_0 : wr.cell? ⟨gb309, 0, none⟩ = some (.int .i64 a0_0) := (blk_cell BK309.out 0).trans rfl
                         have hcz45_1 : wr.cell? ⟨gb309, 1, none⟩ = some (.slice _ l0_1.length c0_1) := (blk_cell BK309.out 1).trans rfl
                         have hfz45_0 := blk_frozen BK309.out 0
                         have hfz45_1 := blk_frozen BK309.out 1
                         have p323 : 0 ≤ ((rd t311 x47_4) : Int) := of_decide_eq_true (by first | (with_reducible assumption) | assumption)
                         have q323 : (rd t311 x47_4) < (l0_1.length : Int) := of_decide_eq_true (by first | (with_reducible assumption) | assumption)
                         obtain ⟨ad323, e323, hx323_0⟩ := Kd.at_bool HR0_1.out (rd t311 x47_4) p323 q323
                         (try rw [← Nbq37.out] at hx323_0)
                         cases e323
                         (try replace hx323_0 := (HB.out.cell (World.block_lt_of_cell? w _ hx323_0)).trans hx323_0)
                         replace p323 := eq_true p323
                         replace q323 := eq_true q323
                         go_wp2
                         go_meet
                         case rel => exact ⟨_, (true), (by first | rfl | (simp; done) | (simp [*]; done)), H', ⟨by have := HK1.out; have := HK2.out; have := HJ18.out; have := HK4.out; first | omega | exact Nat.le_refl _⟩, ⟨zr HO_6.out⟩, ⟨zr HO_16.out⟩, ⟨zr HO_45.out⟩, ⟨zb BK309.out⟩, ⟨zb BK310.out⟩, ⟨by repeat (first | (with_reducible exact HR318.out) | (with_reducible refine Kd.C_alloc ?_ _) | (with_reducible refine Kd.C_drewN ?_ _) | (with_reducible refine Kd.C_drew ?_) | exact HR318.out)⟩, ⟨zh HB.out⟩⟩
                      ·rw [if_neg c36] at H
                       exact absurd H (by simp)
                     ·rw [if_neg c35] at H
                      exact absurd H (by simp)
                    case rest =>
                     clear HC34
                     try clear c1
                     try clear q1
                     try clear c2
                     try clear p2
                     try clear q2
                     try clear c3
                     try clear p3
                     try clear q3
                     try clear hx3
                     try clear c4
                     try clear c6
                     try clear p6
                     try clear c7
                     try clear c9
                     try clear c10
                     try clear c10b0
                     try clear c11
                     try clear c11b0
                     try clear c12
                     try clear c12b0
                     try clear c13
                     try clear c13b0
                     try clear c14
                     try clear c14b0
                     try clear c14b1
                     try clear c15
                     try clear q15
                     try clear c16
                     try clear c16b0
                     try clear c17
                     try clear c17b0
                     try clear c18
                     try clear c18b0
                     try clear c20
                     try clear c20b0
                     try clear c21
                     try clear c21b0
                     try clear q22
                     try clear c23
                     try clear c24
                     try clear c24b0
                     try clear c25
                     try clear c25b0
                     try clear c26
                     try clear c28
                     try clear c30
                     try clear c31
                     try clear c31b0
                     try clear p31
                     try clear q31
                     try clear hx31
                     try clear c32
                     try clear c32b0
                     try clear p32
                     try clear q32
                     try clear hx32
                     try clear c33
                     try clear c33b0
                     try clear c35
                     try clear c35b0
                     try clear c36
                     try clear c36b0
                     try clear q37
                     try clear c38
                     try clear c39
                     try clear c41
                     try clear c41b0
                     try clear c41b1
                     try clear c42
                     try clear c44
                     try clear hcz27_0
                     try clear hcz27_1
                     try clear hcz29_0
                     try clear hcz29_1
                     try clear hcz40_0
                     try clear hcz40_1
                     try clear hcz43_0
                     try clear hcz43_1
                     try clear hcz45_0
                     try clear hcz45_1
                     try clear hcz7_0
                     try clear hcz7_1
                     try clear hfz27_0
                     try clear hfz27_1
                     try clear hfz29_0
                     try clear hfz29_1
                     try clear hfz40_0
                     try clear hfz40_1
                     try clear hfz43_0
                     try clear hfz43_1
                     try clear hfz45_0
                     try clear hfz45_1
                     try clear hfz7_0
                     try clear hfz7_1
                     try clear hx314_0
                     try clear hx319_0
                     try clear hx320_0
                     try clear hx321_0
                     try clear hx322_0
                     try clear hx323_0
                     try clear p2
                     try clear p3
                     try clear p314
                     try clear p319
                     try clear p320
                     try clear p321
                     try clear p322
                     try clear p323
                     try clear p6
                     try clear q015
                     try clear q1
                     try clear q15
                     try clear q2
                     try clear q22
                     try clear q3
                     try clear q314
                     try clear q319
                     try clear q320
                     try clear q321
                     try clear q322
                     try clear q323
                     obtain ⟨kq, x75_33, rfl, HA, HJ33, HO_6, HO_16, HO_45, BK309, BK310, HR318, HB⟩ := hcut
                     cases kq with
                     | zero => exact absurd HA.out (by simp [impl_votes_firstOfTwo.j4])
                     | succ kj33 =>
                      have H := HA.out
                      clear HA
                      simp only [impl_votes_firstOfTwo.j4] at H
                      by_cases c46 : x75_33 = true
                      ·subst c46
                       have H1 : (impl_votes_firstOfTwo.l2 a1 kj33 t311 (rd t311 x18_1) (rd y315 x27_2) t311 (t311.length : Int) x18_1 y315 (y315.length : Int) x27_2 t311 (t311.length : Int) (wrap64 (x47_4 + 1)) a0_0 l0_1) = some (r1, r2, r3) := by rw [if_pos rfl] at H; exact H
                       clear H
                       have H := H1
                       clear H1
                       have H' := Aside0.mk H
                       clear H
                       go_wp2
                       go_roundg kj33
                       case measure => have := HK1.out; have := HK2.out; have := HJ18.out; have := HK4.out; have := HJ33.out; omega
                       case rel => exact ⟨(wrap64 (x47_4 + 1)), (by first | rfl | (simp; done) | (simp [*]; done)), H', ⟨by have := HK1.out; have := HK2.out; have := HJ18.out; have := HK4.out; have := HJ33.out; omega⟩, ⟨zr HO_6.out⟩, ⟨zr HO_16.out⟩, ⟨zr HO_45.out⟩, ⟨zb BK309.out⟩, ⟨zb BK310.out⟩, ⟨by repeat (first | (with_reducible exact HR318.out) | (with_reducible refine Kd.C_alloc ?_ _) | (with_reducible refine Kd.C_drewN ?_ _) | (with_reducible refine Kd.C_drew ?_) | exact HR318.out)⟩, ⟨zh HB.out⟩⟩
                      ·replace c46 := Bool.eq_false_iff.mpr c46
                       subst c46
                       have H1 : (if 0 ≤ (Go.bits .or .i64 (Go.bits .and .i64 (rd t311 x18_1) (rd y315 x27_2)) (Go.bits .andNot .i64 (Go.bits .or .i64 (rd t311 x18_1) (rd y315 x27_2)) (rd t311 x47_4))) then (if (Go.bits .or .i64 (Go.bits .and .i64 (rd t311 x18_1) (rd y315 x27_2)) (Go.bits .andNot .i64 (Go.bits .or .i64 (rd t311 x18_1) (rd y315 x27_2)) (rd t311 x47_4))) < (l0_1.length : Int) then (if (rdOf false l0_1 (Go.bits .or .i64 (Go.bits .and .i64 (rd t311 x18_1) (rd y315 x27_2)) (Go.bits .andNot .i64 (Go.bits .or .i64 (rd t311 x18_1) (rd y315 x27_2)) (rd t311 x47_4))) = true) then (impl_votes_firstOfTwo.l2 a1 kj33 t311 (rd t311 x18_1) (rd y315 x27_2) t311 (t311.length : Int) x18_1 y315 (y315.length : Int) x27_2 t311 (t311.length : Int) (wrap64 (x47_4 + 1)) a0_0 l0_1) else (if 0 ≤ x47_4 then (if x47_4 ≤ (t311.length : Int) then ((slices_Contains_int_int.f kj33 (t311.drop (x47_4 : Int).toNat) (Go.bits .or .i64 (Go.bits .and .i64 (rd t311 x18_1) (rd y315 x27_2)) (Go.bits .andNot .i64 (Go.bits .or .i64 (rd t311 x18_1) (rd y315 x27_2)) (rd t311 x47_4)))).bind fun t329 => (if t329 = true then ((a1 (rd t311 x18_1) (rd y315 x27_2) (rd t311 x47_4) (Go.bits .or .i64 (Go.bits .and .i64 (rd t311 x18_1) (rd y315 x27_2)) (Go.bits .andNot .i64 (Go.bits .or .i64 (rd t311 x18_1) (rd y315 x27_2)) (rd t311 x47_4)))).bind fun t330 => (if t330 = true then ((impl_pairs.f kj33 (([(rd t311 x18_1), (rd y315 x27_2)] : List Int)) (([(rd t311 x47_4), Go.bits .or .i64 (Go.bits .and .i64 (rd t311 x18_1) (rd y315 x27_2)) (Go.bits .andNot .i64 (Go.bits .or .i64 (rd t311 x18_1) (rd y315 x27_2)) (rd t311 x47_4))] : List Int))).bind fun bt337 => (some (bt337.1, bt337.2, true))) else (impl_votes_firstOfTwo.l2 a1 kj33 t311 (rd t311 x18_1) (rd y315 x27_2) t311 (t311.length : Int) x18_1 y315 (y315.length : Int) x27_2 t311 (t311.length : Int) (wrap64 (x47_4 + 1)) a0_0 l0_1))) else (impl_votes_firstOfTwo.l2 a1 kj33 t311 (rd t311 x18_1) (rd y315 x27_2) t311 (t311.length : Int) x18_1 y315 (y315.length : Int) x27_2 t311 (t311.length : Int) (wrap64 (x47_4 + 1)) a0_0 l0_1))) else (none)) else (none))) else (none)) else (none)) = some (r1, r2, r3) := by rw [if_neg (show ¬ (false = true) by decide)] at H; exact H
                       clear H
                       have H := H1
                       clear H1
                       by_cases c47 : 0 ≤ (Go.bits .or .i64 (Go.bits .and .i64 (rd t311 x18_1) (rd y315 x27_2)) (Go.bits .andNot .i64 (Go.bits .or .i64 (rd t311 x18_1) (rd y315 x27_2)) (rd t311 x47_4)))
                       ·rw [if_pos c47] at H
                        have c47b0 : decide (0 ≤ (Go.bits .or .i64 (Go.bits .and .i64 (rd t311 x18_1) (rd y315 x27_2)) (Go.bits .andNot .i64 (Go.bits .or .i64 (rd t311 x18_1) (rd y315 x27_2)) (rd t311 x47_4)))) = true := decide_eq_true c47
                        clear c47
                        by_cases c48 : (Go.bits .or .i64 (Go.bits .and .i64 (rd t311 x18_1) (rd y315 x27_2)) (Go.bits .andNot .i64 (Go.bits .or .i64 (rd t311 x18_1) (rd y315 x27_2)) (rd t311 x47_4))) < (l0_1.length : Int)
                        ·rw [if_pos c48] at H
                         have c48b0 : decide ((Go.bits .or .i64 (Go.bits .and .i64 (rd t311 x18_1) (rd y315 x27_2)) (Go.bits .andNot .i64 (Go.bits .or .i64 (rd t311 x18_1) (rd y315 x27_2)) (rd t311 x47_4))) < (l0_1.length : Int)) = true := decide_eq_true c48
                         clear c48
                         obtain ⟨bq49, hbq49⟩ : ∃ b_ : Bool, b_ = (rdOf false l0_1 (Go.bits .or .i64 (Go.bits .and .i64 (rd t311 x18_1) (rd y315 x27_2)) (Go.bits .andNot .i64 (Go.bits .or .i64 (rd t311 x18_1) (rd y315 x27_2)) (rd t311 x47_4)))) := ⟨_, rfl⟩
                         replace H : (if (bq49 = true) then (impl_votes_firstOfTwo.l2 a1 kj33 t311 (rd t311 x18_1) (rd y315 x27_2) t311 (t311.length : Int) x18_1 y315 (y315.length : Int) x27_2 t311 (t311.length : Int) (wrap64 (x47_4 + 1)) a0_0 l0_1) else (if 0 ≤ x47_4 then (if x47_4 ≤ (t311.length : Int) then ((slices_Contains_int_int.f kj33 (t311.drop (x47_4 : Int).toNat) (Go.bits .or .i64 (Go.bits .and .i64 (rd t311 x18_1) (rd y315 x27_2)) (Go.bits .andNot .i64 (Go.bits .or .i64 (rd t311 x18_1) (rd y315 x27_2)) (rd t311 x47_4)))).bind fun t329 => (if t329 = true then ((a1 (rd t311 x18_1) (rd y315 x27_2) (rd t311 x47_4) (Go.bits .or .i64 (Go.bits .and .i64 (rd t311 x18_1) (rd y315 x27_2)) (Go.bits .andNot .i64 (Go.bits .or .i64 (rd t311 x18_1) (rd y315 x27_2)) (rd t311 x47_4)))).bind fun t330 => (if t330 = true then ((impl_pairs.f kj33 (([(rd t311 x18_1), (rd y315 x27_2)] : List Int)) (([(rd t311 x47_4), Go.bits .or .i64 (Go.bits .and .i64 (rd t311 x18_1) (rd y315 x27_2)) (Go.bits .andNot .i64 (Go.bits .or .i64 (rd t311 x18_1) (rd y315 x27_2)) (rd t311 x47_4))] : List Int))).bind fun bt337 => (some (bt337.1, bt337.2, true))) else (impl_votes_firstOfTwo.l2 a1 kj33 t311 (rd t311 x18_1) (rd y315 x27_2) t311 (t311.length : Int) x18_1 y315 (y315.length : Int) x27_2 t311 (t311.length : Int) (wrap64 (x47_4 + 1)) a0_0 l0_1))) else (impl_votes_firstOfTwo.l2 a1 kj33 t311 (rd t311 x18_1) (rd y315 x27_2) t311 (t311.length : Int) x18_1 y315 (y315.length : Int) x27_2 t311 (t311.length : Int) (wrap64 (x47_4 + 1)) a0_0 l0_1))) else (none)) else (none))) = some (r1, r2, r3) := by rw [← hbq49] at H; exact H
                         have Nbq49 := Aside0.mk hbq49
                         clear hbq49
                         by_cases c50 : (bq49 = true)
                         ·subst c50
                          have H1 : (impl_votes_firstOfTwo.l2 a1 kj33 t311 (rd t311 x18_1) (rd y315 x27_2) t311 (t311.length : Int) x18_1 y315 (y315.length : Int) x27_2 t311 (t311.length : Int) (wrap64 (x47_4 + 1)) a0_0 l0_1) = some (r1, r2, r3) := by rw [if_pos rfl] at H; exact H
                          clear H
                          have H := H1
                          clear H1
                          have H' := Aside0.mk H
                          clear H
                          have hnb51 := NB309_310.out
                          have hnc51 := NB310_309.out
                          have hcz52_0 : wc.cell? ⟨gb309, 0, none⟩ = some (.int .i64 a0_0) := (blk_cell BK309.out 0).trans rfl
                          have hcz52_1 : wc.cell? ⟨gb309, 1, none⟩ = some (.slice A0_1 l0_1.length c0_1) := (blk_cell BK309.out 1).trans rfl
                          have hfz52_0 := blk_frozen BK309.out 0
                          have hfz52_1 := blk_frozen BK309.out 1
                          have p324 : 0 ≤ ((Go.bits .or .i64 (Go.bits .and .i64 (rd t311 x18_1) (rd y315 x27_2)) (Go.bits .andNot .i64 (Go.bits .or .i64 (rd t311 x18_1) (rd y315 x27_2)) (rd t311 x47_4))) : Int) := of_decide_eq_true (by first | (with_reducible assumption) | assumption)
                          have q324 : (Go.bits .or .i64 (Go.bits .and .i64 (rd t311 x18_1) (rd y315 x27_2)) (Go.bits .andNot .i64 (Go.bits .or .i64 (rd t311 x18_1) (rd y315 x27_2)) (rd t311 x47_4))) < (l0_1.length : Int) := of_decide_eq_true (by first | (with_reducible assumption) | assumption)
                          obtain ⟨ad324, e324, hx324_0⟩ := Kd.at_bool HR0_1.out (Go.bits .or .i64 (Go.bits .and .i64 (rd t311 x18_1) (rd y315 x27_2)) (Go.bits .andNot .i64 (Go.bits .or .i64 (rd t311 x18_1) (rd y315 x27_2)) (rd t311 x47_4))) p324 q324
                          (try rw [← Nbq49.out] at hx324_0)
                          cases e324
                          (try replace hx324_0 := (HB.out.cell (World.block_lt_of_cell? w _ hx324_0)).trans hx324_0)
                          replace p324 := eq_true p324
                          replace q324 := eq_true q324
                          go_wp2
                          go_roundg kj33
                          case measure => have := HK1.out; have := HK2.out; have := HJ18.out; have := HK4.out; have := HJ33.out; omega
                          case rel => exact ⟨(wrap64 (x47_4 + 1)), (by first | rfl | (simp; done) | (simp [*]; done)), H', ⟨by have := HK1.out; have := HK2.out; have := HJ18.out; have := HK4.out; have := HJ33.out; omega⟩, ⟨zr HO_6.out⟩, ⟨zr HO_16.out⟩, ⟨zr HO_45.out⟩, ⟨zb BK309.out⟩, ⟨zb BK310.out⟩, ⟨by repeat (first | (with_reducible exact HR318.out) | (with_reducible refine Kd.C_alloc ?_ _) | (with_reducible refine Kd.C_drewN ?_ _) | (with_reducible refine Kd.C_drew ?_) | exact HR318.out)⟩, ⟨zh HB.out⟩⟩
                         ·replace c50 := Bool.eq_false_iff.mpr c50
                          subst c50
                          have H1 : (if 0 ≤ x47_4 then (if x47_4 ≤ (t311.length : Int) then ((slices_Contains_int_int.f kj33 (t311.drop (x47_4 : Int).toNat) (Go.bits .or .i64 (Go.bits .and .i64 (rd t311 x18_1) (rd y315 x27_2)) (Go.bits .andNot .i64 (Go.bits .or .i64 (rd t311 x18_1) (rd y315 x27_2)) (rd t311 x47_4)))).bind fun t329 => (if t329 = true then ((a1 (rd t311 x18_1) (rd y315 x27_2) (rd t311 x47_4) (Go.bits .or .i64 (Go.bits .and .i64 (rd t311 x18_1) (rd y315 x27_2)) (Go.bits .andNot .i64 (Go.bits .or .i64 (rd t311 x18_1) (rd y315 x27_2)) (rd t311 x47_4)))).bind fun t330 => (if t330 = true then ((impl_pairs.f kj33 (([(rd t311 x18_1), (rd y315 x27_2)] : List Int)) (([(rd t311 x47_4), Go.bits .or .i64 (Go.bits .and .i64 (rd t311 x18_1) (rd y315 x27_2)) (Go.bits .andNot .i64 (Go.bits .or .i64 (rd t311 x18_1) (rd y315 x27_2)) (rd t311 x47_4))] : List Int))).bind fun bt337 => (some (bt337.1, bt337.2, true))) else (impl_votes_firstOfTwo.l2 a1 kj33 t311 (rd t311 x18_1) (rd y315 x27_2) t311 (t311.length : Int) x18_1 y315 (y315.length : Int) x27_2 t311 (t311.length : Int) (wrap64 (x47_4 + 1)) a0_0 l0_1))) else (impl_votes_firstOfTwo.l2 a1 kj33 t311 (rd t311 x18_1) (rd y315 x27_2) t311 (t311.length : Int) x18_1 y315 (y315.length : Int) x27_2 t311 (t311.length : Int) (wrap64 (x47_4 + 1)) a0_0 l0_1))) else (none)) else (none)) = some (r1, r2, r3) := by rw [if_neg (show ¬ (false = true) by decide)] at H; exact H
                          clear H
                          have H := H1
                          clear H1
                          by_cases c53 : 0 ≤ x47_4
                          ·rw [if_pos c53] at H
                           have c53b0 := eq_true c53
                           have c53b1 : decide (0 ≤ x47_4) = true := decide_eq_true c53
                           clear c53
                           by_cases c54 : x47_4 ≤ (t311.length : Int)
                           ·rw [if_pos c54] at H
                            have c54b0 := eq_true c54
                            have c54b1 : decide (x47_4 ≤ (t311.length : Int)) = true := decide_eq_true c54
                            clear c54
                            obtain ⟨y325, hy325⟩ : ∃ y_ : List Int, y_ = (t311.drop (x47_4 : Int).toNat) := ⟨_, rfl⟩
                            replace H : ((slices_Contains_int_int.f kj33 y325 (Go.bits .or .i64 (Go.bits .and .i64 (rd t311 x18_1) (rd y315 x27_2)) (Go.bits .andNot .i64 (Go.bits .or .i64 (rd t311 x18_1) (rd y315 x27_2)) (rd t311 x47_4)))).bind fun t329 => (if t329 = true then ((a1 (rd t311 x18_1) (rd y315 x27_2) (rd t311 x47_4) (Go.bits .or .i64 (Go.bits .and .i64 (rd t311 x18_1) (rd y315 x27_2)) (Go.bits .andNot .i64 (Go.bits .or .i64 (rd t311 x18_1) (rd y315 x27_2)) (rd t311 x47_4)))).bind fun t330 => (if t330 = true then ((impl_pairs.f kj33 (([(rd t311 x18_1), (rd y315 x27_2)] : List Int)) (([(rd t311 x47_4), Go.bits .or .i64 (Go.bits .and .i64 (rd t311 x18_1) (rd y315 x27_2)) (Go.bits .andNot .i64 (Go.bits .or .i64 (rd t311 x18_1) (rd y315 x27_2)) (rd t311 x47_4))] : List Int))).bind fun bt337 => (some (bt337.1, bt337.2, true))) else (impl_votes_firstOfTwo.l2 a1 kj33 t311 (rd t311 x18_1) (rd y315 x27_2) t311 (t311.length : Int) x18_1 y315 (y315.length : Int) x27_2 t311 (t311.length : Int) (wrap64 (x47_4 + 1)) a0_0 l0_1))) else (impl_votes_firstOfTwo.l2 a1 kj33 t311 (rd t311 x18_1) (rd y315 x27_2) t311 (t311.length : Int) x18_1 y315 (y315.length : Int) x27_2 t311 (t311.length : Int) (wrap64 (x47_4 + 1)) a0_0 l0_1))) = some (r1, r2, r3) := by first | (rw [hy325]; with_reducible exact H) | (have H2_ := (Option.bind_some _ _).symm.trans H; rw [hy325]; with_reducible exact H2_) | (have H2_ := (Option.bind_some _ _).symm.trans H; with_reducible exact H2_) | with_reducible exact H | (rw [hy325]; exact H) | exact H
                            have Ny325 := Aside0.mk hy325
                            clear hy325
                            replace H := Option.bind_eq_some_iff.mp H
                            obtain ⟨t329, A550, H⟩ := H
                            replace H : (if t329 = true then ((a1 (rd t311 x18_1) (rd y315 x27_2) (rd t311 x47_4) (Go.bits .or .i64 (Go.bits .and .i64 (rd t311 x18_1) (rd y315 x27_2)) (Go.bits .andNot .i64 (Go.bits .or .i64 (rd t311 x18_1) (rd y315 x27_2)) (rd t311 x47_4)))).bind fun t330 => (if t330 = true then ((impl_pairs.f kj33 (([(rd t311 x18_1), (rd y315 x27_2)] : List Int)) (([(rd t311 x47_4), Go.bits .or .i64 (Go.bits .and .i64 (rd t311 x18_1) (rd y315 x27_2)) (Go.bits .andNot .i64 (Go.bits .or .i64 (rd t311 x18_1) (rd y315 x27_2)) (rd t311 x47_4))] : List Int))).bind fun bt337 => (some (bt337.1, bt337.2, true))) else (impl_votes_firstOfTwo.l2 a1 kj33 t311 (rd t311 x18_1) (rd y315 x27_2) t311 (t311.length : Int) x18_1 y315 (y315.length : Int) x27_2 t311 (t311.length : Int) (wrap64 (x47_4 + 1)) a0_0 l0_1))) else (impl_votes_firstOfTwo.l2 a1 kj33 t311 (rd t311 x18_1) (rd y315 x27_2) t311 (t311.length : Int) x18_1 y315 (y315.length : Int) x27_2 t311 (t311.length : Int) (wrap64 (x47_4 + 1)) a0_0 l0_1)) = some (r1, r2, r3) := H
                            have A55 := Aside0.mk A550
                            clear A550
                            by_cases c56 : t329 = true
                            ·subst c56
                             have H1 : ((a1 (rd t311 x18_1) (rd y315 x27_2) (rd t311 x47_4) (Go.bits .or .i64 (Go.bits .and .i64 (rd t311 x18_1) (rd y315 x27_2)) (Go.bits .andNot .i64 (Go.bits .or .i64 (rd t311 x18_1) (rd y315 x27_2)) (rd t311 x47_4)))).bind fun t330 => (if t330 = true then ((impl_pairs.f kj33 (([(rd t311 x18_1), (rd y315 x27_2)] : List Int)) (([(rd t311 x47_4), Go.bits .or .i64 (Go.bits .and .i64 (rd t311 x18_1) (rd y315 x27_2)) (Go.bits .andNot .i64 (Go.bits .or .i64 (rd t311 x18_1) (rd y315 x27_2)) (rd t311 x47_4))] : List Int))).bind fun bt337 => (some (bt337.1, bt337.2, true))) else (impl_votes_firstOfTwo.l2 a1 kj33 t311 (rd t311 x18_1) (rd y315 x27_2) t311 (t311.length : Int) x18_1 y315 (y315.length : Int) x27_2 t311 (t311.length : Int) (wrap64 (x47_4 + 1)) a0_0 l0_1))) = some (r1, r2, r3) := by rw [if_pos rfl] at H; exact H
                             clear H
                             have H := H1
                             clear H1
                             replace H := Option.bind_eq_some_iff.mp H
                             obtain ⟨t330, A570, H⟩ := H
                             replace H : (if t330 = true then ((impl_pairs.f kj33 (([(rd t311 x18_1), (rd y315 x27_2)] : List Int)) (([(rd t311 x47_4), Go.bits .or .i64 (Go.bits .and .i64 (rd t311 x18_1) (rd y315 x27_2)) (Go.bits .andNot .i64 (Go.bits .or .i64 (rd t311 x18_1) (rd y315 x27_2)) (rd t311 x47_4))] : List Int))).bind fun bt337 => (some (bt337.1, bt337.2, true))) else (impl_votes_firstOfTwo.l2 a1 kj33 t311 (rd t311 x18_1) (rd y315 x27_2) t311 (t311.length : Int) x18_1 y315 (y315.length : Int) x27_2 t311 (t311.length : Int) (wrap64 (x47_4 + 1)) a0_0 l0_1)) = some (r1, r2, r3) := H
                             have A57 := Aside0.mk A570
                             clear A570
                             by_cases c58 : t330 = true
                             ·subst c58
                              have H1 : ((impl_pairs.f kj33 (([(rd t311 x18_1), (rd y315 x27_2)] : List Int)) (([(rd t311 x47_4), Go.bits .or .i64 (Go.bits .and .i64 (rd t311 x18_1) (rd y315 x27_2)) (Go.bits .andNot .i64 (Go.bits .or .i64 (rd t311 x18_1) (rd y315 x27_2)) (rd t311 x47_4))] : List Int))).bind fun bt337 => (some (bt337.1, bt337.2, true))) = some (r1, r2, r3) := by rw [if_pos rfl] at H; exact H
                              clear H
                              have H := H1
                              clear H1
                              obtain ⟨y331, hy331⟩ : ∃ y_ : List Int, y_ = (([(rd t311 x18_1), (rd y315 x27_2)] : List Int)) := ⟨_, rfl⟩
                              replace H : ((impl_pairs.f kj33 y331 (([(rd t311 x47_4), Go.bits .or .i64 (Go.bits .and .i64 (rd t311 x18_1) (rd y315 x27_2)) (Go.bits .andNot .i64 (Go.bits .or .i64 (rd t311 x18_1) (rd y315 x27_2)) (rd t311 x47_4))] : List Int))).bind fun bt337 => (some (bt337.1, bt337.2, true))) = some (r1, r2, r3) := by first | (rw [hy331]; with_reducible exact H) | (have H2_ := (Option.bind_some _ _).symm.trans H; rw [hy331]; with_reducible exact H2_) | (have H2_ := (Option.bind_some _ _).symm.trans H; with_reducible exact H2_) | with_reducible exact H | (rw [hy331]; exact H) | exact H
                              have Ny331 := Aside0.mk hy331
                              clear hy331
                              obtain ⟨y334, hy334⟩ : ∃ y_ : List Int, y_ = (([(rd t311 x47_4), Go.bits .or .i64 (Go.bits .and .i64 (rd t311 x18_1) (rd y315 x27_2)) (Go.bits .andNot .i64 (Go.bits .or .i64 (rd t311 x18_1) (rd y315 x27_2)) (rd t311 x47_4))] : List Int)) := ⟨_, rfl⟩
                              replace H : ((impl_pairs.f kj33 y331 y334).bind fun bt337 => (some (bt337.1, bt337.2, true))) = some (r1, r2, r3) := by first | (rw [hy334]; with_reducible exact H) | (have H2_ := (Option.bind_some _ _).symm.trans H; rw [hy334]; with_reducible exact H2_) | (have H2_ := (Option.bind_some _ _).symm.trans H; with_reducible exact H2_) | with_reducible exact H | (rw [hy334]; exact H) | exact H
                              have Ny334 := Aside0.mk hy334
                              clear hy334
                              replace H := Option.bind_eq_some_iff.mp H
                              obtain ⟨⟨t337, t340⟩, A590, H⟩ := H
                              replace H : (some (t337, t340, true)) = some (r1, r2, r3) := H
                              have A59 := Aside0.mk A590
                              clear A590
                              simp only [Option.some.injEq, Prod.mk.injEq] at H
                              obtain ⟨rfl, rfl, rfl⟩ := H
                              have hnb60 := NB309_310.out
                              have hnc60 := NB310_309.out
                              have hcz61_0 : wc.cell? ⟨gb309, 0, none⟩ = some (.int .i64 a0_0) := (blk_cell BK309.out 0).trans rfl
                              have hcz61_1 : wc.cell? ⟨gb309, 1, none⟩ = some (.slice _ l0_1.length c0_1) := (blk_cell BK309.out 1).trans rfl
                              have hfz61_0 := blk_frozen BK309.out 0
                              have hfz61_1 := blk_frozen BK309.out 1
                              have p324 : 0 ≤ ((Go.bits .or .i64 (Go.bits .and .i64 (rd t311 x18_1) (rd y315 x27_2)) (Go.bits .andNot .i64 (Go.bits .or .i64 (rd t311 x18_1) (rd y315 x27_2)) (rd t311 x47_4))) : Int) := of_decide_eq_true (by first | (with_reducible assumption) | assumption)
                              have q324 : (Go.bits .or .i64 (Go.bits .and .i64 (rd t311 x18_1) (rd y315 x27_2)) (Go.bits .andNot .i64 (Go.bits .or .i64 (rd t311 x18_1) (rd y315 x27_2)) (rd t311 x47_4))) < (l0_1.length : Int) := of_decide_eq_true (by first | (with_reducible assumption) | assumption)
                              obtain ⟨ad324, e324, hx324_0⟩ := Kd.at_bool HR0_1.out (Go.bits .or .i64 (Go.bits .and .i64 (rd t311 x18_1) (rd y315 x27_2)) (Go.bits .andNot .i64 (Go.bits .or .i64 (rd t311 x18_1) (rd y315 x27_2)) (rd t311 x47_4))) p324 q324
                              (try rw [← Nbq49.out] at hx324_0)
                              cases e324
                              (try replace hx324_0 := (HB.out.cell (World.block_lt_of_cell? w _ hx324_0)).trans hx324_0)
                              replace p324 := eq_true p324
                              replace q324 := eq_true q324
                              have q62 : (x47_4 : Int) ≤ ((t311.length : Int) : Int) := of_decide_eq_true (by first | (with_reducible assumption) | assumption)
                              obtain ⟨i062, hi062, _, hsz62, _⟩ := info_parts info3
                              have hroom62 : t311.length ≤ co9 := (Kd.R_reads' HO_6.out).2.1
                              have hC62 : Kd.C (Kd.int .i64) _ (some ad314) t311.length t311 := (Kd.R_reads' HO_6.out).2.2
                              have q062 : (0 : Int) ≤ (x47_4 : Int) := of_decide_eq_true (by first | (with_reducible assumption) | assumption)
                              have hcut62 := cut_from (P := Try.prog) 22 3 .i64 Try.underlying22 hi062 1 hsz62 (some ad314) t311.length co9 x47_4 q062 q62
                              have hr62 := Kd.C_drop (m := (x47_4 : Int).toNat) (c := co9) hC62 (by omega) hroom62
                              obtain ⟨A62, hA62⟩ : ∃ A1, A1 = (if co9 = (x47_4 : Int).toNat then (some ad314) else ((some ad314) : Option Addr).map (·.add ((x47_4 : Int).toNat * 1))) := ⟨_, rfl⟩
                              obtain ⟨c62, hc62⟩ : ∃ c1, c1 = co9 - (x47_4 : Int).toNat := ⟨_, rfl⟩
                              have hy62 : y325.length = t311.length - (x47_4 : Int).toNat := (by rw [Ny325.out, List.length_drop] <;> omega)
                              rw [show (t311).drop (x47_4 : Int).toNat = y325 from Ny325.out.symm] at hr62
                              replace hr62 : Kd.C (Kd.int .i64) _ A62 y325.length y325 := (by rw [hA62]; exact hr62)
                              rw [← hy62, ← hA62, ← hc62] at hcut62
                              have HR328 := Aside0.mk hr62
                              have HC328 := Aside0.mk (show y325.length ≤ c62 from by rw [hy62, hc62]; exact Nat.sub_le_sub_right hroom62 _)
                              clear hr62 hC62 hroom62 hi062 hsz62 hc62
                              have KY62 := Aside0.mk hy62
                              have KA62 := Aside0.mk hA62
                              clear hy62 hA62
                              have KL62 := Aside0.mk (show (x47_4 : Int).toNat ≤ t311.length from by omega)
                              replace q62 := eq_true q62
                              go_wp2_with (first | (go_at_call 93; (with_reducible refine (slices_Contains_int_int.calls kj33 _ _ y325 (Go.bits .or .i64 (Go.bits .and .i64 (rd t311 x18_1) (rd y315 x27_2)) (Go.bits .andNot .i64 (Go.bits .or .i64 (rd t311 x18_1) (rd y315 x27_2)) (rd t311 x47_4))) true _ ?side1 ?side2 A55.out).mono ?_); (case side1 => repeat (first | exact (by repeat (first | (with_reducible exact HR328.out) | (with_reducible refine Kd.C_alloc ?_ _) | (with_reducible refine Kd.C_drewN ?_ _) | (with_reducible refine Kd.C_drew ?_) | exact HR328.out)) | (with_reducible refine Kd.C_alloc ?_ _) | (with_reducible refine Kd.C_drewN ?_ _) | (with_reducible refine Kd.C_drew ?_))); (case side2 => exact HC328.out); rintro e w' ⟨rfl, ⟨nd, rfl⟩⟩; (try (rw [drewN_self wc]; generalize hq_ : World.drewN wc _ = wc; have nz_ : Aside0 (Kd.C (Kd.int .i64) wc (some ad319) y315.length y315) := ⟨by rw [← hq_]; exact Kd.C_drewN HR318.out _⟩; have n0_ : Aside0 (Kd.R (Kd.int .i64) 3 wc w.heap.size (fun _ => True) (.slice (some ad314) t311.length co9) t311) := ⟨by rw [← hq_]; exact (zr HO_16.out)⟩; have n1_ : Aside0 (Kd.R (Kd.int .i64) 3 wc w.heap.size (fun _ => True) (.slice (some ad314) t311.length co9) t311) := ⟨by rw [← hq_]; exact (zr HO_45.out)⟩; have n2_ : Aside0 (Kd.R (Kd.int .i64) 3 wc w.heap.size (fun _ => True) (.slice (some ad314) t311.length co9) t311) := ⟨by rw [← hq_]; exact (zr HO_6.out)⟩; have n3_ : Aside0 (wc.heap[gb309]? = some (.cells #[.int .i64 a0_0, .slice (some ad324) l0_1.length c0_1] 53 (0, 0))) := ⟨by rw [← hq_]; exact (zb BK309.out)⟩; have n4_ : Aside0 (wc.heap[gb310]? = some (.cells #[.slice none 0 0, .slice none 0 0] 75 (0, 0))) := ⟨by rw [← hq_]; exact (zb BK310.out)⟩; have n5_ : Aside0 (Below w.heap.size w wc) := ⟨by rw [← hq_]; exact (zh HB.out)⟩; have n6_ : Aside0 (Kd.C (Kd.int .i64) wc A62 y325.length y325) := ⟨by rw [← hq_]; exact (by repeat (first | (with_reducible exact HR328.out) | (with_reducible refine Kd.C_alloc ?_ _) | (with_reducible refine Kd.C_drewN ?_ _) | (with_reducible refine Kd.C_drew ?_) | exact HR328.out))⟩; clear HO_16 HO_45 HO_6 BK309 BK310 HB HR328 HR318 hq_; have HR318 := nz_; clear nz_; have HO_16 := n0_; have HO_45 := n1_; have HO_6 := n2_; have BK309 := n3_; have BK310 := n4_; have HB := n5_; have HR328 := n6_; clear n0_ n1_ n2_ n3_ n4_ n5_ n6_))))
                              rw [← Array.append_assoc]
                              refine (hp_.out _ (rd t311 x18_1) (rd y315 x27_2) (rd t311 x47_4) (Go.bits .or .i64 (Go.bits .and .i64 (rd t311 x18_1) (rd y315 x27_2)) (Go.bits .andNot .i64 (Go.bits .or .i64 (rd t311 x18_1) (rd y315 x27_2)) (rd t311 x47_4))) true (zh HB.out) A57.out).mono ?_
                              rename_i K_ hK_
                              rintro e w63 ⟨rfl, hb⟩
                              (have n0_ := Aside0.mk (Kd.R_below (zr HO_6.out) hb); have n1_ := Aside0.mk (Kd.R_below (zr HO_16.out) hb); have n2_ := Aside0.mk (Kd.R_below (zr HO_45.out) hb); have n3_ := Aside0.mk (blk_below (g := gb309) (o := .cells #[.int .i64 a0_0, .slice (some ad324) l0_1.length c0_1] 53 (0, 0)) (zb BK309.out) hb); have n4_ := Aside0.mk (blk_below (g := gb310) (o := .cells #[.slice none 0 0, .slice none 0 0] 75 (0, 0)) (zb BK310.out) hb); have n5_ := Aside0.mk (Kd.C_below (by repeat (first | (with_reducible exact HR318.out) | (with_reducible refine Kd.C_alloc ?_ _) | (with_reducible refine Kd.C_drewN ?_ _) | (with_reducible refine Kd.C_drew ?_) | exact HR318.out)) hb); have n6_ := Aside0.mk (Kd.C_below (by repeat (first | (with_reducible exact HR328.out) | (with_reducible refine Kd.C_alloc ?_ _) | (with_reducible refine Kd.C_drewN ?_ _) | (with_reducible refine Kd.C_drew ?_) | exact HR328.out)) hb); have n7_ := Aside0.mk (below_step (zh HB.out) hb); clear HO_6; clear HO_16; clear HO_45; clear BK309; clear BK310; clear HR318; clear HR328; clear HB; have HO_6 := n0_; have HO_16 := n1_; have HO_45 := n2_; have BK309 := n3_; have BK310 := n4_; have HR318 := n5_; have HR328 := n6_; have HB := n7_; clear n0_ n1_ n2_ n3_ n4_ n5_ n6_ n7_; (try clear hb); (try clear hb2); (try clear hk); (try clear hi))
                              refine hK_ _ _ ?_
                              clear hK_ K_
                              go_wp2_with (first | ((with_reducible refine gate_dst (N := 108) rfl ?_); refine Kd.R_lit (Kd.int .i64) _ 3 ?hg (N := 108) ?hd (xs := ([(rd t311 x18_1), (rd y315 x27_2)] : List Int)) (inner := [.int .i64 (rd t311 x18_1), .int .i64 (rd y315 x27_2)]) (ok := fun _ => True) (okp := fun _ => True) ?hr ?hp (fun _ hk => hk) trivial (Below.refl _ _) (Nat.le_refl _) (by simp) ?_; (case hd => rfl); (case hg => rfl); (case hr => first | (go_simp; done) | (go_simp; rfl)); (case hp => exact (Reps.one (show Kd.M (Kd.int .i64) _ _ _ (rd t311 x18_1) [.int .i64 (rd t311 x18_1)] from rfl) (Reps.one (show Kd.M (Kd.int .i64) _ _ _ (rd y315 x27_2) [.int .i64 (rd y315 x27_2)] from rfl) (Reps.none _ _)))); intro v332 w64 ho65 hb hg_ hnew_; clear hg_ hnew_; (first | rw [← Ny331.out] at ho65 | (simp only [Int.reduceToNat] at ho65; rw [← Ny331.out] at ho65)); have n0_ := Aside0.mk (Kd.R_elder' (zr HO_6.out) (Kd.R_base ho65) hb); have n1_ := Aside0.mk (Kd.R_elder' (zr HO_16.out) (Kd.R_base ho65) hb); have n2_ := Aside0.mk (Kd.R_elder' (zr HO_45.out) (Kd.R_base ho65) hb); have n3_ := Aside0.mk (Kd.R_lower (Kd.R_new' (Kd.R_new' (Kd.R_new' ho65 (Kd.R_lt (zr HO_6.out))) (Kd.R_lt (zr HO_16.out))) (Kd.R_lt (zr HO_45.out))) (below_size (zh HB.out))); have n4_ := Aside0.mk (blk_below (g := gb309) (o := .cells #[.int .i64 a0_0, .slice (some ad324) l0_1.length c0_1] 53 (0, 0)) (zb BK309.out) hb); have n5_ := Aside0.mk (blk_below (g := gb310) (o := .cells #[.slice none 0 0, .slice none 0 0] 75 (0, 0)) (zb BK310.out) hb); have n6_ := Aside0.mk (Kd.C_below (by repeat (first | (with_reducible exact HR318.out) | (with_reducible refine Kd.C_alloc ?_ _) | (with_reducible refine Kd.C_drewN ?_ _) | (with_reducible refine Kd.C_drew ?_) | exact HR318.out)) hb); have n7_ := Aside0.mk (Kd.C_below (by repeat (first | (with_reducible exact HR328.out) | (with_reducible refine Kd.C_alloc ?_ _) | (with_reducible refine Kd.C_drewN ?_ _) | (with_reducible refine Kd.C_drew ?_) | exact HR328.out)) hb); have n8_ := Aside0.mk (below_step (zh HB.out) hb); clear HO_6; clear HO_16; clear HO_45; clear BK309; clear BK310; clear HR318; clear HR328; clear HB; have HO_6 := n0_; have HO_16 := n1_; have HO_45 := n2_; have HO333 := n3_; have BK309 := n4_; have BK310 := n5_; have HR318 := n6_; have HR328 := n7_; have HB := n8_; clear n0_ n1_ n2_ n3_ n4_ n5_ n6_ n7_ n8_; clear hb ho65) | ((with_reducible refine gate_dst (N := 111) rfl ?_); refine Kd.R_lit (Kd.int .i64) _ 3 ?hg (N := 111) ?hd (xs := ([(rd t311 x47_4), Go.bits .or .i64 (Go.bits .and .i64 (rd t311 x18_1) (rd y315 x27_2)) (Go.bits .andNot .i64 (Go.bits .or .i64 (rd t311 x18_1) (rd y315 x27_2)) (rd t311 x47_4))] : List Int)) (inner := [.int .i64 (rd t311 x47_4), .int .i64 (Go.bits .or .i64 (Go.bits .and .i64 (rd t311 x18_1) (rd y315 x27_2)) (Go.bits .andNot .i64 (Go.bits .or .i64 (rd t311 x18_1) (rd y315 x27_2)) (rd t311 x47_4)))]) (ok := fun _ => True) (okp := fun _ => True) ?hr ?hp (fun _ hk => hk) trivial (Below.refl _ _) (Nat.le_refl _) (by simp) ?_; (case hd => rfl); (case hg => rfl); (case hr => first | (go_simp; done) | (go_simp; rfl)); (case hp => exact (Reps.one (show Kd.M (Kd.int .i64) _ _ _ (rd t311 x47_4) [.int .i64 (rd t311 x47_4)] from rfl) (Reps.one (show Kd.M (Kd.int .i64) _ _ _ (Go.bits .or .i64 (Go.bits .and .i64 (rd t311 x18_1) (rd y315 x27_2)) (Go.bits .andNot .i64 (Go.bits .or .i64 (rd t311 x18_1) (rd y315 x27_2)) (rd t311 x47_4))) [.int .i64 (Go.bits .or .i64 (Go.bits .and .i64 (rd t311 x18_1) (rd y315 x27_2)) (Go.bits .andNot .i64 (Go.bits .or .i64 (rd t311 x18_1) (rd y315 x27_2)) (rd t311 x47_4)))] from rfl) (Reps.none _ _)))); intro v335 w66 ho67 hb hg_ hnew_; clear hg_ hnew_; (first | rw [← Ny334.out] at ho67 | (simp only [Int.reduceToNat] at ho67; rw [← Ny334.out] at ho67)); have n0_ := Aside0.mk (Kd.R_elder' (zr HO_6.out) (Kd.R_base ho67) hb); have n1_ := Aside0.mk (Kd.R_elder' (zr HO_16.out) (Kd.R_base ho67) hb); have n2_ := Aside0.mk (Kd.R_elder' (zr HO_45.out) (Kd.R_base ho67) hb); have n3_ := Aside0.mk (Kd.R_elder' (zr HO333.out) (Kd.R_base ho67) hb); have n4_ := Aside0.mk (Kd.R_lower (Kd.R_new' (Kd.R_new' (Kd.R_new' (Kd.R_new' ho67 (Kd.R_lt (zr HO_6.out))) (Kd.R_lt (zr HO_16.out))) (Kd.R_lt (zr HO_45.out))) (Kd.R_lt (zr HO333.out))) (below_size (zh HB.out))); have n5_ := Aside0.mk (blk_below (g := gb309) (o := .cells #[.int .i64 a0_0, .slice (some ad324) l0_1.length c0_1] 53 (0, 0)) (zb BK309.out) hb); have n6_ := Aside0.mk (blk_below (g := gb310) (o := .cells #[.slice none 0 0, .slice none 0 0] 75 (0, 0)) (zb BK310.out) hb); have n7_ := Aside0.mk (Kd.C_below (by repeat (first | (with_reducible exact HR318.out) | (with_reducible refine Kd.C_alloc ?_ _) | (with_reducible refine Kd.C_drewN ?_ _) | (with_reducible refine Kd.C_drew ?_) | exact HR318.out)) hb); have n8_ := Aside0.mk (Kd.C_below (by repeat (first | (with_reducible exact HR328.out) | (with_reducible refine Kd.C_alloc ?_ _) | (with_reducible refine Kd.C_drewN ?_ _) | (with_reducible refine Kd.C_drew ?_) | exact HR328.out)) hb); have n9_ := Aside0.mk (below_step (zh HB.out) hb); clear HO_6; clear HO_16; clear HO_45; clear HO333; clear BK309; clear BK310; clear HR318; clear HR328; clear HB; have HO_6 := n0_; have HO_16 := n1_; have HO_45 := n2_; have HO333 := n3_; have HO336 := n4_; have BK309 := n5_; have BK310 := n6_; have HR318 := n7_; have HR328 := n8_; have HB := n9_; clear n0_ n1_ n2_ n3_ n4_ n5_ n6_ n7_ n8_ n9_; clear hb ho67; obtain ⟨Ao68, co68, eo68⟩ := Kd.R_slice HO333.out; subst eo68; obtain ⟨Ao69, co69, eo69⟩ := Kd.R_slice HO336.out; subst eo69) | ((with_reducible refine gate_callee (f := 94) rfl ?_); refine goesL_ (some 112) rfl rfl Try.func94 (by kernel_rfl) rfl #[.slice Ao68 y331.length co68, .slice Ao69 y334.length co69] rfl (by (try simp only [List.map_toArray, List.map_cons, List.map_nil]); first | done | rfl | (simp only [List.length_drop, List.length_take]; rfl)) ?_; (with_reducible refine (impl_pairs.calls kj33 _ _ y331 _ _ y334 t337 t340 _ ?side1 ?side2 ?side3 ?side4 A59.out).mono ?_); (case side1 => repeat (first | exact (Kd.R_reads' HO333.out).2.2 | (with_reducible refine Kd.C_alloc ?_ _) | (with_reducible refine Kd.C_drewN ?_ _) | (with_reducible refine Kd.C_drew ?_))); (case side2 => exact (Kd.R_reads' HO333.out).2.1); (case side3 => repeat (first | exact (Kd.R_reads' HO336.out).2.2 | (with_reducible refine Kd.C_alloc ?_ _) | (with_reducible refine Kd.C_drewN ?_ _) | (with_reducible refine Kd.C_drew ?_))); (case side4 => exact (Kd.R_reads' HO336.out).2.1); rintro e w70 ⟨v338, v341, rfl, ow_, ho0, ho1, hb⟩; refine ⟨_, rfl, ?_⟩; have n0_ := Aside0.mk (Kd.R_below (zr HO_6.out) hb); have n1_ := Aside0.mk (Kd.R_below (zr HO_16.out) hb); have n2_ := Aside0.mk (Kd.R_below (zr HO_45.out) hb); have n3_ := Aside0.mk (Kd.R_below (zr HO333.out) hb); have n4_ := Aside0.mk (Kd.R_below (zr HO336.out) hb); have n5_ := Aside0.mk (Kd.S_lower (Kd.S_new' (Kd.S_new' (Kd.S_new' (Kd.S_new' (Kd.S_new' ho0 (Kd.R_lt (zr HO_6.out))) (Kd.R_lt (zr HO_16.out))) (Kd.R_lt (zr HO_45.out))) (Kd.R_lt (zr HO333.out))) (Kd.R_lt (zr HO336.out))) (below_size (zh HB.out))); have n6_ := Aside0.mk (Kd.S_lower (Kd.S_new' (Kd.S_new' (Kd.S_new' (Kd.S_new' (Kd.S_new' ho1 (Kd.R_lt (zr HO_6.out))) (Kd.R_lt (zr HO_16.out))) (Kd.R_lt (zr HO_45.out))) (Kd.R_lt (zr HO333.out))) (Kd.R_lt (zr HO336.out))) (below_size (zh HB.out))); have n7_ := Aside0.mk (blk_below (g := gb309) (o := .cells #[.int .i64 a0_0, .slice (some ad324) l0_1.length c0_1] 53 (0, 0)) (zb BK309.out) hb); have n8_ := Aside0.mk (blk_below (g := gb310) (o := .cells #[.slice none 0 0, .slice none 0 0] 75 (0, 0)) (zb BK310.out) hb); have n9_ := Aside0.mk (Kd.C_below (by repeat (first | (with_reducible exact HR318.out) | (with_reducible refine Kd.C_alloc ?_ _) | (with_reducible refine Kd.C_drewN ?_ _) | (with_reducible refine Kd.C_drew ?_) | exact HR318.out)) hb); have n10_ := Aside0.mk (Kd.C_below (by repeat (first | (with_reducible exact HR328.out) | (with_reducible refine Kd.C_alloc ?_ _) | (with_reducible refine Kd.C_drewN ?_ _) | (with_reducible refine Kd.C_drew ?_) | exact HR328.out)) hb); have n11_ := Aside0.mk (below_step (zh HB.out) hb); clear HO_6; clear HO_16; clear HO_45; clear HO333; clear HO336; clear BK309; clear BK310; clear HR318; clear HR328; clear HB; have HO_6 := n0_; have HO_16 := n1_; have HO_45 := n2_; have HO333 := n3_; have HO336 := n4_; have HO339 := n5_; have HO342 := n6_; have BK309 := n7_; have BK310 := n8_; have HR318 := n9_; have HR328 := n10_; have HB := n11_; clear n0_ n1_ n2_ n3_ n4_ n5_ n6_ n7_ n8_ n9_ n10_ n11_; (try clear hb); (try clear hb2); (try clear hk); (try clear hi); (try clear ho0); (try clear ho1); obtain ⟨Ao71, co71, eo71⟩ := Kd.S_slice HO339.out; subst eo71; have hcz72_0 : w70.cell? ⟨gb310, 0, none⟩ = some (.slice none 0 0) := (blk_cell BK310.out 0).trans rfl; have hcz72_1 : w70.cell? ⟨gb310, 1, none⟩ = some (.slice none 0 0) := (blk_cell BK310.out 1).trans rfl; have hfz72_0 := blk_frozen BK310.out 0; have hfz72_1 := blk_frozen BK310.out 1; obtain ⟨Ao73, co73, eo73⟩ := Kd.S_slice HO342.out; subst eo73))
                              refine bodyPost_ret (results_ct rfl _ _ gb310 75 #[.slice Ao71 t337.length co71, .slice Ao73 t340.length co73] (0, 0) _ rfl (by (with_reducible repeat (first | refine blk_drewN ?_ _ | refine blk_drew ?_ | refine blk_alloc ?_ _)); refine blk_put (cs := #[.slice Ao71 t337.length co71, .slice none 0 0]) ?_ 1 _ rfl; (with_reducible repeat (first | refine blk_drewN ?_ _ | refine blk_drew ?_ | refine blk_alloc ?_ _)); refine blk_put (cs := #[.slice none 0 0, .slice none 0 0]) ?_ 0 _ rfl; (with_reducible repeat (first | refine blk_drewN ?_ _ | refine blk_drew ?_ | refine blk_alloc ?_ _)); exact BK310.out) Try.underlying75 rfl (by kernel_rfl)) rfl ?_
                              exact ⟨_, _, by first | rfl | (simp [*, errW_none, errW_some] <;> rfl), ow_, by (with_reducible repeat (first | apply Kd.S_alloc | apply Kd.S_drewN | apply Kd.S_drew)); exact Kd.S_mono (Kd.S_far (p := ⟨gb310, 1, none⟩) (Kd.S_far (p := ⟨gb310, 0, none⟩) (Kd.S_types HO339.out BK310.out (by decide)) (fun _ hk => hk.2) (.slice Ao71 t337.length co71)) (fun _ hk => hk.2) (.slice Ao73 t340.length co73)) (fun _ hk => hk.1.1.1.1.1.1), by (with_reducible repeat (first | apply Kd.S_alloc | apply Kd.S_drewN | apply Kd.S_drew)); exact Kd.S_mono (Kd.S_far (p := ⟨gb310, 1, none⟩) (Kd.S_far (p := ⟨gb310, 0, none⟩) (Kd.S_types HO342.out BK310.out (by decide)) (fun _ hk => hk.2) (.slice Ao71 t337.length co71)) (fun _ hk => hk.2) (.slice Ao73 t340.length co73)) (fun _ hk => hk.1.1.1.1.1.1), zh HB.out⟩
                             ·replace c58 := Bool.eq_false_iff.mpr c58
                              subst c58
                              have H1 : (impl_votes_firstOfTwo.l2 a1 kj33 t311 (rd t311 x18_1) (rd y315 x27_2) t311 (t311.length : Int) x18_1 y315 (y315.length : Int) x27_2 t311 (t311.length : Int) (wrap64 (x47_4 + 1)) a0_0 l0_1) = some (r1, r2, r3) := by rw [if_neg (show ¬ (false = true) by decide)] at H; exact H
                              clear H
                              have H := H1
                              clear H1
                              have H' := Aside0.mk H
                              clear H
                              have hnb74 := NB309_310.out
                              have hnc74 := NB310_309.out
                              have hcz75_0 : wc.cell? ⟨gb309, 0, none⟩ = some (.int .i64 a0_0) := (blk_cell BK309.out 0).trans rfl
                              have hcz75_1 : wc.cell? ⟨gb309, 1, none⟩ = some (.slice _ l0_1.length c0_1) := (blk_cell BK309.out 1).trans rfl
                              have hfz75_0 := blk_frozen BK309.out 0
                              have hfz75_1 := blk_frozen BK309.out 1
                              have p324 : 0 ≤ ((Go.bits .or .i64 (Go.bits .and .i64 (rd t311 x18_1) (rd y315 x27_2)) (Go.bits .andNot .i64 (Go.bits .or .i64 (rd t311 x18_1) (rd y315 x27_2)) (rd t311 x47_4))) : Int) := of_decide_eq_true (by first | (with_reducible assumption) | assumption)
                              have q324 : (Go.bits .or .i64 (Go.bits .and .i64 (rd t311 x18_1) (rd y315 x27_2)) (Go.bits .andNot .i64 (Go.bits .or .i64 (rd t311 x18_1) (rd y315 x27_2)) (rd t311 x47_4))) < (l0_1.length : Int) := of_decide_eq_true (by first | (with_reducible assumption) | assumption)
                              obtain ⟨ad324, e324, hx324_0⟩ := Kd.at_bool HR0_1.out (Go.bits .or .i64 (Go.bits .and .i64 (rd t311 x18_1) (rd y315 x27_2)) (Go.bits .andNot .i64 (Go.bits .or .i64 (rd t311 x18_1) (rd y315 x27_2)) (rd t311 x47_4))) p324 q324
                              (try rw [← Nbq49.out] at hx324_0)
                              cases e324
                              (try replace hx324_0 := (HB.out.cell (World.block_lt_of_cell? w _ hx324_0)).trans hx324_0)
                              replace p324 := eq_true p324
                              replace q324 := eq_true q324
                              have q76 : (x47_4 : Int) ≤ ((t311.length : Int) : Int) := of_decide_eq_true (by first | (with_reducible assumption) | assumption)
                              obtain ⟨i076, hi076, _, hsz76, _⟩ := info_parts info3
                              have hroom76 : t311.length ≤ co9 := (Kd.R_reads' HO_6.out).2.1
                              have hC76 : Kd.C (Kd.int .i64) _ (some ad314) t311.length t311 := (Kd.R_reads' HO_6.out).2.2
                              have q076 : (0 : Int) ≤ (x47_4 : Int) := of_decide_eq_true (by first | (with_reducible assumption) | assumption)
                              have hcut76 := cut_from (P := Try.prog) 22 3 .i64 Try.underlying22 hi076 1 hsz76 (some ad314) t311.length co9 x47_4 q076 q76
                              have hr76 := Kd.C_drop (m := (x47_4 : Int).toNat) (c := co9) hC76 (by omega) hroom76
                              obtain ⟨A76, hA76⟩ : ∃ A1, A1 = (if co9 = (x47_4 : Int).toNat then (some ad314) else ((some ad314) : Option Addr).map (·.add ((x47_4 : Int).toNat * 1))) := ⟨_, rfl⟩
                              obtain ⟨c76, hc76⟩ : ∃ c1, c1 = co9 - (x47_4 : Int).toNat := ⟨_, rfl⟩
                              have hy76 : y325.length = t311.length - (x47_4 : Int).toNat := (by rw [Ny325.out, List.length_drop] <;> omega)
                              rw [show (t311).drop (x47_4 : Int).toNat = y325 from Ny325.out.symm] at hr76
                              replace hr76 : Kd.C (Kd.int .i64) _ A76 y325.length y325 := (by rw [hA76]; exact hr76)
                              rw [← hy76, ← hA76, ← hc76] at hcut76
                              have HR328 := Aside0.mk hr76
                              have HC328 := Aside0.mk (show y325.length ≤ c76 from by rw [hy76, hc76]; exact Nat.sub_le_sub_right hroom76 _)
                              clear hr76 hC76 hroom76 hi076 hsz76 hc76
                              have KY76 := Aside0.mk hy76
                              have KA76 := Aside0.mk hA76
                              clear hy76 hA76
                              have KL76 := Aside0.mk (show (x47_4 : Int).toNat ≤ t311.length from by omega)
                              replace q76 := eq_true q76
                              go_wp2_with (first | (go_at_call 93; (with_reducible refine (slices_Contains_int_int.calls kj33 _ _ y325 (Go.bits .or .i64 (Go.bits .and .i64 (rd t311 x18_1) (rd y315 x27_2)) (Go.bits .andNot .i64 (Go.bits .or .i64 (rd t311 x18_1) (rd y315 x27_2)) (rd t311 x47_4))) true _ ?side1 ?side2 A55.out).mono ?_); (case side1 => repeat (first | exact (by repeat (first | (with_reducible exact HR328.out) | (with_reducible refine Kd.C_alloc ?_ _) | (with_reducible refine Kd.C_drewN ?_ _) | (with_reducible refine Kd.C_drew ?_) | exact HR328.out)) | (with_reducible refine Kd.C_alloc ?_ _) | (with_reducible refine Kd.C_drewN ?_ _) | (with_reducible refine Kd.C_drew ?_))); (case side2 => exact HC328.out); rintro e w' ⟨rfl, ⟨nd, rfl⟩⟩))
                              rw [← Array.append_assoc]
                              refine (hp_.out _ (rd t311 x18_1) (rd y315 x27_2) (rd t311 x47_4) (Go.bits .or .i64 (Go.bits .and .i64 (rd t311 x18_1) (rd y315 x27_2)) (Go.bits .andNot .i64 (Go.bits .or .i64 (rd t311 x18_1) (rd y315 x27_2)) (rd t311 x47_4))) false (zh HB.out) A57.out).mono ?_
                              rename_i K_ hK_
                              rintro e w77 ⟨rfl, hb⟩
                              (have n0_ := Aside0.mk (Kd.R_below (zr HO_6.out) hb); have n1_ := Aside0.mk (Kd.R_below (zr HO_16.out) hb); have n2_ := Aside0.mk (Kd.R_below (zr HO_45.out) hb); have n3_ := Aside0.mk (blk_below (g := gb309) (o := .cells #[.int .i64 a0_0, .slice (some ad324) l0_1.length c0_1] 53 (0, 0)) (zb BK309.out) hb); have n4_ := Aside0.mk (blk_below (g := gb310) (o := .cells #[.slice none 0 0, .slice none 0 0] 75 (0, 0)) (zb BK310.out) hb); have n5_ := Aside0.mk (Kd.C_below (Kd.C_drewN HR318.out _) hb); have n6_ := Aside0.mk (Kd.C_below (Kd.C_drewN HR328.out _) hb); have n7_ := Aside0.mk (below_step (zh HB.out) hb); clear HO_6; clear HO_16; clear HO_45; clear BK309; clear BK310; clear HR318; clear HR328; clear HB; have HO_6 := n0_; have HO_16 := n1_; have HO_45 := n2_; have BK309 := n3_; have BK310 := n4_; have HR318 := n5_; have HR328 := n6_; have HB := n7_; clear n0_ n1_ n2_ n3_ n4_ n5_ n6_ n7_; (try clear hb); (try clear hb2); (try clear hk); (try clear hi))
                              refine hK_ _ _ ?_
                              clear hK_ K_
                              go_wp2
                              go_roundg kj33
                              case measure => have := HK1.out; have := HK2.out; have := HJ18.out; have := HK4.out; have := HJ33.out; omega
                              case rel => exact ⟨(wrap64 (x47_4 + 1)), (by first | rfl | (simp; done) | (simp [*]; done)), H', ⟨by have := HK1.out; have := HK2.out; have := HJ18.out; have := HK4.out; have := HJ33.out; omega⟩, ⟨zr HO_6.out⟩, ⟨zr HO_16.out⟩, ⟨zr HO_45.out⟩, ⟨zb BK309.out⟩, ⟨zb BK310.out⟩, ⟨by repeat (first | (with_reducible exact HR318.out) | (with_reducible refine Kd.C_alloc ?_ _) | (with_reducible refine Kd.C_drewN ?_ _) | (with_reducible refine Kd.C_drew ?_) | exact HR318.out)⟩, ⟨zh HB.out⟩⟩
                            ·replace c56 := Bool.eq_false_iff.mpr c56
                             subst c56
                             have H1 : (impl_votes_firstOfTwo.l2 a1 kj33 t311 (rd t311 x18_1) (rd y315 x27_2) t311 (t311.length : Int) x18_1 y315 (y315.length : Int) x27_2 t311 (t311.length : Int) (wrap64 (x47_4 + 1)) a0_0 l0_1) = some (r1, r2, r3) := by rw [if_neg (show ¬ (false = true) by decide)] at H; exact H
                             clear H
                             have H := H1
                             clear H1
                             have H' := Aside0.mk H
                             clear H
                             have hnb78 := NB309_310.out
                             have hnc78 := NB310_309.out
                             have hcz79_0 : wc.cell? ⟨gb309, 0, none⟩ = some (.int .i64 a0_0) := (blk_cell BK309.out 0).trans rfl
                             have hcz79_1 : wc.cell? ⟨gb309, 1, none⟩ = some (.slice _ l0_1.length c0_1) := (blk_cell BK309.out 1).trans rfl
                             have hfz79_0 := blk_frozen BK309.out 0
                             have hfz79_1 := blk_frozen BK309.out 1
                             have p324 : 0 ≤ ((Go.bits .or .i64 (Go.bits .and .i64 (rd t311 x18_1) (rd y315 x27_2)) (Go.bits .andNot .i64 (Go.bits .or .i64 (rd t311 x18_1) (rd y315 x27_2)) (rd t311 x47_4))) : Int) := of_decide_eq_true (by first | (with_reducible assumption) | assumption)
                             have q324 : (Go.bits .or .i64 (Go.bits .and .i64 (rd t311 x18_1) (rd y315 x27_2)) (Go.bits .andNot .i64 (Go.bits .or .i64 (rd t311 x18_1) (rd y315 x27_2)) (rd t311 x47_4))) < (l0_1.length : Int) := of_decide_eq_true (by first | (with_reducible assumption) | assumption)
                             obtain ⟨ad324, e324, hx324_0⟩ := Kd.at_bool HR0_1.out (Go.bits .or .i64 (Go.bits .and .i64 (rd t311 x18_1) (rd y315 x27_2)) (Go.bits .andNot .i64 (Go.bits .or .i64 (rd t311 x18_1) (rd y315 x27_2)) (rd t311 x47_4))) p324 q324
                             (try rw [← Nbq49.out] at hx324_0)
                             cases e324
                             (try replace hx324_0 := (HB.out.cell (World.block_lt_of_cell? w _ hx324_0)).trans hx324_0)
                             replace p324 := eq_true p324
                             replace q324 := eq_true q324
                             have q80 : (x47_4 : Int) ≤ ((t311.length : Int) : Int) := of_decide_eq_true (by first | (with_reducible assumption) | assumption)
                             obtain ⟨i080, hi080, _, hsz80, _⟩ := info_parts info3
                             have hroom80 : t311.length ≤ co9 := (Kd.R_reads' HO_6.out).2.1
                             have hC80 : Kd.C (Kd.int .i64) _ (some ad314) t311.length t311 := (Kd.R_reads' HO_6.out).2.2
                             have q080 : (0 : Int) ≤ (x47_4 : Int) := of_decide_eq_true (by first | (with_reducible assumption) | assumption)
                             have hcut80 := cut_from (P := Try.prog) 22 3 .i64 Try.underlying22 hi080 1 hsz80 (some ad314) t311.length co9 x47_4 q080 q80
                             have hr80 := Kd.C_drop (m := (x47_4 : Int).toNat) (c := co9) hC80 (by omega) hroom80
                             obtain ⟨A80, hA80⟩ : ∃ A1, A1 = (if co9 = (x47_4 : Int).toNat then (some ad314) else ((some ad314) : Option Addr).map (·.add ((x47_4 : Int).toNat * 1))) := ⟨_, rfl⟩
                             obtain ⟨c80, hc80⟩ : ∃ c1, c1 = co9 - (x47_4 : Int).toNat := ⟨_, rfl⟩
                             have hy80 : y325.length = t311.length - (x47_4 : Int).toNat := (by rw [Ny325.out, List.length_drop] <;> omega)
                             rw [show (t311).drop (x47_4 : Int).toNat = y325 from Ny325.out.symm] at hr80
                             replace hr80 : Kd.C (Kd.int .i64) _ A80 y325.length y325 := (by rw [hA80]; exact hr80)
                             rw [← hy80, ← hA80, ← hc80] at hcut80
                             have HR328 := Aside0.mk hr80
                             have HC328 := Aside0.mk (show y325.length ≤ c80 from by rw [hy80, hc80]; exact Nat.sub_le_sub_right hroom80 _)
                             clear hr80 hC80 hroom80 hi080 hsz80 hc80
                             have KY80 := Aside0.mk hy80
                             have KA80 := Aside0.mk hA80
                             clear hy80 hA80
                             have KL80 := Aside0.mk (show (x47_4 : Int).toNat ≤ t311.length from by omega)
                             replace q80 := eq_true q80
                             go_wp2_with (first | (go_at_call 93; (with_reducible refine (slices_Contains_int_int.calls kj33 _ _ y325 (Go.bits .or .i64 (Go.bits .and .i64 (rd t311 x18_1) (rd y315 x27_2)) (Go.bits .andNot .i64 (Go.bits .or .i64 (rd t311 x18_1) (rd y315 x27_2)) (rd t311 x47_4))) false _ ?side1 ?side2 A55.out).mono ?_); (case side1 => repeat (first | exact (by repeat (first | (with_reducible exact HR328.out) | (with_reducible refine Kd.C_alloc ?_ _) | (with_reducible refine Kd.C_drewN ?_ _) | (with_reducible refine Kd.C_drew ?_) | exact HR328.out)) | (with_reducible refine Kd.C_alloc ?_ _) | (with_reducible refine Kd.C_drewN ?_ _) | (with_reducible refine Kd.C_drew ?_))); (case side2 => exact HC328.out); rintro e w' ⟨rfl, ⟨nd, rfl⟩⟩))
                             go_roundg kj33
                             case measure => have := HK1.out; have := HK2.out; have := HJ18.out; have := HK4.out; have := HJ33.out; omega
                             case rel => exact ⟨(wrap64 (x47_4 + 1)), (by first | rfl | (simp; done) | (simp [*]; done)), H', ⟨by have := HK1.out; have := HK2.out; have := HJ18.out; have := HK4.out; have := HJ33.out; omega⟩, ⟨zr HO_6.out⟩, ⟨zr HO_16.out⟩, ⟨zr HO_45.out⟩, ⟨zb BK309.out⟩, ⟨zb BK310.out⟩, ⟨by repeat (first | (with_reducible exact HR318.out) | (with_reducible refine Kd.C_alloc ?_ _) | (with_reducible refine Kd.C_drewN ?_ _) | (with_reducible refine Kd.C_drew ?_) | exact HR318.out)⟩, ⟨zh HB.out⟩⟩
                           ·rw [if_neg c54] at H
                            exact absurd H (by simp)
                          ·rw [if_neg c53] at H
                           exact absurd H (by simp)
                        ·rw [if_neg c48] at H
                         exact absurd H (by simp)
                       ·rw [if_neg c47] at H
                        exact absurd H (by simp)
                   ·rw [if_neg c33] at H
                    exact absurd H (by simp)
                  ·rw [if_neg c32] at H
                   exact absurd H (by simp)
                 ·rw [if_neg c31] at H
                  have c31b0 : decide (x47_4 < (t311.length : Int)) = false := decide_eq_false c31
                  clear c31
                  have H' := Aside0.mk H
                  clear H
                  go_wp2
                  go_roundg k4
                  case measure => have := HK1.out; have := HK2.out; have := HJ18.out; have := HK4.out; omega
                  case rel => exact ⟨(wrap64 (x27_2 + 1)), (by first | rfl | (simp; done) | (simp [*]; done)), H', ⟨by have := HK1.out; have := HK2.out; have := HJ18.out; have := HK4.out; omega⟩, ⟨zr HO_6.out⟩, ⟨zr HO_16.out⟩, ⟨zb BK309.out⟩, ⟨zb BK310.out⟩, ⟨by repeat (first | (with_reducible exact HR318.out) | (with_reducible refine Kd.C_alloc ?_ _) | (with_reducible refine Kd.C_drewN ?_ _) | (with_reducible refine Kd.C_drew ?_) | exact HR318.out)⟩, ⟨zh HB.out⟩⟩
           ·rw [if_neg c18] at H
            exact absurd H (by simp)
          ·rw [if_neg c17] at H
           exact absurd H (by simp)
         ·rw [if_neg c16] at H
          have c16b0 : decide (x27_2 < (y315.length : Int)) = false := decide_eq_false c16
          clear c16
          have H' := Aside0.mk H
          clear H
          go_wp2
          go_roundg k2
          case measure => have := HK1.out; have := HK2.out; omega
          case rel => exact ⟨(wrap64 (x18_1 + 1)), (by first | rfl | (simp; done) | (simp [*]; done)), H', ⟨by have := HK1.out; have := HK2.out; omega⟩, ⟨zr HO_6.out⟩, ⟨zr HO_16.out⟩, ⟨zb BK309.out⟩, ⟨zb BK310.out⟩, ⟨zh HB.out⟩⟩
      ·rw [if_neg c14] at H
       exact absurd H (by simp)
     ·rw [if_neg c12] at H
      exact absurd H (by simp)
    ·rw [if_neg c11] at H
     exact absurd H (by simp)
   ·rw [if_neg c10] at H
    have c10b0 : decide (x18_1 < (t311.length : Int)) = false := decide_eq_false c10
    clear c10
    simp only [Option.some.injEq, Prod.mk.injEq] at H
    obtain ⟨rfl, rfl, rfl⟩ := H
    have hnb81 := NB310_309.out
    have hnc81 := NB309_310.out
    have hcz82_0 : wr.cell? ⟨gb310, 0, none⟩ = some (.slice none 0 0) := (blk_cell BK310.out 0).trans rfl
    have hcz82_1 : wr.cell? ⟨gb310, 1, none⟩ = some (.slice none 0 0) := (blk_cell BK310.out 1).trans rfl
    have hfz82_0 := blk_frozen BK310.out 0
    have hfz82_1 := blk_frozen BK310.out 1
    go_wp2
    refine bodyPost_ret (results_ct rfl _ _ gb310 75 #[.slice none 0 0, .slice none 0 0] (0, 0) _ rfl (by (with_reducible repeat (first | refine blk_drewN ?_ _ | refine blk_drew ?_ | refine blk_alloc ?_ _)); refine blk_put (cs := #[.slice none 0 0, .slice none 0 0]) ?_ 1 _ rfl; (with_reducible repeat (first | refine blk_drewN ?_ _ | refine blk_drew ?_ | refine blk_alloc ?_ _)); refine blk_put (cs := #[.slice none 0 0, .slice none 0 0]) ?_ 0 _ rfl; (with_reducible repeat (first | refine blk_drewN ?_ _ | refine blk_drew ?_ | refine blk_alloc ?_ _)); exact BK310.out) Try.underlying75 rfl (by kernel_rfl)) rfl ?_
    exact ⟨_, _, by first | rfl | (simp [*, errW_none, errW_some] <;> rfl), fun _ => true, by first | exact Kd.S_nil _ _ _ _ _ | exact Kd.N_nil _ _ _ _ _ | exact Kd.V_nil _ _ _ _ _ | exact Kd.Q_nil _ _ _ _ _ | exact Kd.R_nil _ _ _ _ _, by first | exact Kd.S_nil _ _ _ _ _ | exact Kd.N_nil _ _ _ _ _ | exact Kd.V_nil _ _ _ _ _ | exact Kd.Q_nil _ _ _ _ _ | exact Kd.R_nil _ _ _ _ _, zh HB.out⟩
end
end Go.Proofs.Ytlhkphehlocdcaa.Q
end
section
namespace Go.Proofs.Ytlhkphehlocdcaa.Q
open Go.RowKit Go.Proofs.YtlhkphehlocdcaaW.PrintWords Go.Proofs.YtlhkphehlocdcaaW.PrintLast Go.Proofs.YtlhkphehlocdcaaW.PrintMore
set_option linter.unusedVariables false
set_option linter.unusedSimpArgs false
theorem firstTrade_1.pred (w : World) : PredI4 Try.prog 78 #[] #[] w (fun _ _ _ _ => some true) := by
  intro W x y z u b hb hp
  obtain rfl := Option.some.inj hp
  show Calls Try.prog 78 #[.int .i64 x, .int .i64 y, .int .i64 z, .int .i64 u] W _
  clear hp
  go_enter Try.func78, Try.ntmps78
  go_wp2
  go_ret
  exact ⟨rfl, Below.refl _ _⟩
def firstOfAny.f (k : Nat) (a0_0 : Int) (l0_1 : List Bool) : Option ((List (List Int)) × (List (List Int)) × Bool) := impl_votes_firstOfTwo.f k a0_0 l0_1 (fun _ _ _ _ => some true)
theorem firstOfAny.calls (k : Nat) (a0_0 : Int) (A0_1 : Option Addr) (c0_1 : Nat) (l0_1 : List Bool) (r1 : List (List Int)) (r2 : List (List Int)) (r3 : Bool) (w : World) (hr0_1 : Kd.C Kd.bool w A0_1 l0_1.length l0_1) (hc0_1 : l0_1.length ≤ c0_1) (h : firstOfAny.f k a0_0 l0_1 = some (r1, r2, r3)) :
    Calls Try.prog 77 #[.agg #[.int .i64 a0_0, .slice A0_1 l0_1.length c0_1], .func (.func 78) #[] #[]] w fun e w' => ∃ v0_ v1_ : Value, e = .returned (.tuple #[.agg #[v0_, v1_], .bool r3]) ∧ ∃ ow_ : Nat → Bool, Kd.S (Kd.slice 3 (Kd.int .i64)) 22 w' w.heap.size (fun k_ => ow_ k_ = true) v0_ r1 ∧ Kd.S (Kd.slice 3 (Kd.int .i64)) 22 w' w.heap.size (fun k_ => ow_ k_ = false) v1_ r2 ∧ Below w.heap.size w w' :=
  impl_votes_firstOfTwo.calls k a0_0 A0_1 c0_1 l0_1 _ 78 #[] #[] (enters_of Try.func78 (by kernel_rfl) rfl) r1 r2 r3 w (firstTrade_1.pred w) hr0_1 hc0_1 h
end Go.Proofs.Ytlhkphehlocdcaa.Q
end
section
namespace Go.Proofs.Ytlhkphehlocdcaa.Q
open Go.RowKit Go.Proofs.YtlhkphehlocdcaaW.PrintWords Go.Proofs.YtlhkphehlocdcaaW.PrintLast Go.Proofs.YtlhkphehlocdcaaW.PrintMore
attribute [local go_sem] max2_int min2_int max_two min_two max_three min_three max_four min_four
set_option linter.unusedVariables false
set_option linter.unusedSimpArgs false
def impl_votes_firstTrade.f (k : Nat) (a0_0 : Int) (l0_1 : List Bool) : Option ((List (List Int)) × (List (List Int)) × Bool) := (firstOfAny.f k a0_0 l0_1).bind fun bt345 => (some (bt345.1, bt345.2.1, bt345.2.2))
set_option maxHeartbeats 8000000 in
set_option maxRecDepth 100000 in
theorem impl_votes_firstTrade.calls (k : Nat) (a0_0 : Int) (A0_1 : Option Addr) (c0_1 : Nat) (l0_1 : List Bool) (r1 : List (List Int)) (r2 : List (List Int)) (r3 : Bool) (w : World) (hr0_1 : Kd.C Kd.bool w A0_1 l0_1.length l0_1) (hc0_1 : l0_1.length ≤ c0_1) (h : impl_votes_firstTrade.f k a0_0 l0_1 = some (r1, r2, r3)) :
  Calls Try.prog 58 #[.agg #[.int .i64 a0_0, .slice A0_1 l0_1.length c0_1]] w fun e w' => ∃ v0_ v1_ : Value, e = .returned (.tuple #[.agg #[v0_, v1_], .bool r3]) ∧ ∃ ow_ : Nat → Bool, Kd.S (Kd.slice 3 (Kd.int .i64)) 22 w' w.heap.size (fun k_ => ow_ k_ = true) v0_ r1 ∧ Kd.S (Kd.slice 3 (Kd.int .i64)) 22 w' w.heap.size (fun k_ => ow_ k_ = false) v1_ r2 ∧ Below w.heap.size w w' := by
 have hu53 := Try.underlying53
 have hu75 := Try.underlying75
 have HR0_1 := Aside0.mk hr0_1
 have HC0_1 := Aside0.mk hc0_1
 clear hr0_1 hc0_1
 have HB := Aside0.mk (Below.refl w.heap.size w)
 have H : ((firstOfAny.f k a0_0 l0_1).bind fun bt345 => (some (bt345.1, bt345.2.1, bt345.2.2))) = some (r1, r2, r3) := h
 clear h
 replace H := Option.bind_eq_some_iff.mp H
 obtain ⟨⟨t345, t348, t351⟩, A20, H⟩ := H
 replace H : (some (t345, t348, t351)) = some (r1, r2, r3) := H
 have A2 := Aside0.mk A20
 clear A20
 simp only [Option.some.injEq, Prod.mk.injEq] at H
 obtain ⟨rfl, rfl, rfl⟩ := H
 go_enter Try.func58, Try.ntmps58
 go_wp2_with (first | ((with_reducible refine gate_dst (N := 1) rfl ?_); refine box_event ?hg (N := 1) ?hd (cs := #[.int .i64 a0_0, .slice A0_1 l0_1.length c0_1]) (t := 53) ?hr ?_; (case hd => rfl); (case hg => rfl); (case hr => first | (go_simp; done) | (go_simp; rfl)); intro gb343 hg w3 hbox hb; have n2_ := Aside0.mk ((by rw [hg]; exact (below_size (zh HB.out)) : w.heap.size ≤ gb343)); replace HB := Aside0.mk (below_step (zh HB.out) hb); have BK343 := Aside0.mk hbox; have GW343 := n2_; have GE343 := n2_; clear n2_ hb hbox hg) | ((with_reducible refine gate_dst (N := 2) rfl ?_); refine box_event ?hg (N := 2) ?hd (cs := #[.slice none 0 0, .slice none 0 0]) (t := 75) ?hr ?_; (case hd => rfl); (case hg => rfl); (case hr => first | (go_simp; done) | (go_simp; rfl)); intro gb344 hg w4 hbox hb; have n0_ := Aside0.mk (blk_below (g := gb343) (o := .cells #[.int .i64 a0_0, .slice A0_1 l0_1.length c0_1] 53 (0, 0)) (zb BK343.out) hb); have n1_ := Aside0.mk (below_step (zh HB.out) hb); have n2_ := Aside0.mk (hbox); have n3_ := Aside0.mk ((by rw [hg]; exact (below_size (zh HB.out)) : w.heap.size ≤ gb344)); have n4_ := Aside0.mk ((by rw [hg]; exact (below_size (zh HB.out)) : w.heap.size ≤ gb344)); have n5_ := Aside0.mk ((by rw [hg]; exact Nat.ne_of_lt (blk_lt (g := gb343) (o := .cells #[.int .i64 a0_0, .slice A0_1 l0_1.length c0_1] 53 (0, 0)) (zb BK343.out)) : gb343 ≠ gb344)); have n6_ := Aside0.mk ((by rw [hg]; exact Nat.ne_of_gt (blk_lt (g := gb343) (o := .cells #[.int .i64 a0_0, .slice A0_1 l0_1.length c0_1] 53 (0, 0)) (zb BK343.out)) : gb344 ≠ gb343)); clear BK343; clear HB; have BK343 := n0_; have HB := n1_; have BK344 := n2_; have GW344 := n3_; have GE344 := n4_; have NB343_344 := n5_; have NB344_343 := n6_; clear n0_ n1_ n2_ n3_ n4_ n5_ n6_; clear hb hbox hg; have hnb5 := NB343_344.out; have hnc5 := NB344_343.out; have hcz6_0 : w4.cell? ⟨gb343, 0, none⟩ = some (.int .i64 a0_0) := (blk_cell BK343.out 0).trans rfl; have hcz6_1 : w4.cell? ⟨gb343, 1, none⟩ = some (.slice A0_1 l0_1.length c0_1) := (blk_cell BK343.out 1).trans rfl; have hfz6_0 := blk_frozen BK343.out 0; have hfz6_1 := blk_frozen BK343.out 1) | ((with_reducible refine gate_callee (f := 77) rfl ?_); refine goesL_ (some 5) rfl rfl Try.func77 (by kernel_rfl) rfl #[.agg #[.int .i64 a0_0, .slice A0_1 l0_1.length c0_1], .func (.func 78) #[] #[]] rfl (by (try simp only [List.map_toArray, List.map_cons, List.map_nil]); first | done | rfl | (simp only [List.length_drop, List.length_take]; rfl)) ?_; (with_reducible refine (firstOfAny.calls k a0_0 _ _ l0_1 t345 t348 t351 _ ?side1 ?side2 A2.out).mono ?_); (case side1 => repeat (first | exact (Kd.C_below HR0_1.out HB.out) | (with_reducible refine Kd.C_alloc ?_ _) | (with_reducible refine Kd.C_drewN ?_ _) | (with_reducible refine Kd.C_drew ?_))); (case side2 => exact HC0_1.out); rintro e w7 ⟨v346, v349, rfl, ow_, ho0, ho1, hb⟩; refine ⟨_, rfl, ?_⟩; have n0_ := Aside0.mk (Kd.S_lower ho0 (below_size (zh HB.out))); have n1_ := Aside0.mk (Kd.S_lower ho1 (below_size (zh HB.out))); have n2_ := Aside0.mk (blk_below (g := gb343) (o := .cells #[.int .i64 a0_0, .slice A0_1 l0_1.length c0_1] 53 (0, 0)) (zb BK343.out) hb); have n3_ := Aside0.mk (blk_below (g := gb344) (o := .cells #[.slice none 0 0, .slice none 0 0] 75 (0, 0)) (zb BK344.out) hb); have n4_ := Aside0.mk (below_step (zh HB.out) hb); clear BK343; clear BK344; clear HB; have HO347 := n0_; have HO350 := n1_; have BK343 := n2_; have BK344 := n3_; have HB := n4_; clear n0_ n1_ n2_ n3_ n4_; (try clear hb); (try clear hb2); (try clear hk); (try clear hi); (try clear ho0); (try clear ho1); obtain ⟨Ao8, co8, eo8⟩ := Kd.S_slice HO347.out; subst eo8; have hcz9_0 : w7.cell? ⟨gb344, 0, none⟩ = some (.slice none 0 0) := (blk_cell BK344.out 0).trans rfl; have hcz9_1 : w7.cell? ⟨gb344, 1, none⟩ = some (.slice none 0 0) := (blk_cell BK344.out 1).trans rfl; have hfz9_0 := blk_frozen BK344.out 0; have hfz9_1 := blk_frozen BK344.out 1; obtain ⟨Ao10, co10, eo10⟩ := Kd.S_slice HO350.out; subst eo10))
 refine bodyPost_ret (results_ct rfl _ _ gb344 75 #[.slice Ao8 t345.length co8, .slice Ao10 t348.length co10] (0, 0) _ rfl (by (with_reducible repeat (first | refine blk_drewN ?_ _ | refine blk_drew ?_ | refine blk_alloc ?_ _)); refine blk_put (cs := #[.slice Ao8 t345.length co8, .slice none 0 0]) ?_ 1 _ rfl; (with_reducible repeat (first | refine blk_drewN ?_ _ | refine blk_drew ?_ | refine blk_alloc ?_ _)); refine blk_put (cs := #[.slice none 0 0, .slice none 0 0]) ?_ 0 _ rfl; (with_reducible repeat (first | refine blk_drewN ?_ _ | refine blk_drew ?_ | refine blk_alloc ?_ _)); exact BK344.out) Try.underlying75 rfl (by kernel_rfl)) rfl ?_
 exact ⟨_, _, by first | rfl | (simp [*, errW_none, errW_some] <;> rfl), ow_, by (with_reducible repeat (first | apply Kd.S_alloc | apply Kd.S_drewN | apply Kd.S_drew)); exact Kd.S_mono (Kd.S_far (p := ⟨gb344, 1, none⟩) (Kd.S_far (p := ⟨gb344, 0, none⟩) (Kd.S_types HO347.out BK344.out (by decide)) (fun _ hk => hk.2) (.slice Ao8 t345.length co8)) (fun _ hk => hk.2) (.slice Ao10 t348.length co10)) (fun _ hk => hk.1), by (with_reducible repeat (first | apply Kd.S_alloc | apply Kd.S_drewN | apply Kd.S_drew)); exact Kd.S_mono (Kd.S_far (p := ⟨gb344, 1, none⟩) (Kd.S_far (p := ⟨gb344, 0, none⟩) (Kd.S_types HO350.out BK344.out (by decide)) (fun _ hk => hk.2) (.slice Ao8 t345.length co8)) (fun _ hk => hk.2) (.slice Ao10 t348.length co10)) (fun _ hk => hk.1), zh HB.out⟩
end Go.Proofs.Ytlhkphehlocdcaa.Q
end
section
namespace Go.Proofs.Ytlhkphehlocdcaa.Q
open Go.RowKit Go.Proofs.YtlhkphehlocdcaaW.PrintWords Go.Proofs.YtlhkphehlocdcaaW.PrintLast Go.Proofs.YtlhkphehlocdcaaW.PrintMore
set_option linter.unusedVariables false
set_option linter.unusedSimpArgs false
def fnd.l : Nat → Int → List Bool → Int → List Int → Int → Option (Int × List Int)
  | 0, _, _, _, _, _ => none
  | k + 1, n, t, q, v, s => if q = 0 then (eachW.f k n t [] s).bind fun r => (match r with
    | some p => fnd.l k n t p.1 p.2 (wrap64 (s + 1))
    | none => fnd.l k n t q v (wrap64 (s + 1))) else some (q, v)
def impl_votes_found.f (k : Nat) (n : Int) (t : List Bool) : Option (Int × List Int × Bool) := (impl_votes_firstTrade.f k n t).bind fun p => if p.2.2 = true then some (0, [], false) else (fnd.l k n t 0 [] 1).bind fun q => some (q.1, q.2, true)
set_option maxHeartbeats 8000000 in
set_option maxRecDepth 100000 in
theorem impl_votes_found.calls (k : Nat) (a0_0 : Int) (A0_1 : Option Addr) (c0_1 : Nat) (l0_1 : List Bool) (r1 : Int) (r2 : List Int) (r3 : Bool) (w : World) (hr0_1 : Kd.C Kd.bool w A0_1 l0_1.length l0_1) (hc0_1 : l0_1.length ≤ c0_1) (h : impl_votes_found.f k a0_0 l0_1 = some (r1, r2, r3)) :
    Calls Try.prog 31 #[.agg #[.int .i64 a0_0, .slice A0_1 l0_1.length c0_1]] w fun e w' => ∃ v1_ : Value, e = .returned (.tuple #[.agg #[.int .i64 r1, v1_], .bool r3]) ∧ Kd.R (Kd.int .i64) 3 w' w.heap.size (fun _ => True) v1_ r2 ∧ Below w.heap.size w w' := by
  have HR := Aside0.mk hr0_1
  have HC := Aside0.mk hc0_1
  have HB := Aside0.mk (Below.refl w.heap.size w)
  have hu1 := Try.underlying26
  have hu2 := Try.underlying53
  have hu3 := Try.underlying75
  rw [impl_votes_found.f] at h
  replace h := Option.bind_eq_some_iff.mp h
  obtain ⟨⟨p1, p2, p3⟩, hp, h⟩ := h
  have HP := Aside0.mk hp
  clear hr0_1 hc0_1 hp
  cases p3 with
  | true =>
    rw [if_pos rfl] at h
    obtain ⟨rfl, rfl, rfl⟩ : 0 = r1 ∧ [] = r2 ∧ false = r3 := by simpa using h
    clear h
    go_enter Try.func31, Try.ntmps31
    go_wp2_with (first
      | ((with_reducible refine gate_dst (N := 1) rfl ?_); refine box_event ?hg (N := 1) ?hd (cs := #[.int .i64 a0_0, .slice A0_1 l0_1.length c0_1]) (t := 53) ?hr ?_; (case hd => rfl); (case hg => rfl); (case hr => first | (go_simp; done) | (go_simp; rfl)); intro g1 hg w1 hbox hb; have B1 := Aside0.mk (below_step HB.out hb); have K1 := Aside0.mk hbox; clear hb hbox hg HB)
      | ((with_reducible refine gate_dst (N := 2) rfl ?_); refine box_event ?hg (N := 2) ?hd (cs := #[.int .i64 0, .slice none 0 0]) (t := 26) ?hr ?_; (case hd => rfl); (case hg => rfl); (case hr => first | (go_simp; done) | (go_simp; rfl)); intro g2 hg w2 hbox hb; have GE2 := Aside0.mk ((by rw [hg]; exact below_size B1.out) : w.heap.size ≤ g2); have K1' := Aside0.mk (blk_below K1.out hb); have B2 := Aside0.mk (below_step B1.out hb); have K2 := Aside0.mk hbox; clear K1 B1 hb hbox hg; have q10 : w2.cell? ⟨g1, 0, none⟩ = some (.int .i64 a0_0) := (blk_cell K1'.out 0).trans rfl; have q11 : w2.cell? ⟨g1, 1, none⟩ = some (.slice A0_1 l0_1.length c0_1) := (blk_cell K1'.out 1).trans rfl)
      | (go_at_call 58; refine (impl_votes_firstTrade.calls k a0_0 A0_1 c0_1 l0_1 p1 p2 true _ (Kd.C_below HR.out B2.out) HC.out HP.out).mono ?_; rintro e w3 ⟨v0, v1, rfl, ow, hz0, hz1, hb⟩; obtain ⟨Az0, cz0, rfl⟩ := Kd.S_slice hz0; obtain ⟨Az1, cz1, rfl⟩ := Kd.S_slice hz1; clear hz0 hz1 ow; have K3 := Aside0.mk (blk_below K2.out hb); have B3 := Aside0.mk (below_step B2.out hb); clear K1' K2 B2 q10 q11; have K3' := Aside0.mk (blk_alloc K3.out (.cells #[.slice Az0 p1.length cz0, .slice Az1 p2.length cz1] 75 (0, 0))); have q20 := (blk_cell K3'.out 0).trans rfl; have q21 := (blk_cell K3'.out 1).trans rfl; have f20 := blk_frozen K3'.out 0; have f21 := blk_frozen K3'.out 1; clear hb))
    refine bodyPost_ret (results_ct rfl _ _ g2 26 #[.int .i64 0, .slice none 0 0] (0, 0) _ rfl (by refine blk_put (cs := #[.int .i64 0, .slice none 0 0]) ?_ 1 _ rfl; refine blk_put (cs := #[.int .i64 0, .slice none 0 0]) ?_ 0 _ rfl; exact K3'.out) Try.underlying26 rfl (by kernel_rfl)) rfl ?_
    exact ⟨_, rfl, Kd.R_nil _ _ _ _ _, below_set (below_set (below_alloc B3.out _) GE2.out) GE2.out⟩
  | false =>
    rw [if_neg (by simp)] at h
    replace h := Option.bind_eq_some_iff.mp h
    obtain ⟨⟨q1, q2⟩, hq, h⟩ := h
    obtain ⟨rfl, rfl, rfl⟩ : q1 = r1 ∧ q2 = r2 ∧ true = r3 := by simpa using h
    have HQ := Aside0.mk hq
    clear h hq
    go_enter Try.func31, Try.ntmps31
    go_wp2_with (first
      | ((with_reducible refine gate_dst (N := 1) rfl ?_); refine box_event ?hg (N := 1) ?hd (cs := #[.int .i64 a0_0, .slice A0_1 l0_1.length c0_1]) (t := 53) ?hr ?_; (case hd => rfl); (case hg => rfl); (case hr => first | (go_simp; done) | (go_simp; rfl)); intro g1 hg w1 hbox hb; have B1 := Aside0.mk (below_step HB.out hb); have K1 := Aside0.mk hbox; clear hb hbox hg HB)
      | ((with_reducible refine gate_dst (N := 2) rfl ?_); refine box_event ?hg (N := 2) ?hd (cs := #[.int .i64 0, .slice none 0 0]) (t := 26) ?hr ?_; (case hd => rfl); (case hg => rfl); (case hr => first | (go_simp; done) | (go_simp; rfl)); intro g2 hg w2 hbox hb; have GE2 := Aside0.mk ((by rw [hg]; exact below_size B1.out) : w.heap.size ≤ g2); have K1' := Aside0.mk (blk_below K1.out hb); have B2 := Aside0.mk (below_step B1.out hb); have K2 := Aside0.mk hbox; clear K1 B1 hb hbox hg; have q10 : w2.cell? ⟨g1, 0, none⟩ = some (.int .i64 a0_0) := (blk_cell K1'.out 0).trans rfl; have q11 : w2.cell? ⟨g1, 1, none⟩ = some (.slice A0_1 l0_1.length c0_1) := (blk_cell K1'.out 1).trans rfl)
      | (go_at_call 58; refine (impl_votes_firstTrade.calls k a0_0 A0_1 c0_1 l0_1 p1 p2 false _ (Kd.C_below HR.out B2.out) HC.out HP.out).mono ?_; rintro e w3 ⟨v0, v1, rfl, ow, hz0, hz1, hb⟩; obtain ⟨Az0, cz0, rfl⟩ := Kd.S_slice hz0; obtain ⟨Az1, cz1, rfl⟩ := Kd.S_slice hz1; clear hz0 hz1 ow; have K1 := Aside0.mk (blk_below K1'.out hb); have K3 := Aside0.mk (blk_below K2.out hb); have B3 := Aside0.mk (below_step B2.out hb); clear K1' K2 B2 q10 q11; clear hb))
    obtain ⟨g6, hg6⟩ : ∃ g6, g6 = w3.heap.size + 1 := ⟨_, rfl⟩
    rw [← hg6]
    have K16 := Aside0.mk (blk_alloc (blk_alloc K1.out (.cells #[.slice Az0 p1.length cz0, .slice Az1 p2.length cz1] 75 (0, 0))) (.cells #[.int .i64 0, .slice none 0 0] 26 (0, 0)))
    have K26 := Aside0.mk (blk_alloc (blk_alloc K3.out (.cells #[.slice Az0 p1.length cz0, .slice Az1 p2.length cz1] 75 (0, 0))) (.cells #[.int .i64 0, .slice none 0 0] 26 (0, 0)))
    have K6 := Aside0.mk (by rw [hg6]; have hs : (w3.alloc (.cells #[.slice Az0 p1.length cz0, .slice Az1 p2.length cz1] 75 (0, 0))).heap.size = w3.heap.size + 1 := by simp
                             rw [← hs]; exact blk_new _ _ : ((w3.alloc (.cells #[.slice Az0 p1.length cz0, .slice Az1 p2.length cz1] 75 (0, 0))).alloc (.cells #[.int .i64 0, .slice none 0 0] 26 (0, 0))).heap[g6]? = some (.cells #[.int .i64 0, .slice none 0 0] 26 (0, 0)))
    have B6 := Aside0.mk (below_alloc (below_alloc B3.out (.cells #[.slice Az0 p1.length cz0, .slice Az1 p2.length cz1] 75 (0, 0))) (.cells #[.int .i64 0, .slice none 0 0] 26 (0, 0)))
    have GE6 := Aside0.mk (by have := below_size B3.out; omega : w.heap.size ≤ g6)
    have NE16 := Aside0.mk (by have := blk_lt K1.out; omega : g1 ≠ g6)
    have NE26 := Aside0.mk (by have := blk_lt K3.out; omega : g2 ≠ g6)
    clear K1 K3 B3 hg6
    go_loopg [7] k (fun kq v7 wr => ∃ (s q : Int) (v : List Int) (vv : Value), v7 = .int .i64 s ∧ Aside0 (fnd.l kq a0_0 l0_1 q v s = some (q1, q2)) ∧ Aside0 (kq ≤ k) ∧ Aside0 (FSt g1 g6 a0_0 A0_1 c0_1 l0_1 w wr #[.int .i64 q, vv]) ∧ Aside0 (Kd.R (Kd.int .i64) 3 wr w.heap.size (fun z => z ≠ g2 ∧ z ≠ g6) vv v) ∧ Aside0 (wr.heap[g2]? = some (.cells #[.int .i64 0, .slice none 0 0] 26 (0, 0))))
    case atStart =>
      exact ⟨1, 0, [], .slice none 0 0, rfl, HQ, ⟨Nat.le_refl _⟩, ⟨⟨K16.out, K6.out, B6.out⟩⟩, ⟨Kd.R_nil _ _ _ _ _⟩, K26⟩
    case round =>
      clear HQ K16 K26 B6 K6
      obtain ⟨s, q, v, vv, rfl, HA, HKq, HS, HV, HG⟩ := hrel
      cases gk with
      | zero => exact absurd HA.out (by simp [fnd.l])
      | succ k2 =>
        have h := HA.out
        clear HA
        rw [fnd.l] at h
        have q60 : wr.cell? ⟨g6, 0, none⟩ = some (.int .i64 q) := (blk_cell HS.out.O 0).trans rfl
        by_cases c1 : q = 0
        · rw [if_pos c1] at h
          have c1b : (q == 0) = true := beq_iff_eq.2 c1
          replace h := Option.bind_eq_some_iff.mp h
          obtain ⟨r, hr, h⟩ := h
          have HX := Aside0.mk h
          have hq := eachW.calls a0_0 A0_1 c0_1 l0_1 HC.out g1 g6 NE16.out w HR.out GE6.out q vv k2 none 0 [] s r wr (Nat.le_refl _) HS.out (fun W _ => Kd.C_nil _ _) hr
          rw [List.length_nil] at hq
          have HE := Aside0.mk hq
          have q10 : wr.cell? ⟨g1, 0, none⟩ = some (.int .i64 a0_0) := (blk_cell HS.out.V 0).trans rfl
          clear hr h c1 hq
          go_wp2_with (go_at_call 59; refine HE.out.mono ?_; rintro e w7 ⟨rfl, hK, hS⟩; have HS7 := Aside0.mk hS; have HK7 := Aside0.mk hK; clear hS hK q60 q10)
          go_roundg k2
          case measure => have := HKq.out; omega
          case rel =>
            have hx := HX.out
            have hs := HS7.out
            have hg := blk_kept HG.out HK7.out (fun e => NE26.out e)
            cases r with
            | none => exact ⟨wrap64 (s + 1), q, v, vv, by first | rfl | (simp; done) | (simp [*]; done), ⟨hx⟩, ⟨by have := HKq.out; omega⟩, ⟨hs⟩, ⟨Kd.R_kept HV.out HK7.out (fun z hz he => hz.2 he)⟩, ⟨hg⟩⟩
            | some p =>
              obtain ⟨v3, h3, h4⟩ := hs
              have l2 := blk_lt HG.out
              have l6 := blk_lt HS.out.O
              exact ⟨wrap64 (s + 1), p.1, p.2, v3, by first | rfl | (simp; done) | (simp [*]; done), ⟨hx⟩, ⟨by have := HKq.out; omega⟩, ⟨h3⟩, ⟨Kd.R_mono h4 (fun z hz => ⟨by omega, by omega⟩)⟩, ⟨hg⟩⟩
        · rw [if_neg c1] at h
          have c1b : (q == 0) = false := beq_eq_false_iff_ne.2 c1
          obtain ⟨rfl, rfl⟩ : q = q1 ∧ v = q2 := by simpa using h
          clear h c1
          obtain ⟨Av, cv, rfl⟩ := Kd.R_slice HV.out
          have q61 : wr.cell? ⟨g6, 1, none⟩ = some (.slice Av v.length cv) := (blk_cell HS.out.O 1).trans rfl
          have q20 : wr.cell? ⟨g2, 0, none⟩ = some (.int .i64 0) := (blk_cell HG.out 0).trans rfl
          have q21 : wr.cell? ⟨g2, 1, none⟩ = some (.slice none 0 0) := (blk_cell HG.out 1).trans rfl
          have f20 := blk_frozen HG.out 0
          have f21 := blk_frozen HG.out 1
          go_wp2
          refine bodyPost_ret (results_ct rfl _ _ g2 26 #[.int .i64 q, .slice Av v.length cv] (0, 0) _ rfl (by refine blk_put (cs := #[.int .i64 q, .slice none 0 0]) ?_ 1 _ rfl; refine blk_put (cs := #[.int .i64 0, .slice none 0 0]) ?_ 0 _ rfl; exact HG.out) Try.underlying26 rfl (by kernel_rfl)) rfl ?_
          exact ⟨_, rfl, Kd.R_mono (Kd.R_far (p := ⟨g2, 1, none⟩) (Kd.R_far (p := ⟨g2, 0, none⟩) HV.out (fun _ hk => hk.1) _) (fun _ hk => hk.1) _) (fun _ _ => trivial), below_set (below_set HS.out.B GE2.out) GE2.out⟩
set_option maxHeartbeats 1000000 in
theorem indexFunc_ints (p : List Int → Option Bool) (g : Nat) (lb : Array Value) (eg : ∀ args w, (callFunc g args).run Try.prog w = .ok (.enter g args) w)
    (A0 : Option Addr) (c0 : Nat) (l0 : List (List Int)) (r : Int) (w : World) (hr0 : Kd.C (Kd.slice 3 (Kd.int .i64)) w A0 l0.length l0) (hc0 : l0.length ≤ c0)
    (hp : PredK Try.prog g lb (Kd.slice 3 (Kd.int .i64)) (fun c => c.getD 0 undef) w p) (h : idxO p l0 0 = some r) :
    Calls Try.prog 105 #[.slice A0 l0.length c0, .func (.func g) #[] lb] w fun e w' => e = .returned (.int .i64 r) ∧ Below w.heap.size w w' := by
  have hlen := hr0.2.1
  have HR0 := Aside0.mk hr0
  clear hr0
  have HP := Aside0.mk hp
  clear hp
  have H0 := Aside0.mk h
  clear h
  go_enter Try.func105, Try.ntmps105
  go_wp2
  go_loopg [5, 8] l0.length (fun gg _ s8 wr => ∃ kk : Nat, kk ≤ l0.length ∧ l0.length - kk ≤ gg ∧ s8 = .int .i64 kk ∧ Aside0 (Below w.heap.size w wr) ∧ Aside0 (idxO p (l0.drop kk) kk = some r))
  case atStart => exact ⟨0, Nat.zero_le _, by omega, rfl, ⟨Below.refl _ w⟩, H0⟩
  case round =>
    obtain ⟨kk, hkk, hg, rfl, BW, A⟩ := hrel
    by_cases hlt : kk < l0.length
    · have hltz : (kk : Int) < (l0.length : Int) := by omega
      obtain ⟨ad, c, e, _, hK, hcell⟩ := Kd.C_get HR0.out ([] : List Int) (kk : Int) (by omega) hltz
      subst e
      rw [Int.toNat_natCast] at hK hcell
      have hKK := hK
      obtain ⟨A1, c1, rfl, hl1, hk1⟩ := hKK
      have l2 := (BW.out.cell (World.block_lt_of_cell? w _ (hcell 0 _ rfl))).trans (hcell 0 _ rfl)
      clear hcell
      obtain ⟨b, hb, h1, h2⟩ := idxO_step A.out (show l0[kk]? = some (l0.getD kk []) by rw [List.getD_eq_getElem?_getD, List.getElem?_eq_getElem hlt]; rfl)
      have hcall := HP.out wr _ _ b BW.out hK hb
      have l3 : wr.cell? (ad.add kk) = some (.slice A1 (l0.getD kk []).length c1) := by simpa [show (Kd.slice 3 (Kd.int .i64)).sz = 1 from rfl] using l2
      clear l2 hK hk1
      generalize l0.getD kk [] = y at l3 hcall hb hl1
      have B := Aside0.mk hb
      clear hb
      cases b with
      | true =>
        have E := h1 rfl
        clear h1 h2
        have E' := Aside0.mk E
        clear E
        go_wp2_with (go_at_fn g; refine hcall.mono ?_; rintro e w' ⟨rfl, hb'⟩)
        go_ret
        exact ⟨ret_i E'.out.symm, hb'⟩
      | false =>
        have E := Aside0.mk (h2 rfl)
        clear h1 h2
        go_wp2_with (go_at_fn g; refine hcall.mono ?_; rintro e w' ⟨rfl, hb'⟩)
        go_roundg (l0.length - (kk + 1))
        case measure => omega
        case rel => exact ⟨kk + 1, by omega, by omega, by go_num, ⟨hb'⟩, E⟩
    · have hltz : ¬ (kk : Int) < (l0.length : Int) := by omega
      have : kk = l0.length := by omega
      subst this
      go_wp2
      go_ret
      refine ⟨?_, BW.out⟩
      have h3 := A.out
      rw [List.drop_length] at h3
      have h4 : (-1 : Int) = r := by simpa [idxO] using h3
      exact ret_i h4
set_option maxHeartbeats 1000000 in
theorem containsFunc_ints (p : List Int → Option Bool) (g : Nat) (lb : Array Value) (eg : ∀ args w, (callFunc g args).run Try.prog w = .ok (.enter g args) w)
    (A0 : Option Addr) (c0 : Nat) (l0 : List (List Int)) (r : Bool) (w : World) (hr0 : Kd.C (Kd.slice 3 (Kd.int .i64)) w A0 l0.length l0) (hc0 : l0.length ≤ c0)
    (hp : PredK Try.prog g lb (Kd.slice 3 (Kd.int .i64)) (fun c => c.getD 0 undef) w p) (h : anyO p l0 = some r) :
    Calls Try.prog 96 #[.slice A0 l0.length c0, .func (.func g) #[] lb] w fun e w' => e = .returned (.bool r) ∧ Below w.heap.size w w' := by
  obtain ⟨i, hi, rfl⟩ := anyO_idxO p l0 0 r h
  have hcon := indexFunc_ints p g lb eg A0 c0 l0 i w hr0 hc0 hp hi
  clear hr0 hp h hi
  go_enter Try.func96, Try.ntmps96
  go_wp2_with (go_at_call 105; refine hcon.mono ?_; rintro e w' ⟨rfl, hb'⟩)
  go_ret
  exact ⟨rfl, hb'⟩
def impl_areSets_1.f (k : Nat) (n : Int) (l : List Int) : Option Bool := if (l.length : Int) = 0 then some true else (impl_isSet.f k l n).bind fun b => some (!b)
set_option maxHeartbeats 1000000 in
theorem impl_areSets_1.pred (k : Nat) (n : Int) (b1 : Nat) (w : World) (h1 : w.cell? ⟨b1, 0, none⟩ = some (.int .i64 n)) :
    PredK Try.prog 97 #[.pointer (some ⟨b1, 0, none⟩)] (Kd.slice 3 (Kd.int .i64)) (fun c => c.getD 0 undef) w (impl_areSets_1.f k n) := by
  intro W x c b hb hK hp
  obtain ⟨A1, c1, rfl, hl1, hk1⟩ := hK
  show Calls Try.prog 97 #[.slice A1 x.length c1, .pointer (some ⟨b1, 0, none⟩)] W _
  have hk2 : Kd.C (Kd.int .i64) W A1 x.length x := Kd.C_below hk1 hb
  have q1 := (hb.cell (World.block_lt_of_cell? w _ h1)).trans h1
  have hB := Aside0.mk hb
  have hC := Aside0.mk hk2
  have hL := Aside0.mk hl1
  unfold impl_areSets_1.f at hp
  clear h1 hb hk1 hk2 hl1
  by_cases h0 : (x.length : Int) = 0
  · rw [if_pos h0] at hp
    have hr' := Option.some.inj hp
    have hE := Aside0.mk hr'
    clear hp hr'
    have h0b : ((x.length : Int) == 0) = true := by simpa using h0
    go_enter Try.func97, Try.ntmps97
    go_wp2
    go_ret
    exact ⟨ret_b hE.out, hB.out⟩
  · rw [if_neg h0] at hp
    obtain ⟨t, ht, hr⟩ := Option.bind_eq_some_iff.mp hp
    have hr' : (!t) = b := Option.some.inj hr
    have hT := Aside0.mk ht
    have hE := Aside0.mk hr'
    clear hp ht hr hr'
    have h0b : ((x.length : Int) == 0) = false := by simpa using h0
    go_enter Try.func97, Try.ntmps97
    go_wp2_with (go_at_call 98; refine (impl_isSet.calls _ _ _ _ _ _ _ hC.out hL.out hT.out).mono ?_; rintro e w' ⟨rfl, hb'⟩)
    go_ret
    exact ⟨ret_b hE.out, hB.out.trans (hb'.mono hB.out.size)⟩
def impl_areSets.f (k : Nat) (l0 : List (List Int)) (a1 : Int) : Option Bool := (anyO (impl_areSets_1.f k a1) l0).bind fun b => some (!b)
set_option maxHeartbeats 1000000 in
theorem impl_areSets.calls (k : Nat) (A0 : Option Addr) (c0 : Nat) (l0 : List (List Int)) (a1 : Int) (r : Bool) (w : World) (hr0 : Kd.C (Kd.slice 3 (Kd.int .i64)) w A0 l0.length l0) (hc0 : l0.length ≤ c0) (h : impl_areSets.f k l0 a1 = some r) :
    Calls Try.prog 83 #[.slice A0 l0.length c0, .int .i64 a1] w fun e w' => e = .returned (.bool r) ∧ Below w.heap.size w w' := by
  have eg : ∀ args w, (callFunc 97 args).run Try.prog w = .ok (.enter 97 args) w := enters_of Try.func97 (by kernel_rfl) rfl
  obtain ⟨t, ht, hr⟩ := Option.bind_eq_some_iff.mp h
  have hE := Aside0.mk (show (!t) = r from Option.some.inj hr)
  have hT := Aside0.mk ht
  have HR := Aside0.mk hr0
  clear h hr ht hr0
  go_enter Try.func83, Try.ntmps83
  go_wp2_with fail
  refine (containsFunc_ints (impl_areSets_1.f k a1) 97 #[.pointer (some ⟨w.heap.size, 0, none⟩)] eg A0 c0 l0 t _ ?_ hc0 ?_ hT.out).mono ?_
  · exact Kd.C_below HR.out ((Below.refl _ w).alloc (Nat.le_refl _) _)
  · exact impl_areSets_1.pred k a1 _ _ (by go_simp)
  · rintro e w' ⟨rfl, hb⟩
    go_wp2
    go_ret
    exact ⟨ret_b hE.out, ((Below.refl _ w).alloc (Nat.le_refl _) _).trans (hb.mono (by simp))⟩
end Go.Proofs.Ytlhkphehlocdcaa.Q
end

/- Part 5 of the proof of FnExactNeedlessClues: what it leans on (no condition). -/
import Derived.Test.YtgjakcpbfbfejaaGreatKFnExactNeedlessClues4
import Derived.Shelf.SlSortCmp.WholeK
section
namespace Go.Proofs.YtgjakcpbfbfejaaGreat.Q
open Go.RowKit Go.Proofs.YtgjakcpbfbfejaaGreatW.PrintWords Go.Proofs.YtgjakcpbfbfejaaGreatW.PrintLast Go.Proofs.YtgjakcpbfbfejaaGreatW.PrintMore
attribute [local go_sem] max2_int min2_int max_two min_two max_three min_three max_four min_four
set_option linter.unusedVariables false
set_option linter.unusedSimpArgs false
def impl_votesBy.l0 : Nat → Int → List (List Int) → Int → Int → List Int → Option (Int × List Bool)
 | 0, _, _, _, _, _ => none
 | k + 1, x0, x9, x10, x11, x295000 => if x11 < x10 then (if 0 ≤ x11 then (if x11 < (x9.length : Int) then ((impl_maskOf.f k (rd_L4 x9 x11)).bind fun t296 => (if x295000.length < 17592186044416 then (impl_votesBy.l0 k x0 x9 x10 (wrap64 (x11 + 1)) (x295000 ++ [t296])) else (none))) else (none)) else (none)) else ((votesOf_votesBy.f k x0 x295000).bind fun bt300 => (some (bt300.1, bt300.2)))
def impl_votesBy.f (k : Nat) (a0 : Int) (l1 : List (List Int)) : Option (Int × List Bool) := impl_votesBy.l0 k a0 l1 (l1.length : Int) 0 (([] : List Int))
set_option maxHeartbeats 8000000 in
set_option maxRecDepth 100000 in
theorem impl_votesBy.calls (k : Nat) (a0 : Int) (A1 : Option Addr) (c1 : Nat) (l1 : List (List Int)) (r1 : Int) (r2 : List Bool) (w : World) (hr1 : Kd.C (Kd.slice 3 (Kd.int .i64)) w A1 l1.length l1) (hc1 : l1.length ≤ c1) (h : impl_votesBy.f k a0 l1 = some (r1, r2)) :
  Calls Tryz.prog 107 #[.int .i64 a0, .slice A1 l1.length c1] w fun e w' => ∃ v1_ : Value, e = .returned (.agg #[.int .i64 r1, v1_]) ∧ Kd.R Kd.bool 4 w' w.heap.size (fun _ => True) v1_ r2 ∧ Below w.heap.size w w' := by
 have hu86 := Tryz.underlying86
 have HR1 := Aside0.mk hr1
 have HC1 := Aside0.mk hc1
 clear hr1 hc1
 have HB := Aside0.mk (Below.refl w.heap.size w)
 have H : (impl_votesBy.l0 k a0 l1 (l1.length : Int) 0 (([] : List Int))) = some (r1, r2) := h
 clear h
 obtain ⟨y291, hy291⟩ : ∃ y_ : List Int, y_ = (([] : List Int)) := ⟨_, rfl⟩
 replace H : (impl_votesBy.l0 k a0 l1 (l1.length : Int) 0 y291) = some (r1, r2) := by first | (rw [hy291]; with_reducible exact H) | (have H2_ := (Option.bind_some _ _).symm.trans H; rw [hy291]; with_reducible exact H2_) | (have H2_ := (Option.bind_some _ _).symm.trans H; with_reducible exact H2_) | with_reducible exact H | (rw [hy291]; exact H) | exact H
 have Ny291 := Aside0.mk hy291
 clear hy291
 have H' := Aside0.mk H
 clear H
 go_enter Tryz.func107, Tryz.ntmps107
 go_wp2_with (first | ((with_reducible refine gate_dst (N := 4) rfl ?_); refine box_event ?hg (N := 4) ?hd (cs := #[.int .i64 0, .slice none 0 0]) (t := 86) ?hr ?_; (case hd => rfl); (case hg => rfl); (case hr => first | (go_simp; done) | (go_simp; rfl)); intro gb290 hg w3 hbox hb; have n2_ := Aside0.mk ((by rw [hg]; exact (below_size (zh HB.out)) : w.heap.size ≤ gb290)); replace HB := Aside0.mk (below_step (zh HB.out) hb); have BK290 := Aside0.mk hbox; have GW290 := n2_; have GE290 := n2_; clear n2_ hb hbox hg) | ((with_reducible refine gate_dst (N := 8) rfl ?_); refine Kd.R_lit (Kd.int .i64) _ 3 ?hg (N := 8) ?hd (xs := ([] : List Int)) (inner := []) (ok := fun _ => True) (okp := fun _ => True) ?hr ?hp (fun _ hk => hk) trivial (Below.refl _ _) (Nat.le_refl _) (by simp) ?_; (case hd => rfl); (case hg => rfl); (case hr => first | (go_simp; done) | (go_simp; rfl)); (case hp => exact (Reps.none _ _)); intro v292 w4 ho5 hb hg_ hnew_; clear hg_ hnew_; (first | rw [← Ny291.out] at ho5 | (simp only [Int.reduceToNat] at ho5; rw [← Ny291.out] at ho5)); have n0_ := Aside0.mk (Kd.R_lower ho5 (below_size (zh HB.out))); have n1_ := Aside0.mk (blk_below (g := gb290) (o := .cells #[.int .i64 0, .slice none 0 0] 86 (0, 0)) (zb BK290.out) hb); have n2_ := Aside0.mk (below_step (zh HB.out) hb); clear BK290; clear HB; have HO293 := n0_; have BK290 := n1_; have HB := n2_; clear n0_ n1_ n2_; clear hb ho5) | ((with_reducible refine gate_dst (N := 5) rfl ?_); refine box_event ?hg (N := 5) ?hd (cs := #[.slice none 0 0]) (t := 36) ?hr ?_; (case hd => rfl); (case hg => rfl); (case hr => first | (go_simp; done) | (go_simp; rfl)); intro gb294 hg w6 hbox hb; have n0_ := Aside0.mk (Kd.R_below (zr HO293.out) hb); have n1_ := Aside0.mk (blk_below (g := gb290) (o := .cells #[.int .i64 0, .slice none 0 0] 86 (0, 0)) (zb BK290.out) hb); have n2_ := Aside0.mk (below_step (zh HB.out) hb); have n3_ := Aside0.mk (hbox); have n4_ := Aside0.mk ((by rw [hg]; exact (below_size (zh HB.out)) : w.heap.size ≤ gb294)); have n5_ := Aside0.mk ((by rw [hg]; exact (below_size (zh HB.out)) : w.heap.size ≤ gb294)); have n6_ := Aside0.mk ((by rw [hg]; exact Nat.ne_of_lt (blk_lt (g := gb290) (o := .cells #[.int .i64 0, .slice none 0 0] 86 (0, 0)) (zb BK290.out)) : gb290 ≠ gb294)); have n7_ := Aside0.mk ((by rw [hg]; exact Nat.ne_of_gt (blk_lt (g := gb290) (o := .cells #[.int .i64 0, .slice none 0 0] 86 (0, 0)) (zb BK290.out)) : gb294 ≠ gb290)); clear HO293; clear BK290; clear HB; have HO293 := n0_; have BK290 := n1_; have HB := n2_; have BK294 := n3_; have GW294 := n4_; have GE294 := n5_; have NB290_294 := n6_; have NB294_290 := n7_; clear n0_ n1_ n2_ n3_ n4_ n5_ n6_ n7_; clear hb hbox hg; obtain ⟨Ao7, co7, eo7⟩ := Kd.R_slice HO293.out; subst eo7; have hnb8 := NB294_290.out; have hnc8 := NB290_294.out; have hcz9_0 : w6.cell? ⟨gb294, 0, none⟩ = some (.slice none 0 0) := (blk_cell BK294.out 0).trans rfl; have hfz9_0 := blk_frozen BK294.out 0))
 go_loopg [11] k (fun kq v11 w' => ∃ (x11_1 : Int) (x295000_1 : List Int) (u295000 : Value), v11 = .int .i64 x11_1 ∧ Aside0 (impl_votesBy.l0 kq a0 l1 (l1.length : Int) x11_1 x295000_1 = some (r1, r2)) ∧ Aside0 (kq ≤ k) ∧ Aside0 (Kd.R (Kd.int .i64) 3 w' w.heap.size (fun _ => True) u295000 x295000_1) ∧ Aside0 (w'.heap[gb290]? = some (.cells #[.int .i64 0, (.slice none 0 0)] 86 (0, 0))) ∧ Aside0 (w'.heap[gb294]? = some (.cells #[u295000] 36 (0, 0))) ∧ Aside0 (Below w.heap.size w w'))
 case atStart => exact ⟨(0), (y291), (.slice Ao7 y291.length co7), (by first | rfl | (simp; done) | (simp [*]; done)), H', ⟨Nat.le_refl _⟩, ⟨by (with_reducible repeat (first | apply Kd.R_alloc | apply Kd.R_drewN | apply Kd.R_drew)); exact Kd.R_mono (Kd.R_far (p := ⟨gb294, 0, none⟩) (Kd.R_types HO293.out BK294.out (by decide)) (fun _ hk => hk.2) (.slice Ao7 y291.length co7)) (fun _ hk => trivial)⟩, ⟨by (with_reducible repeat (first | refine blk_drewN ?_ _ | refine blk_drew ?_ | refine blk_alloc ?_ _)); refine blk_far ?_ NB290_294.out _; (with_reducible repeat (first | refine blk_drewN ?_ _ | refine blk_drew ?_ | refine blk_alloc ?_ _)); exact BK290.out⟩, ⟨by (with_reducible repeat (first | refine blk_drewN ?_ _ | refine blk_drew ?_ | refine blk_alloc ?_ _)); refine blk_put (cs := #[.slice none 0 0]) ?_ 0 _ rfl; (with_reducible repeat (first | refine blk_drewN ?_ _ | refine blk_drew ?_ | refine blk_alloc ?_ _)); exact BK294.out⟩, ⟨zh HB.out⟩⟩
 case round =>
  clear H'
  try clear c1
  try clear p2
  try clear c8
  try clear hcz9_0
  try clear hfz9_0
  obtain ⟨x11_1, x295000_1, u295000, rfl, HA, HK1, HO_295000, BK290, BK294, HB⟩ := hrel
  cases gk with
  | zero => exact absurd HA.out (by simp [impl_votesBy.l0])
  | succ k1 =>
   have H := HA.out
   clear HA
   simp only [impl_votesBy.l0] at H
   by_cases c10 : x11_1 < (l1.length : Int)
   rotate_left
   ·rw [if_neg c10] at H
    have c10b0 : decide (x11_1 < (l1.length : Int)) = false := decide_eq_false c10
    clear c10
    replace H := Option.bind_eq_some_iff.mp H
    obtain ⟨⟨t300, t301⟩, A190, H⟩ := H
    replace H : (some (t300, t301)) = some (r1, r2) := H
    have A19 := Aside0.mk A190
    clear A190
    simp only [Option.some.injEq, Prod.mk.injEq] at H
    obtain ⟨rfl, rfl⟩ := H
    obtain ⟨Ao20, co20, eo20⟩ := Kd.R_slice HO_295000.out
    subst eo20
    go_wp2_with (first | ((with_reducible refine gate_callee (f := 100) rfl ?_); refine goesL_ (some 23) rfl rfl Tryz.func100 (by kernel_rfl) rfl #[.int .i64 a0, .func (.func 125) #[] #[.pointer (some ⟨gb294, 0, none⟩)]] rfl (by (try simp only [List.map_toArray, List.map_cons, List.map_nil]); first | done | rfl | (simp only [List.length_drop, List.length_take]; rfl)) ?_; (with_reducible refine (votesOf_votesBy.calls k1 a0 _ _ x295000_1 t300 t301 _ ?side1 ?side2 gb294 (by first | exact (blk_cell (zb BK294.out) 0).trans rfl | exact (blk_cell (blk_put (zb BK294.out) 0 _ rfl) 0).trans rfl | exact zb BK294.out) A19.out).mono ?_); (case side1 => repeat (first | exact (Kd.R_reads' HO_295000.out).2.2 | (with_reducible refine Kd.C_alloc ?_ _) | (with_reducible refine Kd.C_drewN ?_ _) | (with_reducible refine Kd.C_drew ?_))); (case side2 => exact (Kd.R_reads' HO_295000.out).2.1); rintro e w21 ⟨v302, rfl, ho0, hb⟩; refine ⟨_, rfl, ?_⟩; have n0_ := Aside0.mk (Kd.R_below (zr HO_295000.out) hb); have n1_ := Aside0.mk (Kd.R_lower ho0 (below_size (zh HB.out))); have n2_ := Aside0.mk (blk_below (g := gb290) (o := .cells #[.int .i64 0, .slice none 0 0] 86 (0, 0)) (zb BK290.out) hb); have n3_ := Aside0.mk (blk_below (g := gb294) (o := .cells #[.slice Ao20 x295000_1.length co20] 36 (0, 0)) (zb BK294.out) hb); have n4_ := Aside0.mk (below_step (zh HB.out) hb); clear HO_295000; clear BK290; clear BK294; clear HB; have HO_295000 := n0_; have HO303 := n1_; have BK290 := n2_; have BK294 := n3_; have HB := n4_; clear n0_ n1_ n2_ n3_ n4_; (try clear hb); (try clear hb2); (try clear hk); (try clear hi); (try clear ho0); have hnb22 := NB290_294.out; have hnc22 := NB294_290.out; have hcz23_0 : w21.cell? ⟨gb290, 0, none⟩ = some (.int .i64 0) := (blk_cell BK290.out 0).trans rfl; have hcz23_1 : w21.cell? ⟨gb290, 1, none⟩ = some (.slice none 0 0) := (blk_cell BK290.out 1).trans rfl; have hfz23_0 := blk_frozen BK290.out 0; have hfz23_1 := blk_frozen BK290.out 1; obtain ⟨Ao24, co24, eo24⟩ := Kd.R_slice HO303.out; subst eo24))
    refine bodyPost_ret (results_cell_row rfl _ _ gb290 86 #[.int .i64 t300, .slice Ao24 t301.length co24] (0, 0) _ rfl (by (with_reducible repeat (first | refine blk_drewN ?_ _ | refine blk_drew ?_ | refine blk_alloc ?_ _)); refine blk_put (cs := #[.int .i64 t300, .slice none 0 0]) ?_ 1 _ rfl; (with_reducible repeat (first | refine blk_drewN ?_ _ | refine blk_drew ?_ | refine blk_alloc ?_ _)); refine blk_put (cs := #[.int .i64 0, .slice none 0 0]) ?_ 0 _ rfl; (with_reducible repeat (first | refine blk_drewN ?_ _ | refine blk_drew ?_ | refine blk_alloc ?_ _)); exact BK290.out) Tryz.underlying86 rfl (by kernel_rfl)) rfl ?_
    exact ⟨_, by first | rfl | (simp [*, errW_none, errW_some] <;> rfl), by (with_reducible repeat (first | apply Kd.R_alloc | apply Kd.R_drewN | apply Kd.R_drew)); exact Kd.R_mono (Kd.R_far (p := ⟨gb290, 1, none⟩) (Kd.R_far (p := ⟨gb290, 0, none⟩) (Kd.R_types HO303.out BK290.out (by decide)) (fun _ hk => hk.2) (.int .i64 t300)) (fun _ hk => hk.2) (.slice Ao24 t301.length co24)) (fun _ hk => trivial), zh HB.out⟩
   rw [if_pos c10] at H
   have c10b0 : decide (x11_1 < (l1.length : Int)) = true := decide_eq_true c10
   clear c10
   by_cases c11 : 0 ≤ x11_1
   rotate_left
   ·rw [if_neg c11] at H
    exact absurd H (by simp)
   rw [if_pos c11] at H
   have c11b0 : decide (0 ≤ x11_1) = true := decide_eq_true c11
   clear c11
   by_cases c12 : x11_1 < (l1.length : Int)
   rotate_left
   ·rw [if_neg c12] at H
    exact absurd H (by simp)
   rw [if_pos c12] at H
   have c12b0 : decide (x11_1 < (l1.length : Int)) = true := decide_eq_true c12
   clear c12
   replace H := Option.bind_eq_some_iff.mp H
   obtain ⟨t296, A130, H⟩ := H
   replace H : (if x295000_1.length < 17592186044416 then (impl_votesBy.l0 k1 a0 l1 (l1.length : Int) (wrap64 (x11_1 + 1)) (x295000_1 ++ [t296])) else (none)) = some (r1, r2) := H
   have A13 := Aside0.mk A130
   clear A130
   by_cases c14 : x295000_1.length < 17592186044416
   rotate_left
   ·rw [if_neg c14] at H
    exact absurd H (by simp)
   rw [if_pos c14] at H
   have LMc14 := Aside0.mk c14
   clear c14
   obtain ⟨y297, hy297⟩ : ∃ y_ : List Int, y_ = (x295000_1 ++ [t296]) := ⟨_, rfl⟩
   replace H : (impl_votesBy.l0 k1 a0 l1 (l1.length : Int) (wrap64 (x11_1 + 1)) y297) = some (r1, r2) := by first | (rw [hy297]; with_reducible exact H) | (have H2_ := (Option.bind_some _ _).symm.trans H; rw [hy297]; with_reducible exact H2_) | (have H2_ := (Option.bind_some _ _).symm.trans H; with_reducible exact H2_) | with_reducible exact H | (rw [hy297]; exact H) | exact H
   have Ny297 := Aside0.mk hy297
   clear hy297
   have H' := Aside0.mk H
   clear H
   have p295 : 0 ≤ (x11_1 : Int) := of_decide_eq_true (by first | (with_reducible assumption) | assumption)
   have q295 : x11_1 < (l1.length : Int) := of_decide_eq_true (by first | (with_reducible assumption) | assumption)
   obtain ⟨ad295, A295_0, c295_0, e295, hx295_0, hl295_0, hi295_0⟩ := at_L4 HR1.out x11_1 p295 q295
   cases e295
   replace hx295_0 := (HB.out.cell (World.block_lt_of_cell? w _ hx295_0)).trans hx295_0
   have HR295_0 := Aside0.mk hi295_0
   have HC295_0 := Aside0.mk hl295_0
   clear hi295_0 hl295_0
   replace p295 := eq_true p295
   replace q295 := eq_true q295
   try go_wp2
   have n0_ := Aside0.mk (Kd.R_drew HO_295000.out)
   have n1_ := Aside0.mk (blk_drew BK290.out)
   have n2_ := Aside0.mk (blk_drew BK294.out)
   have n3_ := Aside0.mk (below_drew1 HB.out)
   clear HO_295000
   clear BK290
   clear BK294
   clear HB
   have HO_295000 := n0_
   have BK290 := n1_
   have BK294 := n2_
   have HB := n3_
   clear n0_ n1_ n2_ n3_
   refine start_ (n := 6) (S := fun w' => w'.cell? ⟨gb294, 0, none⟩ = some (u295000)) (ds := [5]) (tb 6 0) (by kernel_rfl) rfl rfl ((blk_cell BK294.out 0).trans rfl) (fun hHeld => ?_)
   generalize wr.drew = w15 at HO_295000 BK290 BK294 HB hHeld ⊢
   refine pure_ (i := 1) (N := some 16) (v := ?_) (a' := ?_) (tb 6 2) rfl rfl (by kernel_rfl) (fun _ _ _ h => h) (Or.inl ⟨by rfl, ?_⟩) ?_ ?_
   rotate_left
   ·intro w'
    go_simp
    with_reducible rfl
   rotate_left
   ·simp only [Act.put, List.setIfInBounds_toArray, List.set_cons_zero, List.set_cons_succ, i64_w, i32_w]
    rfl
   refine take_ (i := 0) (N := some 15) (v := ?_) (a' := ?_) (tb 6 3) rfl rfl (by kernel_rfl) (fun _ _ _ h => h) (Or.inl ⟨by rfl, ?_⟩) hHeld ?_ ?_
   rotate_left
   ·intro w' s0
    go_simp
    with_reducible rfl
   rotate_left
   ·simp only [Act.put, List.setIfInBounds_toArray, List.set_cons_zero, List.set_cons_succ, i64_w, i32_w]
    rfl
   refine one_ (i := 2) (N := some 17) (tb 6 7) rfl rfl (by kernel_rfl) (by decide) (fun K hK => ?_)
   refine goes_ Tryz.func124 (by kernel_rfl) rfl #[.slice A295_0 (rd_L4 l1 x11_1).length c295_0] (by rfl) rfl rfl (by (try simp only [List.map_toArray, List.map_cons, List.map_nil]); first | done | rfl | (simp only [List.length_drop, List.length_take]; rfl)) ?_
   with_reducible refine (impl_maskOf.calls k1 _ _ (rd_L4 l1 x11_1) t296 _ ?side1 ?side2 A13.out).mono ?_
   (case side1 => repeat (first | exact (Kd.C_below HR295_0.out HB.out) | (with_reducible refine Kd.C_alloc ?_ _) | (with_reducible refine Kd.C_drewN ?_ _) | (with_reducible refine Kd.C_drew ?_)))
   (case side2 => exact HC295_0.out)
   rintro e w' ⟨rfl, ⟨nd, rfl⟩⟩
   refine ⟨_, rfl, ?_⟩
   refine hK.out _ _ ((blk_cell BK294.out 0).trans rfl) (fun hHeld => ?_)
   clear hK K
   refine norm_ (a' := ?_) ?_ ?_
   rotate_left
   ·show Act.put _ (some 17) _ = _
    simp only [Act.put, List.setIfInBounds_toArray, List.set_cons_zero, List.set_cons_succ, i64_w, i32_w]
    rfl
   refine one_ (i := 3) (N := some 18) (tb 6 15) rfl rfl (by kernel_rfl) (by decide) (fun K hK => ?_)
   refine value_ (w1 := ?_) (v := ?_) (by rfl) rfl ?_ ?_
   rotate_left 2
   ·go_simp
    constructor
    ·rfl
    ·rfl
   refine hK.out _ _ ((blk_cell (blk_alloc BK294.out _) 0).trans rfl) (fun hHeld => ?_)
   clear hK K
   refine norm_ (a' := ?_) ?_ ?_
   rotate_left
   ·show Act.put _ (some 18) _ = _
    simp only [Act.put, List.setIfInBounds_toArray, List.set_cons_zero, List.set_cons_succ, i64_w, i32_w]
    rfl
   refine one_ (i := 4) (N := some 19) (tb 6 31) rfl rfl (by kernel_rfl) (by decide) (fun K hK => ?_)
   refine Kd.R_append_step (Kd.int .i64) (w0 := w) w.heap.size (by rfl) (.tmp 15) (.tmp 18) 36 3 (.int .i64 0) 8 rfl Tryz.underlying36 info3 rfl (by decide) (by omega) u295000 x295000_1 t296 [.int .i64 t296] (fun _ => True) (fun _ => False) rfl rfl ?aP (fun _ hk => hk.elim) ?aF ?aO ?aB ?aS ?aL ?_
   (case aP => exact rfl)
   (case aB => exact (zh HB.out))
   (case aF => exact (fun _ _ => trivial))
   (case aO => exact (zr HO_295000.out))
   (case aS => exact (below_size (zh HB.out)))
   (case aL => have := LMc14.out; omega)
   intro v298 w16 ho hb hg hat
   rw [← Ny297.out] at ho
   have n0_ := Aside0.mk (blk_grown (g := gb290) (o := .cells #[.int .i64 0, .slice none 0 0] 86 (0, 0)) (zb BK290.out) hg (Kd.R_ne HO_295000.out BK290.out (by decide)))
   have n1_ := Aside0.mk (blk_grown (g := gb294) (o := .cells #[u295000] 36 (0, 0)) (zb BK294.out) hg (Kd.R_ne HO_295000.out BK294.out (by decide)))
   have n2_ := Aside0.mk (hb)
   have n3_ := Aside0.mk (ho)
   clear BK290
   clear BK294
   clear HB
   clear HO_295000
   have BK290 := n0_
   have BK294 := n1_
   have HB := n2_
   have HO299 := n3_
   clear n0_ n1_ n2_ n3_
   clear ho hb hg hat
   obtain ⟨Ao17, co17, eo17⟩ := Kd.R_slice HO299.out
   (first | subst eo17 | (injection eo17 with f1_ f2_ f3_; have f4_ := f1_.symm; have f5_ := f3_.symm; clear f1_ f2_ f3_; subst f4_; subst f5_))
   refine hK.out _ _ ((blk_cell BK294.out 0).trans rfl) (fun hHeld => ?_)
   clear hK K
   refine norm_ (a' := ?_) ?_ ?_
   rotate_left
   ·show Act.put _ (some 19) _ = _
    simp only [Act.put, List.setIfInBounds_toArray, List.set_cons_zero, List.set_cons_succ, i64_w, i32_w]
    rfl
   refine last_ (i := 5) (N := none) (tb 6 63) rfl rfl (by kernel_rfl) (by decide) (fun K hK => ?_)
   have hs18 : w16.cell? ⟨gb294, 0, none⟩ = some (u295000) := (blk_cell BK294.out 0).trans rfl
   have hfs18 := blk_frozen BK294.out 0
   have hns18_0 := NB290_294.out
   have hms18_0 := NB294_290.out
   refine skip_ (w1 := ?_) (by rfl) rfl ?_ ?_
   rotate_left
   ·go_simp
    rfl
   refine hK.out _ _ ?_
   clear hK K
   refine done_ (by kernel_rfl) ?_
   try go_wp2
   go_roundg k1
   case measure => have := HK1.out; omega
   case rel => exact ⟨(wrap64 (x11_1 + 1)), (y297), (.slice Ao17 y297.length co17), (by first | rfl | (simp; done) | (simp [*]; done)), H', ⟨by have := HK1.out; omega⟩, ⟨by (with_reducible repeat (first | apply Kd.R_alloc | apply Kd.R_drewN | apply Kd.R_drew)); exact Kd.R_mono (Kd.R_far (p := ⟨gb294, 0, none⟩) (Kd.R_types HO299.out BK294.out (by decide)) (fun _ hk => hk.2) (.slice Ao17 y297.length co17)) (fun _ hk => trivial)⟩, ⟨by (with_reducible repeat (first | refine blk_drewN ?_ _ | refine blk_drew ?_ | refine blk_alloc ?_ _)); refine blk_far ?_ NB290_294.out _; (with_reducible repeat (first | refine blk_drewN ?_ _ | refine blk_drew ?_ | refine blk_alloc ?_ _)); exact BK290.out⟩, ⟨by (with_reducible repeat (first | refine blk_drewN ?_ _ | refine blk_drew ?_ | refine blk_alloc ?_ _)); refine blk_put (cs := #[u295000]) ?_ 0 _ rfl; (with_reducible repeat (first | refine blk_drewN ?_ _ | refine blk_drew ?_ | refine blk_alloc ?_ _)); exact BK294.out⟩, ⟨zh HB.out⟩⟩
def impl_Game_votes.f (k : Nat) (a0_0 : Int) (l0_1 : List (List Int)) : Option (Int × List Bool) := (impl_votesBy.f k a0_0 l0_1).bind fun bt306 => (some (bt306.1, bt306.2))
set_option maxHeartbeats 8000000 in
set_option maxRecDepth 100000 in
theorem impl_Game_votes.calls (k : Nat) (a0_0 : Int) (A0_1 : Option Addr) (c0_1 : Nat) (l0_1 : List (List Int)) (r1 : Int) (r2 : List Bool) (w : World) (hr0_1 : Kd.C (Kd.slice 3 (Kd.int .i64)) w A0_1 l0_1.length l0_1) (hc0_1 : l0_1.length ≤ c0_1) (h : impl_Game_votes.f k a0_0 l0_1 = some (r1, r2)) :
  Calls Tryz.prog 80 #[.agg #[.int .i64 a0_0, .slice A0_1 l0_1.length c0_1]] w fun e w' => ∃ v1_ : Value, e = .returned (.agg #[.int .i64 r1, v1_]) ∧ Kd.R Kd.bool 4 w' w.heap.size (fun _ => True) v1_ r2 ∧ Below w.heap.size w w' := by
 have hu46 := Tryz.underlying46
 have hu86 := Tryz.underlying86
 have HR0_1 := Aside0.mk hr0_1
 have HC0_1 := Aside0.mk hc0_1
 clear hr0_1 hc0_1
 have HB := Aside0.mk (Below.refl w.heap.size w)
 have H : ((impl_votesBy.f k a0_0 l0_1).bind fun bt306 => (some (bt306.1, bt306.2))) = some (r1, r2) := h
 clear h
 replace H := Option.bind_eq_some_iff.mp H
 obtain ⟨⟨t306, t307⟩, A20, H⟩ := H
 replace H : (some (t306, t307)) = some (r1, r2) := H
 have A2 := Aside0.mk A20
 clear A20
 simp only [Option.some.injEq, Prod.mk.injEq] at H
 obtain ⟨rfl, rfl⟩ := H
 go_enter Tryz.func80, Tryz.ntmps80
 go_wp2_with (first | ((with_reducible refine gate_dst (N := 1) rfl ?_); refine box_event ?hg (N := 1) ?hd (cs := #[.int .i64 a0_0, .slice A0_1 l0_1.length c0_1]) (t := 46) ?hr ?_; (case hd => rfl); (case hg => rfl); (case hr => first | (go_simp; done) | (go_simp; rfl)); intro gb304 hg w3 hbox hb; have n2_ := Aside0.mk ((by rw [hg]; exact (below_size (zh HB.out)) : w.heap.size ≤ gb304)); replace HB := Aside0.mk (below_step (zh HB.out) hb); have BK304 := Aside0.mk hbox; have GW304 := n2_; have GE304 := n2_; clear n2_ hb hbox hg) | ((with_reducible refine gate_dst (N := 2) rfl ?_); refine box_event ?hg (N := 2) ?hd (cs := #[.int .i64 0, .slice none 0 0]) (t := 86) ?hr ?_; (case hd => rfl); (case hg => rfl); (case hr => first | (go_simp; done) | (go_simp; rfl)); intro gb305 hg w4 hbox hb; have n0_ := Aside0.mk (blk_below (g := gb304) (o := .cells #[.int .i64 a0_0, .slice A0_1 l0_1.length c0_1] 46 (0, 0)) (zb BK304.out) hb); have n1_ := Aside0.mk (below_step (zh HB.out) hb); have n2_ := Aside0.mk (hbox); have n3_ := Aside0.mk ((by rw [hg]; exact (below_size (zh HB.out)) : w.heap.size ≤ gb305)); have n4_ := Aside0.mk ((by rw [hg]; exact (below_size (zh HB.out)) : w.heap.size ≤ gb305)); have n5_ := Aside0.mk ((by rw [hg]; exact Nat.ne_of_lt (blk_lt (g := gb304) (o := .cells #[.int .i64 a0_0, .slice A0_1 l0_1.length c0_1] 46 (0, 0)) (zb BK304.out)) : gb304 ≠ gb305)); have n6_ := Aside0.mk ((by rw [hg]; exact Nat.ne_of_gt (blk_lt (g := gb304) (o := .cells #[.int .i64 a0_0, .slice A0_1 l0_1.length c0_1] 46 (0, 0)) (zb BK304.out)) : gb305 ≠ gb304)); clear BK304; clear HB; have BK304 := n0_; have HB := n1_; have BK305 := n2_; have GW305 := n3_; have GE305 := n4_; have NB304_305 := n5_; have NB305_304 := n6_; clear n0_ n1_ n2_ n3_ n4_ n5_ n6_; clear hb hbox hg; have hnb5 := NB304_305.out; have hnc5 := NB305_304.out; have hcz6_0 : w4.cell? ⟨gb304, 0, none⟩ = some (.int .i64 a0_0) := (blk_cell BK304.out 0).trans rfl; have hcz6_1 : w4.cell? ⟨gb304, 1, none⟩ = some (.slice A0_1 l0_1.length c0_1) := (blk_cell BK304.out 1).trans rfl; have hfz6_0 := blk_frozen BK304.out 0; have hfz6_1 := blk_frozen BK304.out 1) | ((with_reducible refine gate_callee (f := 107) rfl ?_); refine goesL_ (some 7) rfl rfl Tryz.func107 (by kernel_rfl) rfl #[.int .i64 a0_0, .slice A0_1 l0_1.length c0_1] rfl (by (try simp only [List.map_toArray, List.map_cons, List.map_nil]); first | done | rfl | (simp only [List.length_drop, List.length_take]; rfl)) ?_; (with_reducible refine (impl_votesBy.calls k a0_0 _ _ l0_1 t306 t307 _ ?side1 ?side2 A2.out).mono ?_); (case side1 => repeat (first | exact (Kd.C_below HR0_1.out HB.out) | (with_reducible refine Kd.C_alloc ?_ _) | (with_reducible refine Kd.C_drewN ?_ _) | (with_reducible refine Kd.C_drew ?_))); (case side2 => exact HC0_1.out); rintro e w7 ⟨v308, rfl, ho0, hb⟩; refine ⟨_, rfl, ?_⟩; have n0_ := Aside0.mk (Kd.R_lower ho0 (below_size (zh HB.out))); have n1_ := Aside0.mk (blk_below (g := gb304) (o := .cells #[.int .i64 a0_0, .slice A0_1 l0_1.length c0_1] 46 (0, 0)) (zb BK304.out) hb); have n2_ := Aside0.mk (blk_below (g := gb305) (o := .cells #[.int .i64 0, .slice none 0 0] 86 (0, 0)) (zb BK305.out) hb); have n3_ := Aside0.mk (below_step (zh HB.out) hb); clear BK304; clear BK305; clear HB; have HO309 := n0_; have BK304 := n1_; have BK305 := n2_; have HB := n3_; clear n0_ n1_ n2_ n3_; (try clear hb); (try clear hb2); (try clear hk); (try clear hi); (try clear ho0); have hcz8_0 : w7.cell? ⟨gb305, 0, none⟩ = some (.int .i64 0) := (blk_cell BK305.out 0).trans rfl; have hcz8_1 : w7.cell? ⟨gb305, 1, none⟩ = some (.slice none 0 0) := (blk_cell BK305.out 1).trans rfl; have hfz8_0 := blk_frozen BK305.out 0; have hfz8_1 := blk_frozen BK305.out 1; obtain ⟨Ao9, co9, eo9⟩ := Kd.R_slice HO309.out; subst eo9))
 refine bodyPost_ret (results_cell_row rfl _ _ gb305 86 #[.int .i64 t306, .slice Ao9 t307.length co9] (0, 0) _ rfl (by (with_reducible repeat (first | refine blk_drewN ?_ _ | refine blk_drew ?_ | refine blk_alloc ?_ _)); refine blk_put (cs := #[.int .i64 t306, .slice none 0 0]) ?_ 1 _ rfl; (with_reducible repeat (first | refine blk_drewN ?_ _ | refine blk_drew ?_ | refine blk_alloc ?_ _)); refine blk_put (cs := #[.int .i64 0, .slice none 0 0]) ?_ 0 _ rfl; (with_reducible repeat (first | refine blk_drewN ?_ _ | refine blk_drew ?_ | refine blk_alloc ?_ _)); exact BK305.out) Tryz.underlying86 rfl (by kernel_rfl)) rfl ?_
 exact ⟨_, by first | rfl | (simp [*, errW_none, errW_some] <;> rfl), by (with_reducible repeat (first | apply Kd.R_alloc | apply Kd.R_drewN | apply Kd.R_drew)); exact Kd.R_mono (Kd.R_far (p := ⟨gb305, 1, none⟩) (Kd.R_far (p := ⟨gb305, 0, none⟩) (Kd.R_types HO309.out BK305.out (by decide)) (fun _ hk => hk.2) (.int .i64 t306)) (fun _ hk => hk.2) (.slice Ao9 t307.length co9)) (fun _ hk => trivial), zh HB.out⟩
end Go.Proofs.YtgjakcpbfbfejaaGreat.Q
end
section
namespace Go.Proofs.YtgjakcpbfbfejaaGreat.Q
open Go.RowKit Go.Proofs.YtgjakcpbfbfejaaGreatW.PrintWords Go.Proofs.YtgjakcpbfbfejaaGreatW.PrintLast Go.Proofs.YtgjakcpbfbfejaaGreatW.PrintMore
set_option linter.unusedVariables false
set_option linter.unusedSimpArgs false
set_option maxHeartbeats 1000000 in
theorem impl_allGames_1.pred (t : Int) (b1 : Nat) (w : World) (h1 : w.cell? ⟨b1, 0, none⟩ = some (.int .i64 t)) : PredI Tryz.prog 101 #[] #[.pointer (some ⟨b1, 0, none⟩)] w (fun mask => impl_has.f t mask) := by
  intro W x b hb hp
  show Calls Tryz.prog 101 #[.int .i64 x, .pointer (some ⟨b1, 0, none⟩)] W _
  have q1 := (hb.cell (World.block_lt_of_cell? w _ h1)).trans h1
  have hE := Aside0.mk hp
  clear h1 hb hp
  go_enter Tryz.func101, Tryz.ntmps101
  go_wp2_with (go_at_call 102; refine (impl_has.calls t x b _ hE.out).mono ?_; rintro e w' ⟨rfl, hq⟩; have HQ := Aside0.mk hq; clear hq)
  go_ret
  exact ⟨rfl, HQ.out.below⟩
def votesOf_allGames.f (k : Nat) (a0 t : Int) : Option (Int × List Bool) := impl_votesOf.f k a0 (fun mask => impl_has.f t mask)
theorem votesOf_allGames.mono : ∀ a0 t k, LeO (votesOf_allGames.f k a0 t) (votesOf_allGames.f (k + 1) a0 t) := fun a0 t k => impl_votesOf.mono a0 _ k
theorem votesOf_allGames.calls (k : Nat) (a0 t : Int) (r1 : Int) (r2 : List Bool) (w : World) (gb : Nat) (hcell : w.cell? ⟨gb, 0, none⟩ = some (.int .i64 t)) (h : votesOf_allGames.f k a0 t = some (r1, r2)) :
    Calls Tryz.prog 100 #[.int .i64 a0, .func (.func 101) #[] #[.pointer (some ⟨gb, 0, none⟩)]] w fun e w' => ∃ v1_ : Value, e = .returned (.agg #[.int .i64 r1, v1_]) ∧ Kd.R Kd.bool 4 w' w.heap.size (fun _ => True) v1_ r2 ∧ Below w.heap.size w w' :=
  impl_votesOf.calls k a0 _ 101 #[] #[.pointer (some ⟨gb, 0, none⟩)] (enters_of Tryz.func101 (by kernel_rfl) rfl) r1 r2 w (impl_allGames_1.pred t gb w hcell) h
theorem isLeast.predL (k : Nat) (n : Int) (A : Option Addr) (c : Nat) (l : List Bool) (w : World) (hC : Kd.C Kd.bool w A l.length l) (hc : l.length ≤ c) : PredI Tryz.prog 134 #[.agg #[.int .i64 n, .slice A l.length c]] #[] w (impl_votes_isLeast.f k n l) :=
  fun W x b hb hp => impl_votes_isLeast.calls k n A c l x b W (Kd.C_below hC hb) hc hp
def impl_votes_least.f (k : Nat) (n : Int) (l : List Bool) : Option (List (List Int)) := impl_votes_sets.f k n l (impl_votes_isLeast.f k n l)
theorem sets_pmono {p q : Int → Option Bool} (h : ∀ x, LeO (p x) (q x)) : ∀ k x5 x10 x11, LeO (impl_votes_sets.l0 p k x5 x10 x11) (impl_votes_sets.l0 q k x5 x10 x11)
  | 0, _, _, _ => fun r h => by simp [impl_votes_sets.l0] at h
  | k + 1, x5, x10, x11 => by
    unfold impl_votes_sets.l0
    refine LeO.ite (LeO.bind (h _) fun _ => LeO.ite (LeO.bind (LeO.refl _) fun _ => LeO.ite (sets_pmono h k _ _ _) (LeO.refl _)) (sets_pmono h k _ _ _)) (LeO.refl _)
theorem impl_votes_least.mono : ∀ n l k, LeO (impl_votes_least.f k n l) (impl_votes_least.f (k + 1) n l) := by
  intro n l k r hr
  have h1 := impl_votes_sets.mono n l (impl_votes_isLeast.f k n l) k r hr
  unfold impl_votes_least.f impl_votes_sets.f at *
  exact sets_pmono (fun x => impl_votes_isLeast.mono n l x k) _ _ _ _ _ h1
set_option maxHeartbeats 1000000 in
theorem impl_votes_least.calls (k : Nat) (n : Int) (A : Option Addr) (c : Nat) (l : List Bool) (r : List (List Int)) (w : World) (hC : Kd.C Kd.bool w A l.length l) (hc : l.length ≤ c) (h : impl_votes_least.f k n l = some r) :
    Calls Tryz.prog 120 #[.agg #[.int .i64 n, .slice A l.length c]] w fun e w' => ∃ v0_ : Value, e = .returned v0_ ∧ Kd.S (Kd.slice 3 (Kd.int .i64)) 36 w' w.heap.size (fun _ => True) v0_ r ∧ Below w.heap.size w w' := by
  have HC := Aside0.mk hC
  have HH := Aside0.mk h
  have u1 := Tryz.underlying86
  clear hC h
  go_enter Tryz.func120, Tryz.ntmps120
  go_wp2_with fail
  have hb : ∀ o : Obj, Below w.heap.size w (w.alloc o) := fun _ => (Below.refl _ w).alloc (Nat.le_refl _) _
  refine (impl_votes_sets.calls k n A c l _ 134 #[.agg #[.int .i64 n, .slice A l.length c]] #[] (enters_of Tryz.func134 (by kernel_rfl) rfl) r _ (isLeast.predL k n A c l _ (Kd.C_alloc HC.out _) hc) (Kd.C_alloc HC.out _) hc HH.out).mono ?_
  rintro e w1 ⟨v0, rfl, hS, hb1⟩
  have HS := Aside0.mk hS
  have HB := Aside0.mk hb1
  clear hS hb1
  go_wp2
  go_ret
  exact ⟨v0, rfl, Kd.S_lower HS.out (hb _).size, (hb _).trans (HB.out.mono (hb _).size)⟩
end Go.Proofs.YtgjakcpbfbfejaaGreat.Q
end
section
namespace Go.Proofs.YtgjakcpbfbfejaaGreat.Q
open Go.RowKit Go.Proofs.YtgjakcpbfbfejaaGreatW.PrintWords Go.Proofs.YtgjakcpbfbfejaaGreatW.PrintLast Go.Proofs.YtgjakcpbfbfejaaGreatW.PrintMore
attribute [local go_sem] max2_int min2_int max_two min_two max_three min_three max_four min_four
set_option linter.unusedVariables false
set_option linter.unusedSimpArgs false
def impl_votes_game.f (k : Nat) (a0_0 : Int) (l0_1 : List Bool) : Option (Int × (List (List Int))) := (impl_votes_least.f k a0_0 l0_1).bind fun t263 => (some (a0_0, t263))
theorem impl_votes_game.mono : ∀ a0 a1 k, LeO (impl_votes_game.f k a0 a1) (impl_votes_game.f (k + 1) a0 a1) := by
 intro a0 a1 k
 unfold impl_votes_game.f
 repeat' first
   | (with_reducible exact impl_votes_least.mono _ _ _)
   | (with_reducible exact LeO.refl _)
   | (with_reducible exact LeO.none _)
   | (with_reducible refine LeO.ite ?_ ?_)
   | (with_reducible refine LeO.bind ?_ (fun _ => ?_))
   | exact impl_votes_least.mono _ _ _
   | exact LeO.none _
   | refine LeO.ite ?_ ?_
   | refine LeO.bind ?_ (fun _ => ?_)
set_option maxHeartbeats 8000000 in
set_option maxRecDepth 100000 in
theorem impl_votes_game.calls (k : Nat) (a0_0 : Int) (A0_1 : Option Addr) (c0_1 : Nat) (l0_1 : List Bool) (r1 : Int) (r2 : List (List Int)) (w : World) (hr0_1 : Kd.C Kd.bool w A0_1 l0_1.length l0_1) (hc0_1 : l0_1.length ≤ c0_1) (h : impl_votes_game.f k a0_0 l0_1 = some (r1, r2)) :
  Calls Tryz.prog 104 #[.agg #[.int .i64 a0_0, .slice A0_1 l0_1.length c0_1]] w fun e w' => ∃ v1_ : Value, e = .returned (.agg #[.int .i64 r1, v1_]) ∧ Kd.S (Kd.slice 3 (Kd.int .i64)) 36 w' w.heap.size (fun _ => True) v1_ r2 ∧ Below w.heap.size w w' := by
 have hu86 := Tryz.underlying86
 have hu46 := Tryz.underlying46
 have HR0_1 := Aside0.mk hr0_1
 have HC0_1 := Aside0.mk hc0_1
 clear hr0_1 hc0_1
 have HB := Aside0.mk (Below.refl w.heap.size w)
 have H : ((impl_votes_least.f k a0_0 l0_1).bind fun t263 => (some (a0_0, t263))) = some (r1, r2) := h
 clear h
 replace H := Option.bind_eq_some_iff.mp H
 obtain ⟨t263, A20, H⟩ := H
 replace H : (some (a0_0, t263)) = some (r1, r2) := H
 have A2 := Aside0.mk A20
 clear A20
 simp only [Option.some.injEq, Prod.mk.injEq] at H
 obtain ⟨rfl, rfl⟩ := H
 go_enter Tryz.func104, Tryz.ntmps104
 try go_wp2_with (first | ((with_reducible refine gate_dst (N := 1) rfl ?_); refine box_event ?hg (N := 1) ?hd (cs := #[.int .i64 a0_0, .slice A0_1 l0_1.length c0_1]) (t := 86) ?hr ?_; (case hd => rfl); (case hg => rfl); (case hr => first | (go_simp; done) | (go_simp; rfl)); intro gb261 hg w3 hbox hb; have n2_ := Aside0.mk ((by rw [hg]; exact (below_size (zh HB.out)) : w.heap.size ≤ gb261)); replace HB := Aside0.mk (below_step (zh HB.out) hb); have BK261 := Aside0.mk hbox; have GW261 := n2_; have GE261 := n2_; clear n2_ hb hbox hg) | ((with_reducible refine gate_dst (N := 2) rfl ?_); refine box_event ?hg (N := 2) ?hd (cs := #[.int .i64 0, .slice none 0 0]) (t := 46) ?hr ?_; (case hd => rfl); (case hg => rfl); (case hr => first | (go_simp; done) | (go_simp; rfl)); intro gb262 hg w4 hbox hb; have n0_ := Aside0.mk (blk_below (g := gb261) (o := .cells #[.int .i64 a0_0, .slice A0_1 l0_1.length c0_1] 86 (0, 0)) (zb BK261.out) hb); have n1_ := Aside0.mk (below_step (zh HB.out) hb); have n2_ := Aside0.mk (hbox); have n3_ := Aside0.mk ((by rw [hg]; exact (below_size (zh HB.out)) : w.heap.size ≤ gb262)); have n4_ := Aside0.mk ((by rw [hg]; exact (below_size (zh HB.out)) : w.heap.size ≤ gb262)); have n5_ := Aside0.mk ((by rw [hg]; exact Nat.ne_of_lt (blk_lt (g := gb261) (o := .cells #[.int .i64 a0_0, .slice A0_1 l0_1.length c0_1] 86 (0, 0)) (zb BK261.out)) : gb261 ≠ gb262)); have n6_ := Aside0.mk ((by rw [hg]; exact Nat.ne_of_gt (blk_lt (g := gb261) (o := .cells #[.int .i64 a0_0, .slice A0_1 l0_1.length c0_1] 86 (0, 0)) (zb BK261.out)) : gb262 ≠ gb261)); clear BK261; clear HB; have BK261 := n0_; have HB := n1_; have BK262 := n2_; have GW262 := n3_; have GE262 := n4_; have NB261_262 := n5_; have NB262_261 := n6_; clear n0_ n1_ n2_ n3_ n4_ n5_ n6_; clear hb hbox hg))
 have n0_ := Aside0.mk (blk_drew BK261.out)
 have n1_ := Aside0.mk (blk_drew BK262.out)
 have n2_ := Aside0.mk (below_drew1 HB.out)
 clear BK261
 clear BK262
 clear HB
 have BK261 := n0_
 have BK262 := n1_
 have HB := n2_
 clear n0_ n1_ n2_
 refine start_ (n := 6) (S := fun w' => w'.cell? ⟨gb261, 0, none⟩ = some (.int .i64 a0_0) ∧ w'.cell? ⟨gb261, 1, none⟩ = some (.slice A0_1 l0_1.length c0_1)) (ds := []) (tb 6 0) (by kernel_rfl) rfl rfl ⟨(blk_cell BK261.out 0).trans rfl, (blk_cell BK261.out 1).trans rfl⟩ (fun hHeld => ?_)
 generalize w4.drew = w5 at BK261 BK262 HB hHeld ⊢
 refine pure_ (i := 0) (N := some 3) (v := ?_) (a' := ?_) (tb 6 1) rfl rfl (by kernel_rfl) (fun _ _ _ h => h) (Or.inl ⟨by rfl, ?_⟩) ?_ ?_
 rotate_left
 ·intro w'
  go_simp
  with_reducible rfl
 rotate_left
 ·simp only [Act.put, List.setIfInBounds_toArray, List.set_cons_zero, List.set_cons_succ, i64_w, i32_w]
  rfl
 refine take_ (i := 1) (N := some 4) (v := ?_) (a' := ?_) (tb 6 3) rfl rfl (by kernel_rfl) (fun _ _ _ h => h) (Or.inl ⟨by rfl, ?_⟩) hHeld ?_ ?_
 rotate_left
 ·rintro w' ⟨s0, s1⟩
  go_simp
  with_reducible rfl
 rotate_left
 ·simp only [Act.put, List.setIfInBounds_toArray, List.set_cons_zero, List.set_cons_succ, i64_w, i32_w]
  rfl
 refine take_ (i := 2) (N := some 5) (v := ?_) (a' := ?_) (tb 6 7) rfl rfl (by kernel_rfl) (fun _ _ _ h => h) (Or.inl ⟨by rfl, ?_⟩) hHeld ?_ ?_
 rotate_left
 ·rintro w' ⟨s0, s1⟩
  go_simp
  with_reducible rfl
 rotate_left
 ·simp only [Act.put, List.setIfInBounds_toArray, List.set_cons_zero, List.set_cons_succ, i64_w, i32_w]
  rfl
 refine one_ (i := 3) (N := some 6) (tb 6 15) rfl rfl (by kernel_rfl) (by decide) (fun K hK => ?_)
 refine goes_ Tryz.func120 (by kernel_rfl) rfl #[.agg #[.int .i64 a0_0, .slice A0_1 l0_1.length c0_1]] (by rfl) rfl rfl (by (try simp only [List.map_toArray, List.map_cons, List.map_nil]); first | done | rfl | (simp only [List.length_drop, List.length_take]; rfl)) ?_
 with_reducible refine (impl_votes_least.calls k a0_0 _ _ l0_1 t263 _ ?side1 ?side2 A2.out).mono ?_
 (case side1 => repeat (first | exact (Kd.C_below HR0_1.out HB.out) | (with_reducible refine Kd.C_alloc ?_ _) | (with_reducible refine Kd.C_drewN ?_ _) | (with_reducible refine Kd.C_drew ?_)))
 (case side2 => exact HC0_1.out)
 rintro e w6 ⟨v264, rfl, ho0, hb⟩
 refine ⟨_, rfl, ?_⟩
 have n0_ := Aside0.mk (Kd.S_lower ho0 (below_size (zh HB.out)))
 have n1_ := Aside0.mk (blk_below (g := gb261) (o := .cells #[.int .i64 a0_0, .slice A0_1 l0_1.length c0_1] 86 (0, 0)) (zb BK261.out) hb)
 have n2_ := Aside0.mk (blk_below (g := gb262) (o := .cells #[.int .i64 0, .slice none 0 0] 46 (0, 0)) (zb BK262.out) hb)
 have n3_ := Aside0.mk (below_step (zh HB.out) hb)
 clear BK261
 clear BK262
 clear HB
 have HO265 := n0_
 have BK261 := n1_
 have BK262 := n2_
 have HB := n3_
 clear n0_ n1_ n2_ n3_
 (try clear hb)
 (try clear hb2)
 (try clear hk)
 (try clear hi)
 (try clear ho0)
 obtain ⟨Ao7, co7, eo7⟩ := Kd.S_slice HO265.out
 (first | subst eo7 | (injection eo7 with f1_ f2_ f3_; have f4_ := f1_.symm; have f5_ := f3_.symm; clear f1_ f2_ f3_; subst f4_; subst f5_))
 refine hK.out _ _ ⟨(blk_cell BK261.out 0).trans rfl, (blk_cell BK261.out 1).trans rfl⟩ (fun hHeld => ?_)
 clear hK K
 refine norm_ (a' := ?_) ?_ ?_
 rotate_left
 ·show Act.put _ (some 6) _ = _
  simp only [Act.put, List.setIfInBounds_toArray, List.set_cons_zero, List.set_cons_succ, i64_w, i32_w]
  rfl
 refine pure_ (i := 4) (N := some 7) (v := ?_) (a' := ?_) (tb 6 31) rfl rfl (by kernel_rfl) (fun _ _ _ h => h) (Or.inl ⟨by rfl, ?_⟩) ?_ ?_
 rotate_left
 ·intro w'
  go_simp
  with_reducible rfl
 rotate_left
 ·simp only [Act.put, List.setIfInBounds_toArray, List.set_cons_zero, List.set_cons_succ, i64_w, i32_w]
  rfl
 refine one_ (i := 5) (N := none) (tb 6 63) rfl rfl (by kernel_rfl) (by decide) (fun K hK => ?_)
 have hs8 : w6.cell? ⟨gb262, 0, none⟩ = some (.int .i64 0) := (blk_cell BK262.out 0).trans rfl
 have hfs8 := blk_frozen BK262.out 0
 have hns8_0 := NB261_262.out
 have hms8_0 := NB262_261.out
 have hs9 : w6.cell? ⟨gb262, 1, none⟩ = some (.slice none 0 0) := (blk_cell BK262.out 1).trans rfl
 have hfs9 := blk_frozen BK262.out 1
 have hns9_0 := NB261_262.out
 have hms9_0 := NB262_261.out
 refine skip_ (w1 := ?_) (by rfl) rfl ?_ ?_
 rotate_left
 ·go_simp
  rfl
 refine hK.out _ _ ⟨((cell_far (p := ⟨gb262, _, none⟩) NB261_262.out _).trans (((cell_far (p := ⟨gb262, _, none⟩) NB261_262.out _).trans (hHeld.1)))), ((cell_far (p := ⟨gb262, _, none⟩) NB261_262.out _).trans (((cell_far (p := ⟨gb262, _, none⟩) NB261_262.out _).trans (hHeld.2))))⟩ (fun hHeld => ?_)
 clear hK K
 refine done_ (by kernel_rfl) ?_
 try go_wp2
 refine bodyPost_ret (results_cell_row rfl _ _ gb262 46 #[.int .i64 a0_0, .slice Ao7 t263.length co7] (0, 0) _ rfl (by (with_reducible repeat (first | refine blk_drewN ?_ _ | refine blk_drew ?_ | refine blk_alloc ?_ _)); refine blk_put (cs := #[.int .i64 a0_0, .slice none 0 0]) ?_ 1 _ rfl; (with_reducible repeat (first | refine blk_drewN ?_ _ | refine blk_drew ?_ | refine blk_alloc ?_ _)); refine blk_put (cs := #[.int .i64 0, .slice none 0 0]) ?_ 0 _ rfl; (with_reducible repeat (first | refine blk_drewN ?_ _ | refine blk_drew ?_ | refine blk_alloc ?_ _)); exact BK262.out) Tryz.underlying46 rfl (by kernel_rfl)) rfl ?_
 exact ⟨_, by first | rfl | (simp [*, errW_none, errW_some] <;> rfl), by (with_reducible repeat (first | apply Kd.S_alloc | apply Kd.S_drewN | apply Kd.S_drew)); exact Kd.S_mono (Kd.S_far (p := ⟨gb262, 1, none⟩) (Kd.S_far (p := ⟨gb262, 0, none⟩) (Kd.S_types HO265.out BK262.out (by decide)) (fun _ hk => hk.2) (.int .i64 a0_0)) (fun _ hk => hk.2) (.slice Ao7 t263.length co7)) (fun _ hk => trivial), zh HB.out⟩
end Go.Proofs.YtgjakcpbfbfejaaGreat.Q
end
section
namespace Go.Proofs.YtgjakcpbfbfejaaGreat.Q
open Go.RowKit Go.Proofs.YtgjakcpbfbfejaaGreatW.PrintWords Go.Proofs.YtgjakcpbfbfejaaGreatW.PrintLast Go.Proofs.YtgjakcpbfbfejaaGreatW.PrintMore
set_option linter.unusedVariables false
set_option linter.unusedSimpArgs false
def lexG : List (List Int) → List (List Int) → Bool
  | [], [] => false
  | [], _ :: _ => true
  | _ :: _, [] => false
  | x :: xs, y :: ys => if x = y then lexG xs ys else lexB x y
def cmpG : List (List Int) → List (List Int) → Int
  | [], [] => 0
  | [], _ :: _ => -1
  | _ :: _, [] => 1
  | x :: xs, y :: ys => if x = y then cmpG xs ys else cmpL x y
theorem cmpG_lt : ∀ a b, decide (cmpG a b < 0) = lexG a b
  | [], [] => rfl
  | [], _ :: _ => rfl
  | _ :: _, [] => rfl
  | x :: xs, y :: ys => by
    unfold cmpG lexG
    by_cases h : x = y
    · rw [if_pos h, if_pos h]; exact cmpG_lt xs ys
    · rw [if_neg h, if_neg h]; exact cmpL_lt x y
theorem cmpL_zero : ∀ a b, cmpL a b = 0 ↔ a = b
  | [], [] => by simp [cmpL]
  | [], _ :: _ => by simp [cmpL]
  | _ :: _, [] => by simp [cmpL]
  | x :: xs, y :: ys => by
    unfold cmpL
    by_cases h : x = y
    · subst h; rw [if_pos rfl, cmpL_zero xs ys]; simp
    · rw [if_neg h]
      by_cases h2 : x < y
      · rw [if_pos h2]; simp [h]
      · rw [if_neg h2]; simp [h]
theorem lexG_irrefl : ∀ a, lexG a a = false
  | [] => rfl
  | x :: xs => by rw [lexG, if_pos rfl]; exact lexG_irrefl xs
theorem lexG_trans : ∀ a b c, lexG a b = true → lexG b c = true → lexG a c = true
  | [], [], _, h, _ => by cases h
  | [], _ :: _, [], _, h => by cases h
  | [], _ :: _, _ :: _, _, _ => rfl
  | _ :: _, [], _, h, _ => by cases h
  | _ :: _, _ :: _, [], _, h => by cases h
  | x :: xs, y :: ys, z :: zs, h1, h2 => by
    rw [lexG] at h1 h2 ⊢
    by_cases e1 : x = y
    · subst e1
      rw [if_pos rfl] at h1
      by_cases e2 : x = z
      · subst e2
        rw [if_pos rfl] at h2 ⊢
        exact lexG_trans xs ys zs h1 h2
      · rw [if_neg e2] at h2 ⊢; exact h2
    · rw [if_neg e1] at h1
      by_cases e2 : y = z
      · subst e2
        rw [if_neg e1]; exact h1
      · rw [if_neg e2] at h2
        have h3 := lexB_trans _ _ _ h1 h2
        rw [if_neg (fun e => by subst e; rw [lexB_irrefl] at h3; cases h3)]
        exact h3
theorem lexG_total : ∀ a b, lexG a b = false → lexG b a = false → a = b
  | [], [], _, _ => rfl
  | [], _ :: _, h, _ => by cases h
  | _ :: _, [], _, h => by cases h
  | x :: xs, y :: ys, h1, h2 => by
    rw [lexG] at h1 h2
    by_cases e : x = y
    · subst e
      rw [if_pos rfl] at h1 h2
      rw [lexG_total xs ys h1 h2]
    · rw [if_neg e] at h1
      rw [if_neg (fun q => e q.symm)] at h2
      exact absurd (lexB_total _ _ h1 h2) e
theorem lexG_asymm {a b : List (List Int)} (h : lexG a b = true) : lexG b a = false := by
  cases h2 : lexG b a
  · rfl
  · have := lexG_trans _ _ _ h h2
    rw [lexG_irrefl] at this; cases this
theorem lexG_ntrans (a b c : List (List Int)) (h1 : lexG a b = false) (h2 : lexG b c = false) : lexG a c = false := by
  cases h3 : lexG a c
  · rfl
  · cases h4 : lexG b a
    · have := lexG_total a b h1 h4
      subst this
      rw [h2] at h3; cases h3
    · rw [lexG_trans _ _ _ h4 h3] at h2; cases h2
theorem sort_filter {α : Type} (lt : α → α → Bool) (hnt : ∀ a b c, lt a b = false → lt b c = false → lt a c = false) (has : ∀ a b, lt a b = true → lt b a = false) (tot : ∀ a b, lt a b = false → lt b a = false → a = b) (p : α → Bool) (l : List α) :
    sortL lt (l.filter p) = (sortL lt l).filter p := by
  symm
  exact sortL_eq lt hnt has tot ((sortL_perm lt l).filter p) ((sortL_sorted lt hnt has l).filter p)
theorem cmpG_drop {a b : List (List Int)} {i : Nat} (h : i < a.length) : cmpG (a.drop i) (b.drop i) = if h2 : i < b.length then (if a[i] = b[i] then cmpG (a.drop (i + 1)) (b.drop (i + 1)) else cmpL a[i] b[i]) else 1 := by
  rw [List.drop_eq_getElem_cons h]
  by_cases h2 : i < b.length
  · rw [dif_pos h2, List.drop_eq_getElem_cons h2, cmpG]
  · have hb : b.drop i = [] := List.drop_of_length_le (by omega)
    rw [dif_neg h2, hb]; rfl
theorem drewN_drewN (w : World) (a b : Nat) : (w.drewN a).drewN b = w.drewN (a + b) := by
  induction b with
  | zero => rfl
  | succ b ih => exact congrArg World.drew ih
set_option maxHeartbeats 2000000 in
set_option maxRecDepth 100000 in
theorem compareFunc.calls (A B : Option Addr) (c d : Nat) (a b : List (List Int)) (w : World) (hA : Kd.C (Kd.slice 3 (Kd.int .i64)) w A a.length a) (hc : a.length ≤ c) (hB : Kd.C (Kd.slice 3 (Kd.int .i64)) w B b.length b) (hd : b.length ≤ d) (hx : ∀ x ∈ a, x.length ≤ 1152921504606846976) :
    Calls Tryz.prog 123 #[.slice A a.length c, .slice B b.length d, .func (.func 116) #[] #[]] w fun e w' => e = .returned (.int .i64 (cmpG a b)) ∧ ∃ q, w' = w.drewN q := by
  have hlm := Kd.C_max hA
  have eg : ∀ args w, (callFunc 116 args).run Tryz.prog w = .ok (.enter 116 args) w := enters_of Tryz.func116 (by kernel_rfl) rfl
  have HA := Aside0.mk hA
  have HB := Aside0.mk hB
  have HX := Aside0.mk hx
  clear hA hB hx
  generalize hr : cmpG a b = r
  have HR := Aside0.mk hr
  clear hr
  go_enter Tryz.func123, Tryz.ntmps123
  go_wp2
  go_loopg [13] a.length (fun gg v13 wr => ∃ kk : Nat, kk ≤ a.length ∧ a.length - kk ≤ gg ∧ v13 = .int .i64 kk ∧ Aside0 (∃ q, wr = w.drewN q) ∧ Aside0 (cmpG (a.drop kk) (b.drop kk) = r))
  case atStart => exact ⟨0, Nat.zero_le _, Nat.le_refl _, rfl, ⟨⟨0, rfl⟩⟩, HR⟩
  case round =>
    clear HR
    obtain ⟨kk, hkk, hg, rfl, HQ, HR⟩ := hrel
    have hAr : Kd.C (Kd.slice 3 (Kd.int .i64)) wr A a.length a := by obtain ⟨q, hq⟩ := HQ.out; rw [hq]; exact Kd.C_drewN HA.out q
    have hBr : Kd.C (Kd.slice 3 (Kd.int .i64)) wr B b.length b := by obtain ⟨q, hq⟩ := HQ.out; rw [hq]; exact Kd.C_drewN HB.out q
    have HAr := Aside0.mk hAr
    have HBr := Aside0.mk hBr
    clear hAr hBr
    by_cases hlt : kk < a.length
    · have hltz : (kk : Int) < (a.length : Int) := Int.ofNat_lt.2 hlt
      have hR := HR.out
      rw [cmpG_drop hlt] at hR
      have hxa := HX.out _ (List.getElem_mem hlt)
      obtain ⟨ad, A1, c1, e, x0, hl1, hC1⟩ := at_L4 HAr.out (kk : Int) (Int.natCast_nonneg _) hltz
      subst e
      have ea : rd_L4 a (kk : Int) = a[kk] := by unfold rd_L4; rw [Int.toNat_natCast, List.getD_eq_getElem?_getD, List.getElem?_eq_getElem hlt]; rfl
      rw [ea] at x0 hl1 hC1
      rw [Int.toNat_natCast] at x0
      generalize a[kk] = x at hR hxa x0 hl1 hC1
      clear ea
      by_cases h2 : kk < b.length
      · have h2z : (kk : Int) < (b.length : Int) := Int.ofNat_lt.2 h2
        have h2b : decide ((kk : Int) ≥ (b.length : Int)) = false := decide_eq_false (Int.not_le.2 h2z)
        rw [dif_pos h2] at hR
        obtain ⟨bd, B1, d1, e, y0, hl2, hC2⟩ := at_L4 HBr.out (kk : Int) (Int.natCast_nonneg _) h2z
        subst e
        have eb : rd_L4 b (kk : Int) = b[kk] := by unfold rd_L4; rw [Int.toNat_natCast, List.getD_eq_getElem?_getD, List.getElem?_eq_getElem h2]; rfl
        rw [eb] at y0 hl2 hC2
        rw [Int.toNat_natCast] at y0
        generalize b[kk] = y at hR y0 hl2 hC2
        clear eb
        obtain ⟨K, hK⟩ := Compare_ev x y hxa
        have hk : slices_Compare_int_int.f K x y = some (cmpL x y) := hK K (Nat.le_refl _)
        have HCL := Aside0.mk (slices_Compare_int_int.calls K A1 c1 x B1 d1 y (cmpL x y) wr hC1 hl1 hC2 hl2 hk)
        have HR2 := Aside0.mk hR
        have hcz := cmpL_zero x y
        clear hk hC1 hC2 hK hxa HR hR
        generalize cmpL x y = cv at HCL HR2 hcz
        by_cases hxy : x = y
        · have c0 := hcz.2 hxy
          subst c0
          have hR := HR2.out
          rw [if_pos hxy] at hR
          have HR3 := Aside0.mk hR
          clear hR HR2 hxy hcz
          go_wp2_with (go_at_fn 116; refine HCL.out.mono ?_; rintro e w' ⟨rfl, ⟨m, rfl⟩⟩)
          go_roundg (a.length - (kk + 1))
          case measure => omega
          case rel => exact ⟨kk + 1, by omega, by omega, by congr 1; (try (unfold wrap64; omega)), ⟨by obtain ⟨q, hq⟩ := HQ.out; exact ⟨_, by rw [hq]; exact drewN_drewN _ _ _⟩⟩, HR3⟩
        · have c0 : ¬ cv = 0 := fun e => hxy (hcz.1 e)
          have c0b : (cv == 0) = false := by rw [beq_eq_false_iff_ne]; exact c0
          have c0d : decide (cv = 0) = false := decide_eq_false c0
          have hR := HR2.out
          rw [if_neg hxy] at hR
          subst hR
          clear HR2 hxy hcz
          go_wp2_with (go_at_fn 116; refine HCL.out.mono ?_; rintro e w' ⟨rfl, ⟨m, rfl⟩⟩)
          go_ret
          exact ⟨rfl, by obtain ⟨q, hq⟩ := HQ.out; exact ⟨_, by rw [hq]; exact drewN_drewN _ _ _⟩⟩
      · have h2b : decide ((kk : Int) ≥ (b.length : Int)) = true := decide_eq_true (by omega)
        have h2z : ¬ (kk : Int) < (b.length : Int) := by omega
        rw [dif_neg h2] at hR
        have HR2 := Aside0.mk hR
        clear hR HR hC1
        go_wp2
        go_ret
        exact ⟨by rw [← HR2.out]; rfl, HQ.out⟩
    · have hkl : kk = a.length := by omega
      have hltz : ¬ (kk : Int) < (a.length : Int) := by omega
      subst hkl
      have hR := HR.out
      rw [List.drop_length] at hR
      by_cases h2 : a.length < b.length
      · have h2b : decide ((a.length : Int) < (b.length : Int)) = true := decide_eq_true (by omega)
        have hR2 : r = -1 := by rw [← hR, List.drop_eq_getElem_cons h2]; rfl
        have HR2 := Aside0.mk hR2
        clear hR hR2 HR
        go_wp2
        go_ret
        exact ⟨by rw [HR2.out]; rfl, HQ.out⟩
      · have h2b : decide ((a.length : Int) < (b.length : Int)) = false := decide_eq_false (by omega)
        have hR2 : r = 0 := by rw [← hR, List.drop_of_length_le (by omega)]; rfl
        have HR2 := Aside0.mk hR2
        clear hR hR2 HR
        go_wp2
        go_ret
        exact ⟨by rw [HR2.out]; rfl, HQ.out⟩
set_option maxHeartbeats 2000000 in
set_option maxRecDepth 100000 in
theorem compareGames.lays (m n : Int) (A B : Option Addr) (c d : Nat) (a b : List (List Int)) (w : World) (hA : Kd.C (Kd.slice 3 (Kd.int .i64)) w A a.length a) (hc : a.length ≤ c) (hB : Kd.C (Kd.slice 3 (Kd.int .i64)) w B b.length b) (hd : b.length ≤ d) (hx : ∀ x ∈ a, x.length ≤ 1152921504606846976) :
    Calls Tryz.prog 106 #[.agg #[.int .i64 m, .slice A a.length c], .agg #[.int .i64 n, .slice B b.length d]] w fun e w' => e = .returned (.int .i64 (cmpG a b)) ∧ ∃ q os, w' = Go.Sort.grow (w.drewN q) os := by
  have hcall := fun W (hb : Below w.heap.size w W) => compareFunc.calls A B c d a b W (Kd.C_below hA hb) hc (Kd.C_below hB hb) hd hx
  have HCL := Aside0.mk hcall
  have u1 := Tryz.underlying46
  clear hA hB hx hcall
  go_enter Tryz.func106, Tryz.ntmps106
  have hh := HCL.out ((w.alloc (.cells #[.int .i64 m, .slice A a.length c] 46)).alloc (.cells #[.int .i64 n, .slice B b.length d] 46)) (((Below.refl _ w).alloc (Nat.le_refl _) _).alloc (by simp) _)
  have HH := Aside0.mk hh
  clear hh HCL
  go_wp2_with (go_at_call 123; refine HH.out.mono ?_; rintro e w' ⟨rfl, ⟨q, rfl⟩⟩)
  go_ret
  refine ⟨rfl, q, #[.cells #[.int .i64 m, .slice A a.length c] 46 (0, 0), .cells #[.int .i64 n, .slice B b.length d] 46 (0, 0)], ?_⟩
  rw [Go.Sort.alloc_eq_grow, Go.Sort.alloc_eq_grow, Go.Sort.grow_grow]
  rfl
end Go.Proofs.YtgjakcpbfbfejaaGreat.Q
end
section
namespace Go.Proofs.YtgjakcpbfbfejaaGreat.Q
open Go.RowKit Go.Proofs.YtgjakcpbfbfejaaGreatW.PrintWords Go.Proofs.YtgjakcpbfbfejaaGreatW.PrintLast Go.Proofs.YtgjakcpbfbfejaaGreatW.PrintMore
set_option linter.unusedVariables false
set_option linter.unusedSimpArgs false
def ly105_ren : Go.Shelf.Ren := ⟨fun | 6 => 105 | 15 => 122 | 14 => 121 | 28 => 143 | 29 => 144 | 20 => 135 | 21 => 136 | 22 => 137 | 23 => 138 | 24 => 139 | 25 => 140 | 26 => 141 | 27 => 142 | 46 => 155 | 47 => 156 | 48 => 157 | 49 => 158 | 50 => 159 | 57 => 163 | n => n, fun | 22 => 51 | 24 => 46 | 25 => 109 | 3 => 3 | 39 => 120 | 0 => 0 | 53 => 138 | 55 => 140 | 4 => 4 | 46 => 132 | 45 => 131 | 50 => 26 | 5 => 5 | 9 => 9 | 66 => 147 | 70 => 151 | 76 => 155 | 77 => 156 | n => n, fun | n => n⟩
theorem ly105 : Go.Proofs.SlLaysF0.n6 Tryz.prog ly105_ren := {
  mixed := by kernel_rfl
  f6 := ⟨Tryz.f105.name, by decide, Tryz.func105.trans (congrArg some (by kernel_rfl))⟩
  f14 := ⟨Tryz.f121.name, by decide, Tryz.func121.trans (congrArg some (by kernel_rfl))⟩
  f15 := Tryz.func122.trans (congrArg some (by kernel_rfl))
  f20 := ⟨Tryz.f135.name, by decide, Tryz.func135.trans (congrArg some (by kernel_rfl))⟩
  f21 := ⟨Tryz.f136.name, by decide, Tryz.func136.trans (congrArg some (by kernel_rfl))⟩
  f22 := ⟨Tryz.f137.name, by decide, Tryz.func137.trans (congrArg some (by kernel_rfl))⟩
  f23 := ⟨Tryz.f138.name, by decide, Tryz.func138.trans (congrArg some (by kernel_rfl))⟩
  f24 := ⟨Tryz.f139.name, by decide, Tryz.func139.trans (congrArg some (by kernel_rfl))⟩
  f25 := ⟨Tryz.f140.name, by decide, Tryz.func140.trans (congrArg some (by kernel_rfl))⟩
  f26 := ⟨Tryz.f141.name, by decide, Tryz.func141.trans (congrArg some (by kernel_rfl))⟩
  f27 := ⟨Tryz.f142.name, by decide, Tryz.func142.trans (congrArg some (by kernel_rfl))⟩
  f28 := Tryz.func143.trans (congrArg some (by kernel_rfl))
  f29 := Tryz.func144.trans (congrArg some (by kernel_rfl))
  f46 := ⟨Tryz.f155.name, by decide, Tryz.func155.trans (congrArg some (by kernel_rfl))⟩
  f47 := Tryz.func156.trans (congrArg some (by kernel_rfl))
  f48 := Tryz.func157.trans (congrArg some (by kernel_rfl))
  f49 := ⟨Tryz.f158.name, by decide, Tryz.func158.trans (congrArg some (by kernel_rfl))⟩
  f50 := ⟨Tryz.f159.name, by decide, Tryz.func159.trans (congrArg some (by kernel_rfl))⟩
  f57 := ⟨Tryz.f163.name, by decide, Tryz.func163.trans (congrArg some (by kernel_rfl))⟩
  t0 := Tryz.underlying0
  a0 := Tryz.isAgg0
  z0 := Tryz.sizeOf0
  v0 := Tryz.zeroValue0
  t3 := Tryz.underlying3
  a3 := Tryz.isAgg3
  z3 := Tryz.sizeOf3
  v3 := Tryz.zeroValue3
  t4 := Tryz.underlying4
  a4 := Tryz.isAgg4
  z4 := Tryz.sizeOf4
  v4 := Tryz.zeroValue4
  t5 := Tryz.underlying5
  a5 := Tryz.isAgg5
  z5 := Tryz.sizeOf5
  v5 := Tryz.zeroValue5
  t9 := Tryz.underlying9
  a9 := Tryz.isAgg9
  z9 := Tryz.sizeOf9
  v9 := Tryz.zeroValue9
  t22 := Tryz.underlying51
  a22 := Tryz.isAgg51
  z22 := Tryz.sizeOf51
  v22 := Tryz.zeroValue51
  t25 := Tryz.underlying109
  a25 := Tryz.isAgg109
  z25 := Tryz.sizeOf109
  v25 := Tryz.zeroValue109
  t39 := Tryz.underlying120
  a39 := Tryz.isAgg120
  z39 := Tryz.sizeOf120
  v39 := Tryz.zeroValue120
  t45 := Tryz.underlying131
  a45 := Tryz.isAgg131
  z45 := Tryz.sizeOf131
  v45 := Tryz.zeroValue131
  t46 := Tryz.underlying132
  a46 := Tryz.isAgg132
  z46 := Tryz.sizeOf132
  v46 := Tryz.zeroValue132
  t50 := Tryz.underlying26
  a50 := Tryz.isAgg26
  z50 := Tryz.sizeOf26
  v50 := Tryz.zeroValue26
  t53 := Tryz.underlying138
  a53 := Tryz.isAgg138
  z53 := Tryz.sizeOf138
  v53 := Tryz.zeroValue138
  t55 := Tryz.underlying140
  a55 := Tryz.isAgg140
  z55 := Tryz.sizeOf140
  v55 := Tryz.zeroValue140
  t66 := Tryz.underlying147
  a66 := Tryz.isAgg147
  z66 := Tryz.sizeOf147
  v66 := Tryz.zeroValue147
  t70 := Tryz.underlying151
  a70 := Tryz.isAgg151
  z70 := Tryz.sizeOf151
  v70 := Tryz.zeroValue151
  t76 := Tryz.underlying155
  a76 := Tryz.isAgg155
  z76 := Tryz.sizeOf155
  v76 := Tryz.zeroValue155
  t77 := Tryz.underlying156
  a77 := Tryz.isAgg156
  z77 := Tryz.sizeOf156
  v77 := Tryz.zeroValue156 }
open Go.Shelf Go.Lib Go.Sort
structure QG (W : World) (okq : Nat → Prop) (base : Nat) where
  v : Value
  x : S46
  hM : Kd.R (Kd.slice 3 (Kd.int .i64)) 36 W base okq v x.f1
  hl : ∀ s ∈ x.f1, s.length ≤ 1152921504606846976
def QG.enc {W okq base} (q : QG W okq base) : List Value := [.int .i64 q.x.f0, q.v]
instance {W okq base} : Inhabited (QG W okq base) := ⟨⟨.slice none 0 0, ⟨0, []⟩, Kd.R_nil _ _ _ _ _, by simp⟩⟩
def sortGames.f (l : List S46) : Option (List S46) := if (decide (l.length < 1000000) && l.all (fun x => decide (x.f0 = (l.headD z46).f0) && x.f1.all fun s => decide (s.length ≤ 1152921504606846976))) = true then some ((sortL lexG (l.map fun x => x.f1)).map fun s => ⟨(l.headD z46).f0, s⟩) else none
theorem cmp_laysG (W : World) (okq : Nat → Prop) (base g n : Nat) (hg : ∀ k, okq k → k ≠ g) :
    CmpLays Tryz.prog 106 #[] (fun q : QG W okq base => q.enc) 2 (fun x y => cmpG x.x.f1 y.x.f1) g 0 n W := by
  intro m os dk hs x y
  have hgr := grownBy_sorted (fun v : Value => v) (w := W) (g := g) (n := m) (os := os) (flatK (fun q : QG W okq base => q.enc) 2 dk)
  have hx := Kd.R_grown x.hM hgr (fun k hk e => hg k hk (by injection e))
  have hy := Kd.R_grown y.hM hgr (fun k hk e => hg k hk (by injection e))
  change Kd.R _ _ (sortWorldK (fun q : QG W okq base => q.enc) 2 W g 0 m dk os) _ _ _ _ at hx
  change Kd.R _ _ (sortWorldK (fun q : QG W okq base => q.enc) 2 W g 0 m dk os) _ _ _ _ at hy
  generalize sortWorldK (fun q : QG W okq base => q.enc) 2 W g 0 m dk os = wS at hx hy
  obtain ⟨A, c, hxv, hxl, hxC⟩ := Kd.R_reads hx
  obtain ⟨B, d, hyv, hyl, hyC⟩ := Kd.R_reads hy
  have := compareGames.lays x.x.f0 y.x.f0 A B c d x.x.f1 y.x.f1 wS hxC hxl hyC hyl x.hl
  show Calls Tryz.prog 106 #[.agg #[.int .i64 x.x.f0, x.v], .agg #[.int .i64 y.x.f0, y.v]] wS _
  rw [hxv, hyv]
  exact this
theorem swo_lexG {W okq base} : SWO (ltOf (fun x y : QG W okq base => cmpG x.x.f1 y.x.f1)) where
  irrefl x := by unfold ltOf; rw [cmpG_lt]; exact lexG_irrefl _
  trans x y z h1 h2 := by unfold ltOf at *; rw [cmpG_lt] at *; exact lexG_trans _ _ _ h1 h2
  ntrans x y z h1 h2 := by unfold ltOf at *; rw [cmpG_lt] at *; exact lexG_ntrans _ _ _ h1 h2
theorem flat_inner {W okq base} {ss : List (QG W okq base)} {inner : List Value} (hl : inner.length = ss.length * 2) (h : ∀ j (hj : j < ss.length), (inner.drop (j * 2)).take 2 = ss[j].enc) : inner = (flatK (fun q : QG W okq base => q.enc) 2 ss.toArray).toList := by
  have hfs : (flatK (fun q : QG W okq base => q.enc) 2 ss.toArray).size = ss.length * 2 := by rw [size_flatK, List.size_toArray]
  refine List.ext_getElem (hl.trans (hfs.symm.trans Array.length_toList.symm)) fun t h1 h2 => ?_
  have ht : t < ss.length * 2 := by omega
  have hj : t / 2 < ss.length := by omega
  have hm : t % 2 < 2 := Nat.mod_lt _ (by decide)
  have e : ((inner.drop (t / 2 * 2)).take 2)[t % 2]? = (ss[t / 2].enc)[t % 2]? := congrArg (fun z => z[t % 2]?) (h (t / 2) hj)
  rw [List.getElem?_take_of_lt hm, List.getElem?_drop, show t / 2 * 2 + t % 2 = t by omega, List.getElem?_eq_getElem h1] at e
  have g := get_flatK (fun q : QG W okq base => q.enc) 2 ss.toArray t (by rw [List.size_toArray]; exact ht)
  rw [getElem!_pos _ t (by rw [size_flatK, List.size_toArray]; exact ht)] at g
  refine Eq.trans ?_ (Eq.trans g.symm (Array.getElem_toList ..).symm)
  have e2 : ss.toArray[t / 2]! = ss[t / 2] := by rw [getElem!_pos _ _ (by rw [List.size_toArray]; exact hj), List.getElem_toArray]
  rw [e2]
  have hel : (ss[t / 2]).enc.length = 2 := rfl
  rw [List.getElem?_eq_getElem (by rw [hel]; exact hm)] at e
  rw [getElem!_pos (ss[t / 2].enc) (t % 2) (by rw [hel]; exact hm)]
  exact Option.some.inj e
theorem flat_seg {W okq base} (ss : List (QG W okq base)) (j : Nat) (hj : j < ss.length) : (((flatK (fun q : QG W okq base => q.enc) 2 ss.toArray).toList).drop (j * 2)).take 2 = ss[j].enc := by
  have hel : (ss[j]).enc.length = 2 := rfl
  refine List.ext_getElem (by rw [List.length_take, List.length_drop, Array.length_toList, size_flatK, List.size_toArray, hel]; omega) fun t h1 h2 => ?_
  have ht : t < 2 := by rw [hel] at h2; exact h2
  rw [List.getElem_take, List.getElem_drop, Array.getElem_toList]
  have g := get_flatK (fun q : QG W okq base => q.enc) 2 ss.toArray (j * 2 + t) (by rw [List.size_toArray]; omega)
  rw [getElem!_pos _ _ (by rw [size_flatK, List.size_toArray]; omega)] at g
  rw [g, show (j * 2 + t) / 2 = j by omega, show (j * 2 + t) % 2 = t by omega]
  have e2 : ss.toArray[j]! = ss[j] := by rw [getElem!_pos _ _ (by rw [List.size_toArray]; exact hj), List.getElem_toArray]
  rw [e2, getElem!_pos (ss[j].enc) t h2]
theorem isAggG (w : World) : (isAgg 46).run Tryz.prog w = .ok true w := by kernel_rfl
theorem sizeOfG (w : World) : (Go.sizeOf 46).run Tryz.prog w = .ok 2 w := by kernel_rfl
theorem sortGames.calls (l t : List S46) (A : Option Addr) (c base : Nat) (ok : Nat → Prop) (w : World) (hR : Kd.R k46 46 w base ok (.slice A l.length c) l) (h : sortGames.f l = some t) :
    Calls Tryz.prog 105 #[.slice A l.length c, .func (.func 106) #[] #[]] w fun e w' =>
      e = .returned (.tuple #[]) ∧ Kd.R k46 46 w' base ok (.slice A l.length c) t ∧ t.length = l.length ∧ w.grownBy w' (Value.slice A l.length c).ownBlock := by
  unfold sortGames.f at h
  split at h
  case isFalse => cases h
  rename_i hall
  rw [Bool.and_eq_true, decide_eq_true_eq] at hall
  obtain ⟨hsz, hall⟩ := hall
  obtain rfl := Option.some.inj h
  generalize (l.headD z46).f0 = m at hall
  have hall0 : ∀ x ∈ l, x.f0 = m ∧ ∀ s ∈ x.f1, s.length ≤ 1152921504606846976 := fun x hx => by
    have := List.all_eq_true.1 hall x hx
    rw [Bool.and_eq_true, decide_eq_true_eq] at this
    exact ⟨this.1, fun s hs => of_decide_eq_true (List.all_eq_true.1 this.2 s hs)⟩
  have htl0 : ((sortL lexG (l.map fun x => x.f1)).map fun s => (⟨m, s⟩ : S46)).length = l.length := by rw [List.length_map, (sortL_perm lexG _).length_eq, List.length_map]
  by_cases h0 : l.length = 0
  · have hl0 := List.length_eq_zero_iff.1 h0
    subst hl0
    have hcon := AnyF.slices_SortFunc_none { ly105 with } A c (.func (.func 106) #[] #[]) w
    change Calls Tryz.prog 105 _ _ _ at hcon
    refine hcon.mono ?_
    rintro e w' ⟨rfl, rfl⟩
    exact ⟨rfl, hR, rfl, ⟨rfl, rfl, rfl, Nat.le_refl _, fun _ _ _ => rfl⟩⟩
  obtain ⟨hok, inner, ho, hr⟩ := hR
  rcases ho.2 with ⟨hv, hn⟩ | ⟨g, cap, cur, hv, hbase, hb, h1, h2, h3, h4⟩
  · exact absurd hn h0
  injection hv with hA _ hc
  subst hA; subst hc
  have hil : inner.length = l.length * 2 := ho.1
  change cur.size = c * 2 at h3
  change cur.toList.take (l.length * 2) = inner at h4
  have key : ∀ j : Nat, ∃ q : QG w (fun k => ok k ∧ k ≠ g) base, j < l.length → q.x = l.getD j z46 ∧ (inner.drop (j * 2)).take 2 = q.enc := by
    intro j
    by_cases hj : j < l.length
    · have hp := hr.2 j _ (List.getElem?_eq_getElem hj)
      obtain ⟨v, hv, hR1⟩ := k46_openM hp
      refine ⟨⟨v, l[j], Kd.R_mono hR1 (fun k hk => ⟨hk.1, fun e => hk.2 (by rw [e]; rfl)⟩), (hall0 _ (List.getElem_mem hj)).2⟩, fun _ => ⟨?_, hv⟩⟩
      rw [List.getD_eq_getElem?_getD, List.getElem?_eq_getElem hj]; rfl
    · exact ⟨default, fun e => absurd e hj⟩
  obtain ⟨fq, hfq⟩ := Classical.axiomOfChoice key
  obtain ⟨ss, hss⟩ : ∃ ss, ss = (List.range l.length).map fq := ⟨_, rfl⟩
  have hsl : ss.length = l.length := by rw [hss]; simp
  have hget : ∀ j (hj : j < ss.length), ss[j] = fq j := fun j hj => by simp [hss]
  have hinn : inner = (flatK (fun q : QG w (fun k => ok k ∧ k ≠ g) base => q.enc) 2 ss.toArray).toList := flat_inner (by rw [hil, hsl]) fun j hj => by rw [hget j hj]; exact (hfq j (by omega)).2
  have hsll : ss.map QG.x = l := by
    refine List.ext_getElem (by rw [List.length_map]; exact hsl) fun j h1 h2 => ?_
    rw [List.getElem_map, hget, (hfq j h2).1, List.getD_eq_getElem?_getD, List.getElem?_eq_getElem h2]; rfl
  have hH : HoldsK (fun q : QG w (fun k => ok k ∧ k ≠ g) base => q.enc) 2 w g 0 ss.toArray := by
    have := holds_of_block (fun v : Value => v) (ss := (flatK (fun q : QG w (fun k => ok k ∧ k ≠ g) base => q.enc) 2 ss.toArray).toList) hb (by rw [← hinn, hil, h4, List.map_id'])
    rwa [Array.toArray_toList] at this
  have eg : ∀ args w, (callFunc 106 args).run Tryz.prog w = .ok (.enter 106 args) w := enters_of Tryz.func106 (by kernel_rfl) rfl
  have hcon := AnyQ.slices_SortFunc ly105 2 isAggG sizeOfG (fun q : QG w (fun k => ok k ∧ k ≠ g) base => q.enc) (fun _ => rfl) (fun q v hv => by simp [QG.enc] at hv; rcases hv with rfl | rfl; exact rfl; exact (Kd.R_val q.hM).2) (fun x y => cmpG x.x.f1 y.x.f1) swo_lexG 106 #[] g 0 c ss.toArray w eg (cmp_laysG w _ base g _ (fun k hk => hk.2)) hH (Array.getElem?_eq_some_iff.1 hb).1 (by rw [List.size_toArray, hsl]; omega)
  change Calls Tryz.prog 105 _ _ _ at hcon
  rw [List.size_toArray, hsl] at hcon
  refine hcon.mono ?_
  rintro e w' ⟨rfl, d', n, os, hp, hs, rfl⟩
  obtain ⟨ts, rfl⟩ : ∃ ts : List _, d' = ts.toArray := ⟨d'.toList, rfl⟩
  obtain ⟨fl, hfl⟩ : ∃ fl, fl = flatK (fun q : QG w (fun k => ok k ∧ k ≠ g) base => q.enc) 2 ts.toArray := ⟨_, rfl⟩
  have hgr := grownBy_sorted (fun v : Value => v) (w := w) (g := g) (n := n) (os := os) fl
  have hhp := heap_sorted (fun v : Value => v) (w := w) (g := g) (n := n) (os := os) fl hb
  have hws : sortWorldK (fun q : QG w (fun k => ok k ∧ k ≠ g) base => q.enc) 2 w g 0 n ts.toArray os = sortWorld (fun v : Value => v) w g 0 n fl os := by rw [hfl]; rfl
  rw [hws]
  have hperm : ts.Perm ss := perm_of_PermIn (d := ss.toArray) (by simpa [hsl] using hp)
  have htl : ts.length = l.length := by rw [hperm.length_eq, hsl]
  have hsort : ts.Pairwise (fun a b => ltOf (fun x y : QG w (fun k => ok k ∧ k ≠ g) base => cmpG x.x.f1 y.x.f1) b a = false) := pairwise_of_SortedIn (d := ts.toArray) (by simpa [htl] using hs)
  have ht1 : ts.map (fun q => q.x.f1) = sortL lexG (l.map fun x => x.f1) := by
    refine sortL_eq lexG lexG_ntrans (fun _ _ => lexG_asymm) lexG_total ?_ ?_
    · rw [← hsll, List.map_map]; exact hperm.map _
    · rw [List.pairwise_map]
      refine hsort.imp fun h => ?_
      unfold ltOf at h
      rwa [cmpG_lt] at h
  have ht : ts.map QG.x = (sortL lexG (l.map fun x => x.f1)).map fun s => (⟨m, s⟩ : S46) := by
    rw [← ht1, List.map_map]
    refine List.map_congr_left fun q hq => ?_
    have hm : q.x ∈ l := by rw [← hsll]; exact List.mem_map_of_mem (hperm.mem_iff.1 hq)
    have := (hall0 _ hm).1
    show q.x = ⟨m, q.x.f1⟩
    rw [← this]
  have hfsz : fl.size = l.length * 2 := by rw [hfl, size_flatK, List.size_toArray, htl]
  have htk : (putCells (fun v : Value => v) 0 fl cur).toList.take (l.length * 2) = fl.toList := by
    have := take_putCells (fun v : Value => v) cur fl.toList (by rw [Array.length_toList, hfsz, h3]; omega)
    rw [Array.toArray_toList, Array.length_toList, hfsz, List.map_id'] at this
    exact this
  rw [← ht]
  refine ⟨rfl, ⟨hok, fl.toList, ⟨by rw [Array.length_toList, List.length_map, htl]; exact hfsz, .inr ⟨g, c, _, by rw [List.length_map, htl], hbase, hhp, by rw [List.length_map, htl]; exact h1, h2, by simp [putCells]; exact h3, by rw [List.length_map, htl]; exact htk⟩⟩, ⟨by rw [Array.length_toList, List.length_map, htl]; exact hfsz, fun j p hj => ?_⟩⟩, by rw [List.length_map]; exact htl, hgr⟩
  rw [List.getElem?_map] at hj
  obtain ⟨q, hq, rfl⟩ := Option.map_eq_some_iff.1 hj
  obtain ⟨hjl, hqe⟩ := List.getElem?_eq_some_iff.1 hq
  have hseg := flat_seg ts j hjl
  rw [← hfl, hqe] at hseg
  show k46.M _ _ _ _ ((fl.toList.drop (j * 2)).take 2)
  rw [hseg]
  refine k46_mkM _ _ _ q.x (Kd.R_mono (Kd.R_grown q.hM hgr (fun k hk e => hk.2 (by injection e))) (fun k hk => ⟨hk.1, fun e => hk.2 (by injection e)⟩))
end Go.Proofs.YtgjakcpbfbfejaaGreat.Q
end
section
namespace Go.Proofs.YtgjakcpbfbfejaaGreat.Q
open Go.RowKit Go.Proofs.YtgjakcpbfbfejaaGreatW.PrintWords Go.Proofs.YtgjakcpbfbfejaaGreatW.PrintLast Go.Proofs.YtgjakcpbfbfejaaGreatW.PrintMore
attribute [local go_sem] max2_int min2_int max_two min_two max_three min_three max_four min_four
set_option linter.unusedVariables false
set_option linter.unusedSimpArgs false
def impl_allGames.l0 : Nat → Int → List (S46) → List Int → Int → Int → Option ((List (S46)))
 | 0, _, _, _, _, _ => none
 | k + 1, x0, x3, x9, x10, x11 => if x11 < x10 then (if 0 ≤ x11 then (if x11 < (x9.length : Int) then ((votesOf_allGames.f k x0 (rd x9 x11)).bind fun bt274 => (if 0 < (bt274.2.length : Int) then (if rdOf false bt274.2 0 = true then (impl_allGames.l0 k x0 x3 x9 x10 (wrap64 (x11 + 1))) else ((impl_votes_all.f bt274.1 bt274.2).bind fun t280 => (if 0 ≤ t280 then (if t280 < (bt274.2.length : Int) then (if rdOf false bt274.2 t280 = true then ((impl_votes_game.f k bt274.1 bt274.2).bind fun bt282 => (if x3.length < 4398046511104 then (impl_allGames.l0 k x0 (x3 ++ [(⟨bt282.1, bt282.2⟩ : S46)]) x9 x10 (wrap64 (x11 + 1))) else (none))) else (impl_allGames.l0 k x0 x3 x9 x10 (wrap64 (x11 + 1)))) else (none)) else (none)))) else (none))) else (none)) else (none)) else ((sortGames.f x3).bind fun t_ => (some t_))
def impl_allGames.f (k : Nat) (a0 : Int) : Option ((List (S46))) := (impl_tables.f k a0).bind fun t269 => (impl_allGames.l0 k a0 (([] : List (S46))) t269 (t269.length : Int) 0)
theorem impl_allGames.mono_l : ∀ k, (∀ y0 y1 y2 y3 y4, LeO (impl_allGames.l0 k y0 y1 y2 y3 y4) (impl_allGames.l0 (k + 1) y0 y1 y2 y3 y4))
 | 0 => fun _ _ _ _ _ r h => by simp [impl_allGames.l0] at h
 | k + 1 => by
  have ih0 := impl_allGames.mono_l k
  ·intro y0 y1 y2 y3 y4
   unfold impl_allGames.l0
   repeat' first
   | (with_reducible exact ih0 _ _ _ _ _)
   | (with_reducible exact impl_tables.mono _ _)
   | (with_reducible exact impl_votes_game.mono _ _ _)
   | (with_reducible exact votesOf_allGames.mono _ _ _)
   | (with_reducible exact LeO.refl _)
   | (with_reducible exact LeO.none _)
   | (with_reducible refine LeO.ite ?_ ?_)
   | (with_reducible refine LeO.bind ?_ (fun _ => ?_))
   | exact ih0 _ _ _ _ _
   | exact impl_tables.mono _ _
   | exact impl_votes_game.mono _ _ _
   | exact votesOf_allGames.mono _ _ _
   | exact LeO.none _
   | refine LeO.ite ?_ ?_
   | refine LeO.bind ?_ (fun _ => ?_)
theorem impl_allGames.mono : ∀ a0 k, LeO (impl_allGames.f k a0) (impl_allGames.f (k + 1) a0) := by
 intro a0 k
 have ih0 := impl_allGames.mono_l k
 unfold impl_allGames.f
 repeat' first
   | (with_reducible exact ih0 _ _ _ _ _)
   | (with_reducible exact impl_tables.mono _ _)
   | (with_reducible exact impl_votes_game.mono _ _ _)
   | (with_reducible exact votesOf_allGames.mono _ _ _)
   | (with_reducible exact LeO.refl _)
   | (with_reducible exact LeO.none _)
   | (with_reducible refine LeO.ite ?_ ?_)
   | (with_reducible refine LeO.bind ?_ (fun _ => ?_))
   | exact ih0 _ _ _ _ _
   | exact impl_tables.mono _ _
   | exact impl_votes_game.mono _ _ _
   | exact votesOf_allGames.mono _ _ _
   | exact LeO.none _
   | refine LeO.ite ?_ ?_
   | refine LeO.bind ?_ (fun _ => ?_)
def impl_allGames.T6 : Bool × List (List Nat × List Nat) := (true, [([], []), ([0], [0]), ([1], [1]), ([2], [2]), ([3], [3]), ([4], [4]), ([5], [5]), ([6, 5], [5, 6]), ([5], [5]), ([8, 5, 5], [5, 8]), ([7, 9, 5], [5, 7, 9]), ([10, 5], [5, 10]), ([5, 11], [5, 11])])
def impl_allGames.B6 : List Nat := [0, 1, 3, 7, 15, 31, 63, 127, 63, 319, 1023, 2047, 4095]
theorem impl_allGames.tab6 : rtab .any (opsOf Tryz.f78 6) = impl_allGames.T6 := by kernel_rfl
theorem impl_allGames.bits6 : waitsOk impl_allGames.T6.2 impl_allGames.B6 = true := by kernel_rfl
set_option maxHeartbeats 8000000 in
set_option maxRecDepth 100000 in
theorem impl_allGames.calls (k : Nat) (a0 : Int) (r : List (S46)) (w : World) (h : impl_allGames.f k a0 = some r) :
  Calls Tryz.prog 78 #[.int .i64 a0] w fun e w' => ∃ v0_ : Value, e = .returned (v0_) ∧ Kd.R k46 46 w' w.heap.size (fun _ => True) v0_ r ∧ Below w.heap.size w w' := by
 have hu86 := Tryz.underlying86
 have HB := Aside0.mk (Below.refl w.heap.size w)
 have H : ((impl_tables.f k a0).bind fun t269 => (impl_allGames.l0 k a0 (([] : List (S46))) t269 (t269.length : Int) 0)) = some r := h
 clear h
 obtain ⟨y266, hy266⟩ : ∃ y_ : List (S46), y_ = (([] : List (S46))) := ⟨_, rfl⟩
 replace H : ((impl_tables.f k a0).bind fun t269 => (impl_allGames.l0 k a0 y266 t269 (t269.length : Int) 0)) = some r := by first | (rw [hy266]; with_reducible exact H) | (have H2_ := (Option.bind_some _ _).symm.trans H; rw [hy266]; with_reducible exact H2_) | (have H2_ := (Option.bind_some _ _).symm.trans H; with_reducible exact H2_) | with_reducible exact H | (rw [hy266]; exact H) | exact H
 have Ny266 := Aside0.mk hy266
 clear hy266
 replace H := Option.bind_eq_some_iff.mp H
 obtain ⟨t269, A20, H⟩ := H
 replace H : (impl_allGames.l0 k a0 y266 t269 (t269.length : Int) 0) = some r := H
 have A2 := Aside0.mk A20
 clear A20
 have H' := Aside0.mk H
 clear H
 go_enter Tryz.func78, Tryz.ntmps78
 go_wp2_with (first | ((with_reducible refine gate_dst (N := 7) rfl ?_); refine Kd.R_lit k46 _ 46 ?hg (N := 7) ?hd (xs := ([] : List (S46))) (inner := []) (ok := fun _ => True) (okp := fun _ => True) ?hr ?hp (fun _ hk => hk) trivial (Below.refl _ _) (Nat.le_refl _) (by simp) ?_; (case hd => rfl); (case hg => rfl); (case hr => first | (go_simp; done) | (go_simp; rfl)); (case hp => exact (Reps.none _ _)); intro v267 w3 ho4 hb hg_ hnew_; clear hg_ hnew_; (first | rw [← Ny266.out] at ho4 | (simp only [Int.reduceToNat] at ho4; rw [← Ny266.out] at ho4)); have n0_ := Aside0.mk (Kd.R_lower ho4 (below_size (zh HB.out))); have n1_ := Aside0.mk (below_step (zh HB.out) hb); clear HB; have HO268 := n0_; have HB := n1_; clear n0_ n1_; clear hb ho4) | ((with_reducible refine gate_callee (f := 99) rfl ?_); refine goesL_ (some 9) rfl rfl Tryz.func99 (by kernel_rfl) rfl #[.int .i64 a0] rfl (by (try simp only [List.map_toArray, List.map_cons, List.map_nil]); first | done | rfl | (simp only [List.length_drop, List.length_take]; rfl)) ?_; (with_reducible refine (impl_tables.calls k a0 t269 _ A2.out).mono ?_); rintro e w5 ⟨v270, rfl, ho0, hb⟩; refine ⟨_, rfl, ?_⟩; have n0_ := Aside0.mk (Kd.R_elder' (zr HO268.out) (Kd.R_base ho0) hb); have n1_ := Aside0.mk (Kd.R_lower ho0 (below_size (zh HB.out))); have n2_ := Aside0.mk (below_step (zh HB.out) hb); clear HO268; clear HB; have HO268 := n0_; have HO271 := n1_; have HB := n2_; clear n0_ n1_ n2_; (try clear hb); (try clear hb2); (try clear hk); (try clear hi); (try clear ho0); obtain ⟨Ao6, co6, eo6⟩ := Kd.R_slice HO271.out; subst eo6))
 go_loopg [3, 11] k (fun kq v3 v11 w' => ∃ (x3_1 : List (S46)) (x11_1 : Int), v11 = .int .i64 x11_1 ∧ Aside0 (impl_allGames.l0 kq a0 x3_1 t269 (t269.length : Int) x11_1 = some r) ∧ Aside0 (kq ≤ k) ∧ Aside0 (Kd.R k46 46 w' w.heap.size (fun k_ => some k_ ≠ ((.slice Ao6 t269.length co6) : Value).ownBlock) v3 x3_1) ∧ Aside0 (Kd.R (Kd.int .i64) 3 w' w.heap.size (fun _ => True) (.slice Ao6 t269.length co6) t269) ∧ Aside0 (Below w.heap.size w w'))
 case atStart => exact ⟨(y266), (0), (by first | rfl | (simp; done) | (simp [*]; done)), H', ⟨Nat.le_refl _⟩, ⟨by (with_reducible repeat (first | apply Kd.R_alloc | apply Kd.R_drewN | apply Kd.R_drew)); exact Kd.R_mono HO268.out (fun _ hk => hk.2)⟩, ⟨zr HO271.out⟩, ⟨zh HB.out⟩⟩
 case round =>
  clear H'
  try clear p2
  obtain ⟨x3_1, x11_1, rfl, HA, HK1, HO_3, HO_9, HB⟩ := hrel
  cases gk with
  | zero => exact absurd HA.out (by simp [impl_allGames.l0])
  | succ k1 =>
   have H := HA.out
   clear HA
   simp only [impl_allGames.l0] at H
   by_cases c7 : x11_1 < (t269.length : Int)
   rotate_left
   ·rw [if_neg c7] at H
    have c7b0 : decide (x11_1 < (t269.length : Int)) = false := decide_eq_false c7
    clear c7
    replace H := Option.bind_eq_some_iff.mp H
    obtain ⟨t_, A540, H⟩ := H
    replace H : (some t_) = some r := H
    have A54 := Aside0.mk A540
    clear A540
    obtain rfl := Option.some.inj H
    obtain ⟨Ao55, co55, eo55⟩ := Kd.R_slice HO_3.out
    subst eo55
    go_wp2_with (first | ((with_reducible refine gate_callee (f := 105) rfl ?_); refine goesL_ (some 38) rfl rfl Tryz.func105 (by kernel_rfl) rfl #[.slice Ao55 x3_1.length co55, .func (.func 106) #[] #[]] rfl (by (try simp only [List.map_toArray, List.map_cons, List.map_nil]); first | done | rfl | (simp only [List.length_drop, List.length_take]; rfl)) ?_; refine (sortGames.calls x3_1 t_ _ _ w.heap.size (fun _ => True) _ ?side1 A54.out).mono ?_; (case side1 => exact Kd.R_mono (zr HO_3.out) (fun _ _ => trivial)); rintro e w' ⟨rfl, hs_, hl_, hg_⟩; refine ⟨_, rfl, ?_⟩; have n0_ := Aside0.mk hs_; have hB_ := ((zh HB.out) : Below w.heap.size w _); have n2_ := Aside0.mk (Below.grown hB_ hg_ (below_size hB_) (Kd.R_base HO_3.out)); (try clear HO_9); clear HO_3; clear HB; have HO_3 := n0_; have HB := n2_; clear n0_ n2_ hs_ hl_ hg_ hB_))
    go_ret
    exact ⟨_, by first | rfl | (simp [*, errW_none, errW_some] <;> rfl), by (with_reducible repeat (first | apply Kd.R_alloc | apply Kd.R_drewN | apply Kd.R_drew)); exact Kd.R_mono HO_3.out (fun _ hk => trivial), zh HB.out⟩
   rw [if_pos c7] at H
   have c7b0 : decide (x11_1 < (t269.length : Int)) = true := decide_eq_true c7
   clear c7
   by_cases c8 : 0 ≤ x11_1
   rotate_left
   ·rw [if_neg c8] at H
    exact absurd H (by simp)
   rw [if_pos c8] at H
   have c8b0 : decide (0 ≤ x11_1) = true := decide_eq_true c8
   clear c8
   by_cases c9 : x11_1 < (t269.length : Int)
   rotate_left
   ·rw [if_neg c9] at H
    exact absurd H (by simp)
   rw [if_pos c9] at H
   have c9b0 : decide (x11_1 < (t269.length : Int)) = true := decide_eq_true c9
   clear c9
   replace H := Option.bind_eq_some_iff.mp H
   obtain ⟨⟨t274, t275⟩, A100, H⟩ := H
   replace H : (if 0 < (t275.length : Int) then (if rdOf false t275 0 = true then (impl_allGames.l0 k1 a0 x3_1 t269 (t269.length : Int) (wrap64 (x11_1 + 1))) else ((impl_votes_all.f t274 t275).bind fun t280 => (if 0 ≤ t280 then (if t280 < (t275.length : Int) then (if rdOf false t275 t280 = true then ((impl_votes_game.f k1 t274 t275).bind fun bt282 => (if x3_1.length < 4398046511104 then (impl_allGames.l0 k1 a0 (x3_1 ++ [(⟨bt282.1, bt282.2⟩ : S46)]) t269 (t269.length : Int) (wrap64 (x11_1 + 1))) else (none))) else (impl_allGames.l0 k1 a0 x3_1 t269 (t269.length : Int) (wrap64 (x11_1 + 1)))) else (none)) else (none)))) else (none)) = some r := H
   have A10 := Aside0.mk A100
   clear A100
   by_cases c11 : 0 < (t275.length : Int)
   rotate_left
   ·rw [if_neg c11] at H
    exact absurd H (by simp)
   rw [if_pos c11] at H
   have c11b0 : decide (0 < (t275.length : Int)) = true := decide_eq_true c11
   have c11b1 : decide (0 < t275.length) = true := decide_eq_true (by omega)
   clear c11
   obtain ⟨bq12, hbq12⟩ : ∃ b_ : Bool, b_ = (rdOf false t275 0) := ⟨_, rfl⟩
   replace H : (if bq12 = true then (impl_allGames.l0 k1 a0 x3_1 t269 (t269.length : Int) (wrap64 (x11_1 + 1))) else ((impl_votes_all.f t274 t275).bind fun t280 => (if 0 ≤ t280 then (if t280 < (t275.length : Int) then (if rdOf false t275 t280 = true then ((impl_votes_game.f k1 t274 t275).bind fun bt282 => (if x3_1.length < 4398046511104 then (impl_allGames.l0 k1 a0 (x3_1 ++ [(⟨bt282.1, bt282.2⟩ : S46)]) t269 (t269.length : Int) (wrap64 (x11_1 + 1))) else (none))) else (impl_allGames.l0 k1 a0 x3_1 t269 (t269.length : Int) (wrap64 (x11_1 + 1)))) else (none)) else (none)))) = some r := by rw [← hbq12] at H; exact H
   have Nbq12 := Aside0.mk hbq12
   clear hbq12
   by_cases c13 : bq12 = true
   ·subst c13
    have H1 : (impl_allGames.l0 k1 a0 x3_1 t269 (t269.length : Int) (wrap64 (x11_1 + 1))) = some r := by rw [if_pos rfl] at H; exact H
    clear H
    have H := H1
    clear H1
    have H' := Aside0.mk H
    clear H
    have p272 : 0 ≤ (x11_1 : Int) := of_decide_eq_true (by first | (with_reducible assumption) | assumption)
    have q272 : x11_1 < (t269.length : Int) := of_decide_eq_true (by first | (with_reducible assumption) | assumption)
    obtain ⟨ad272, e272, hx272_0⟩ := Kd.at_int (Kd.R_reads' HO_9.out).2.2 x11_1 p272 q272
    cases e272
    replace p272 := eq_true p272
    replace q272 := eq_true q272
    try go_wp2_with (first | ((with_reducible refine gate_dst (N := 5) rfl ?_); refine box_event ?hg (N := 5) ?hd (cs := #[.int .i64 0]) (t := 3) ?hr ?_; (case hd => rfl); (case hg => rfl); (case hr => first | (go_simp; done) | (go_simp; rfl)); intro gb273 hg w14 hbox hb; have n0_ := Aside0.mk (Kd.R_below (Kd.R_elderB (zr HO_3.out) gb273 (Nat.le_of_eq hg.symm)) hb); have n1_ := Aside0.mk (Kd.R_below (Kd.R_elderB (zr HO_9.out) gb273 (Nat.le_of_eq hg.symm)) hb); have n2_ := Aside0.mk (below_step (zh HB.out) hb); have n3_ := Aside0.mk (hbox); have n4_ := Aside0.mk ((by rw [hg]; exact (below_size (zh HB.out)) : w.heap.size ≤ gb273)); have n5_ := Aside0.mk ((by rw [hg]; exact (below_size (zh HB.out)) : w.heap.size ≤ gb273)); clear HO_3; clear HO_9; clear HB; have HO_3 := n0_; have HO_9 := n1_; have HB := n2_; have BK273 := n3_; have GW273 := n4_; have GE273 := n5_; clear n0_ n1_ n2_ n3_ n4_ n5_; clear hb hbox hg; have hcz15_0 : w14.cell? ⟨gb273, 0, none⟩ = some (.int .i64 0) := (blk_cell BK273.out 0).trans rfl; have hfz15_0 := blk_frozen BK273.out 0) | ((with_reducible refine gate_callee (f := 100) rfl ?_); refine goesL_ (some 17) rfl rfl Tryz.func100 (by kernel_rfl) rfl #[.int .i64 a0, .func (.func 101) #[] #[.pointer (some ⟨gb273, 0, none⟩)]] rfl (by (try simp only [List.map_toArray, List.map_cons, List.map_nil]); first | done | rfl | (simp only [List.length_drop, List.length_take]; rfl)) ?_; (with_reducible refine (votesOf_allGames.calls k1 a0 (rd t269 x11_1) t274 t275 _ gb273 (by first | exact (blk_cell (zb BK273.out) 0).trans rfl | exact (blk_cell (blk_put (zb BK273.out) 0 _ rfl) 0).trans rfl | exact zb BK273.out) A10.out).mono ?_); rintro e w16 ⟨v276, rfl, ho0, hb⟩; refine ⟨_, rfl, ?_⟩; have n0_ := Aside0.mk (Kd.R_below (by (with_reducible repeat (first | apply Kd.R_alloc | apply Kd.R_drewN | apply Kd.R_drew)); exact (Kd.R_mono (Kd.R_far (p := ⟨gb273, 0, none⟩) (Kd.R_mono HO_3.out (fun k_ hk => (⟨hk, hk.2⟩ : _ ∧ k_ ≠ gb273))) (fun _ hk => hk.2) (.int .i64 (rd t269 x11_1))) (fun _ h_ => h_.1))) hb); have n1_ := Aside0.mk (Kd.R_below (by (with_reducible repeat (first | apply Kd.R_alloc | apply Kd.R_drewN | apply Kd.R_drew)); exact (Kd.R_mono (Kd.R_far (p := ⟨gb273, 0, none⟩) (Kd.R_mono HO_9.out (fun k_ hk => (⟨hk, hk.2⟩ : _ ∧ k_ ≠ gb273))) (fun _ hk => hk.2) (.int .i64 (rd t269 x11_1))) (fun _ h_ => h_.1))) hb); have n2_ := Aside0.mk (Kd.R_lower ho0 (below_size (zh HB.out))); have n3_ := Aside0.mk (blk_below (g := gb273) (o := .cells #[.int .i64 (rd t269 x11_1)] 3 (0, 0)) (by (with_reducible repeat (first | refine blk_drewN ?_ _ | refine blk_drew ?_ | refine blk_alloc ?_ _)); refine blk_put (cs := #[.int .i64 0]) ?_ 0 _ rfl; (with_reducible repeat (first | refine blk_drewN ?_ _ | refine blk_drew ?_ | refine blk_alloc ?_ _)); exact BK273.out) hb); have n4_ := Aside0.mk (below_step (zh HB.out) hb); clear HO_3; clear HO_9; clear BK273; clear HB; have HO_3 := n0_; have HO_9 := n1_; have HO277 := n2_; have BK273 := n3_; have HB := n4_; clear n0_ n1_ n2_ n3_ n4_; (try clear hb); (try clear hb2); (try clear hk); (try clear hi); (try clear ho0)) | ((with_reducible refine gate_dst (N := 6) rfl ?_); refine box_event ?hg (N := 6) ?hd (cs := #[.int .i64 0, .slice none 0 0]) (t := 86) ?hr ?_; (case hd => rfl); (case hg => rfl); (case hr => first | (go_simp; done) | (go_simp; rfl)); intro gb278 hg w17 hbox hb; have n0_ := Aside0.mk (Kd.R_below (zr HO_3.out) hb); have n1_ := Aside0.mk (Kd.R_below (zr HO_9.out) hb); have n2_ := Aside0.mk (Kd.R_below (zr HO277.out) hb); have n3_ := Aside0.mk (blk_below (g := gb273) (o := .cells #[.int .i64 (rd t269 x11_1)] 3 (0, 0)) (zb BK273.out) hb); have n4_ := Aside0.mk (below_step (zh HB.out) hb); have n5_ := Aside0.mk (hbox); have n6_ := Aside0.mk ((by rw [hg]; exact (below_size (zh HB.out)) : w.heap.size ≤ gb278)); have n7_ := Aside0.mk ((by rw [hg]; exact (below_size (zh HB.out)) : w.heap.size ≤ gb278)); have n8_ := Aside0.mk ((by rw [hg]; exact Nat.ne_of_lt (blk_lt (g := gb273) (o := .cells #[.int .i64 (rd t269 x11_1)] 3 (0, 0)) (zb BK273.out)) : gb273 ≠ gb278)); have n9_ := Aside0.mk ((by rw [hg]; exact Nat.ne_of_gt (blk_lt (g := gb273) (o := .cells #[.int .i64 (rd t269 x11_1)] 3 (0, 0)) (zb BK273.out)) : gb278 ≠ gb273)); clear HO_3; clear HO_9; clear HO277; clear BK273; clear HB; have HO_3 := n0_; have HO_9 := n1_; have HO277 := n2_; have BK273 := n3_; have HB := n4_; have BK278 := n5_; have GW278 := n6_; have GE278 := n7_; have NB273_278 := n8_; have NB278_273 := n9_; clear n0_ n1_ n2_ n3_ n4_ n5_ n6_ n7_ n8_ n9_; clear hb hbox hg; have hnb18 := NB278_273.out; have hnc18 := NB273_278.out; have hcz19_0 : w17.cell? ⟨gb278, 0, none⟩ = some (.int .i64 0) := (blk_cell BK278.out 0).trans rfl; have hcz19_1 : w17.cell? ⟨gb278, 1, none⟩ = some (.slice none 0 0) := (blk_cell BK278.out 1).trans rfl; have hfz19_0 := blk_frozen BK278.out 0; have hfz19_1 := blk_frozen BK278.out 1; obtain ⟨Ao20, co20, eo20⟩ := Kd.R_slice HO277.out; subst eo20))
    have n0_ : Aside0 (Kd.R k46 46 ((w17.setCell ⟨gb278, 0, none⟩ (.int .i64 t274)).setCell ⟨gb278, 1, none⟩ (.slice Ao20 t275.length co20)) w.heap.size (fun k_ => some k_ ≠ (.slice (some ad272) t269.length co6 : Value).ownBlock ∧ k_ ≠ gb273) u3 x3_1) := ⟨by (with_reducible repeat (first | apply Kd.R_alloc | apply Kd.R_drewN | apply Kd.R_drew)); exact Kd.R_mono (Kd.R_far (p := ⟨gb278, 1, none⟩) (Kd.R_far (p := ⟨gb278, 0, none⟩) (Kd.R_types HO_3.out BK278.out (by decide)) (fun _ hk => hk.2) (.int .i64 t274)) (fun _ hk => hk.2) (.slice Ao20 t275.length co20)) (fun _ hk => ⟨hk.1.1, hk.1.2⟩)⟩
    have n1_ : Aside0 (Kd.R (Kd.int .i64) 3 ((w17.setCell ⟨gb278, 0, none⟩ (.int .i64 t274)).setCell ⟨gb278, 1, none⟩ (.slice Ao20 t275.length co20)) w.heap.size (fun k_ => k_ ≠ gb273) (.slice (some ad272) t269.length co6) t269) := ⟨by (with_reducible repeat (first | apply Kd.R_alloc | apply Kd.R_drewN | apply Kd.R_drew)); exact Kd.R_mono (Kd.R_far (p := ⟨gb278, 1, none⟩) (Kd.R_far (p := ⟨gb278, 0, none⟩) (Kd.R_types HO_9.out BK278.out (by decide)) (fun _ hk => hk.2) (.int .i64 t274)) (fun _ hk => hk.2) (.slice Ao20 t275.length co20)) (fun _ hk => hk.1.2)⟩
    have n2_ : Aside0 (Kd.R Kd.bool 4 ((w17.setCell ⟨gb278, 0, none⟩ (.int .i64 t274)).setCell ⟨gb278, 1, none⟩ (.slice Ao20 t275.length co20)) w.heap.size (fun _ => True) (.slice Ao20 t275.length co20) t275) := ⟨by (with_reducible repeat (first | apply Kd.R_alloc | apply Kd.R_drewN | apply Kd.R_drew)); exact Kd.R_mono (Kd.R_far (p := ⟨gb278, 1, none⟩) (Kd.R_far (p := ⟨gb278, 0, none⟩) (Kd.R_types HO277.out BK278.out (by decide)) (fun _ hk => hk.2) (.int .i64 t274)) (fun _ hk => hk.2) (.slice Ao20 t275.length co20)) (fun _ hk => trivial)⟩
    have n3_ : Aside0 (((w17.setCell ⟨gb278, 0, none⟩ (.int .i64 t274)).setCell ⟨gb278, 1, none⟩ (.slice Ao20 t275.length co20)).heap[gb273]? = some (.cells #[.int .i64 (rd t269 x11_1)] 3 (0, 0))) := ⟨by (with_reducible repeat (first | refine blk_drewN ?_ _ | refine blk_drew ?_ | refine blk_alloc ?_ _)); refine blk_far ?_ NB273_278.out _; (with_reducible repeat (first | refine blk_drewN ?_ _ | refine blk_drew ?_ | refine blk_alloc ?_ _)); refine blk_far ?_ NB273_278.out _; (with_reducible repeat (first | refine blk_drewN ?_ _ | refine blk_drew ?_ | refine blk_alloc ?_ _)); exact BK273.out⟩
    have n4_ : Aside0 (((w17.setCell ⟨gb278, 0, none⟩ (.int .i64 t274)).setCell ⟨gb278, 1, none⟩ (.slice Ao20 t275.length co20)).heap[gb278]? = some (.cells #[.int .i64 t274, .slice Ao20 t275.length co20] 86 (0, 0))) := ⟨by (with_reducible repeat (first | refine blk_drewN ?_ _ | refine blk_drew ?_ | refine blk_alloc ?_ _)); refine blk_put (cs := #[.int .i64 t274, .slice none 0 0]) ?_ 1 _ rfl; (with_reducible repeat (first | refine blk_drewN ?_ _ | refine blk_drew ?_ | refine blk_alloc ?_ _)); refine blk_put (cs := #[.int .i64 0, .slice none 0 0]) ?_ 0 _ rfl; (with_reducible repeat (first | refine blk_drewN ?_ _ | refine blk_drew ?_ | refine blk_alloc ?_ _)); exact BK278.out⟩
    have n5_ : Aside0 (Below w.heap.size w ((w17.setCell ⟨gb278, 0, none⟩ (.int .i64 t274)).setCell ⟨gb278, 1, none⟩ (.slice Ao20 t275.length co20))) := ⟨zh HB.out⟩
    (try clear HO_3)
    (try clear HO_9)
    (try clear HO277)
    (try clear BK273)
    (try clear BK278)
    (try clear HB)
    generalize ((w17.setCell ⟨gb278, 0, none⟩ (.int .i64 t274)).setCell ⟨gb278, 1, none⟩ (.slice Ao20 t275.length co20)) = w21 at n0_ n1_ n2_ n3_ n4_ n5_ ⊢
    have HO_3 := n0_
    have HO_9 := n1_
    have HO277 := n2_
    have BK273 := n3_
    have BK278 := n4_
    have HB := n5_
    clear n0_ n1_ n2_ n3_ n4_ n5_
    have n0_ := Aside0.mk (Kd.R_drew HO_3.out)
    have n1_ := Aside0.mk (Kd.R_drew HO_9.out)
    have n2_ := Aside0.mk (Kd.R_drew HO277.out)
    have n3_ := Aside0.mk (blk_drew BK273.out)
    have n4_ := Aside0.mk (blk_drew BK278.out)
    have n5_ := Aside0.mk (below_drew1 HB.out)
    clear HO_3
    clear HO_9
    clear HO277
    clear BK273
    clear BK278
    clear HB
    have HO_3 := n0_
    have HO_9 := n1_
    have HO277 := n2_
    have BK273 := n3_
    have BK278 := n4_
    have HB := n5_
    clear n0_ n1_ n2_ n3_ n4_ n5_
    have p279 : 0 ≤ (0 : Int) := (by omega)
    have q279 : 0 < (t275.length : Int) := of_decide_eq_true (by first | (with_reducible assumption) | assumption)
    obtain ⟨ad279, e279, hx279_0⟩ := Kd.at_bool (Kd.R_reads' HO277.out).2.2 0 p279 q279
    (try rw [← Nbq12.out] at hx279_0)
    cases e279
    have qi279 : (0 < t275.length) = True := eq_true (by omega)
    (try rw [show ((0 : Int)).toNat = 0 from rfl] at hx279_0)
    (try rw [Addr.add_zero'] at hx279_0)
    replace p279 := eq_true p279
    replace q279 := eq_true q279
    refine start_ (n := 13) (S := fun w' => w'.cell? ⟨gb278, 0, none⟩ = some (.int .i64 t274) ∧ w'.cell? ⟨gb278, 1, none⟩ = some (.slice (some ad279) t275.length co20) ∧ w'.cell? ad279 = some (.bool true)) (ds := []) (tb 13 0) (by kernel_rfl) rfl rfl ⟨(blk_cell BK278.out 0).trans rfl, (blk_cell BK278.out 1).trans rfl, hx279_0⟩ (fun hHeld => ?_); refine with_tabW impl_allGames.tab6 impl_allGames.bits6 (fun HT_ HW_ => ?_)
    generalize w21.drew = w22 at HO_3 HO_9 HO277 BK273 BK278 HB hx279_0 hHeld ⊢
    refine zu (i := 0) (N := some 18) (tb 13 1) rfl rfl HT_ ?_
    refine take_ (i := 1) (N := some 19) (v := ?_) (a' := ?_) (tb 13 3) rfl rfl (take_ofW HT_.out HW_.out (by kernel_rfl)) (fun _ _ _ h => h) (Or.inl ⟨by rfl, ?_⟩) hHeld ?_ ?_
    rotate_left
    ·rintro w' ⟨s0, s1, s2⟩
     go_simp
     with_reducible rfl
    rotate_left
    ·simp only [Act.put, List.setIfInBounds_toArray, List.set_cons_zero, List.set_cons_succ, i64_w, i32_w]
     rfl
    refine zu (i := 2) (N := some 20) (tb 13 7) rfl rfl HT_ ?_
    refine take_ (i := 3) (N := some 21) (v := ?_) (a' := ?_) (tb 13 15) rfl rfl (take_ofW HT_.out HW_.out (by kernel_rfl)) (fun _ _ _ h => h) (Or.inl ⟨by rfl, ?_⟩) hHeld ?_ ?_
    rotate_left
    ·rintro w' ⟨s0, s1, s2⟩
     go_simp
     with_reducible rfl
    rotate_left
    ·simp only [Act.put, List.setIfInBounds_toArray, List.set_cons_zero, List.set_cons_succ, i64_w, i32_w]
     rfl
    refine zu (i := 4) (N := some 22) (tb 13 31) rfl rfl HT_ ?_
    refine zu (i := 5) (N := some 23) (tb 13 63) rfl rfl HT_ ?_
    refine zv (i := 6) (N := some 24) (tb 13 127) rfl rfl HT_ ?_
    refine zv (i := 7) (N := some 25) (tb 13 255) rfl rfl HT_ ?_
    refine zv (i := 8) (N := some 26) (tb 13 511) rfl rfl HT_ ?_
    refine zv (i := 9) (N := some 27) (tb 13 1023) rfl rfl HT_ ?_
    refine zv (i := 10) (N := some 28) (tb 13 2047) rfl rfl HT_ ?_
    refine zv (i := 11) (N := some 29) (tb 13 4095) rfl rfl HT_ ?_
    refine zu (i := 12) (N := some 30) (tb 13 8191) rfl rfl HT_ ?_
    refine done_ (done_of HT_.out (by kernel_rfl)) ?_
    try go_wp2
    go_roundg k1
    case measure => have := HK1.out; omega
    case rel => exact ⟨(x3_1), (wrap64 (x11_1 + 1)), (by first | rfl | (simp; done) | (simp [*]; done)), H', ⟨by have := HK1.out; omega⟩, ⟨by (with_reducible repeat (first | apply Kd.R_alloc | apply Kd.R_drewN | apply Kd.R_drew)); exact Kd.R_mono HO_3.out (fun _ hk => hk.1)⟩, ⟨by (with_reducible repeat (first | apply Kd.R_alloc | apply Kd.R_drewN | apply Kd.R_drew)); exact Kd.R_mono HO_9.out (fun _ hk => trivial)⟩, ⟨zh HB.out⟩⟩
   replace c13 := Bool.eq_false_iff.mpr c13
   subst c13
   have H1 : ((impl_votes_all.f t274 t275).bind fun t280 => (if 0 ≤ t280 then (if t280 < (t275.length : Int) then (if rdOf false t275 t280 = true then ((impl_votes_game.f k1 t274 t275).bind fun bt282 => (if x3_1.length < 4398046511104 then (impl_allGames.l0 k1 a0 (x3_1 ++ [(⟨bt282.1, bt282.2⟩ : S46)]) t269 (t269.length : Int) (wrap64 (x11_1 + 1))) else (none))) else (impl_allGames.l0 k1 a0 x3_1 t269 (t269.length : Int) (wrap64 (x11_1 + 1)))) else (none)) else (none))) = some r := by rw [if_neg (show ¬ (false = true) by decide)] at H; exact H
   clear H
   have H := H1
   clear H1
   replace H := Option.bind_eq_some_iff.mp H
   obtain ⟨t280, A230, H⟩ := H
   replace H : (if 0 ≤ t280 then (if t280 < (t275.length : Int) then (if rdOf false t275 t280 = true then ((impl_votes_game.f k1 t274 t275).bind fun bt282 => (if x3_1.length < 4398046511104 then (impl_allGames.l0 k1 a0 (x3_1 ++ [(⟨bt282.1, bt282.2⟩ : S46)]) t269 (t269.length : Int) (wrap64 (x11_1 + 1))) else (none))) else (impl_allGames.l0 k1 a0 x3_1 t269 (t269.length : Int) (wrap64 (x11_1 + 1)))) else (none)) else (none)) = some r := H
   have A23 := Aside0.mk A230
   clear A230
   by_cases c24 : 0 ≤ t280
   rotate_left
   ·rw [if_neg c24] at H
    exact absurd H (by simp)
   rw [if_pos c24] at H
   have c24b0 : decide (0 ≤ t280) = true := decide_eq_true c24
   clear c24
   by_cases c25 : t280 < (t275.length : Int)
   rotate_left
   ·rw [if_neg c25] at H
    exact absurd H (by simp)
   rw [if_pos c25] at H
   have c25b0 : decide (t280 < (t275.length : Int)) = true := decide_eq_true c25
   clear c25
   obtain ⟨bq26, hbq26⟩ : ∃ b_ : Bool, b_ = (rdOf false t275 t280) := ⟨_, rfl⟩
   replace H : (if bq26 = true then ((impl_votes_game.f k1 t274 t275).bind fun bt282 => (if x3_1.length < 4398046511104 then (impl_allGames.l0 k1 a0 (x3_1 ++ [(⟨bt282.1, bt282.2⟩ : S46)]) t269 (t269.length : Int) (wrap64 (x11_1 + 1))) else (none))) else (impl_allGames.l0 k1 a0 x3_1 t269 (t269.length : Int) (wrap64 (x11_1 + 1)))) = some r := by rw [← hbq26] at H; exact H
   have Nbq26 := Aside0.mk hbq26
   clear hbq26
   by_cases c27 : bq26 = true
   rotate_left
   ·replace c27 := Bool.eq_false_iff.mpr c27
    subst c27
    have H1 : (impl_allGames.l0 k1 a0 x3_1 t269 (t269.length : Int) (wrap64 (x11_1 + 1))) = some r := by rw [if_neg (show ¬ (false = true) by decide)] at H; exact H
    clear H
    have H := H1
    clear H1
    have H' := Aside0.mk H
    clear H
    have p272 : 0 ≤ (x11_1 : Int) := of_decide_eq_true (by first | (with_reducible assumption) | assumption)
    have q272 : x11_1 < (t269.length : Int) := of_decide_eq_true (by first | (with_reducible assumption) | assumption)
    obtain ⟨ad272, e272, hx272_0⟩ := Kd.at_int (Kd.R_reads' HO_9.out).2.2 x11_1 p272 q272
    cases e272
    replace p272 := eq_true p272
    replace q272 := eq_true q272
    try go_wp2_with (first | ((with_reducible refine gate_dst (N := 5) rfl ?_); refine box_event ?hg (N := 5) ?hd (cs := #[.int .i64 0]) (t := 3) ?hr ?_; (case hd => rfl); (case hg => rfl); (case hr => first | (go_simp; done) | (go_simp; rfl)); intro gb273 hg w44 hbox hb; have n0_ := Aside0.mk (Kd.R_below (Kd.R_elderB (zr HO_3.out) gb273 (Nat.le_of_eq hg.symm)) hb); have n1_ := Aside0.mk (Kd.R_below (Kd.R_elderB (zr HO_9.out) gb273 (Nat.le_of_eq hg.symm)) hb); have n2_ := Aside0.mk (below_step (zh HB.out) hb); have n3_ := Aside0.mk (hbox); have n4_ := Aside0.mk ((by rw [hg]; exact (below_size (zh HB.out)) : w.heap.size ≤ gb273)); have n5_ := Aside0.mk ((by rw [hg]; exact (below_size (zh HB.out)) : w.heap.size ≤ gb273)); clear HO_3; clear HO_9; clear HB; have HO_3 := n0_; have HO_9 := n1_; have HB := n2_; have BK273 := n3_; have GW273 := n4_; have GE273 := n5_; clear n0_ n1_ n2_ n3_ n4_ n5_; clear hb hbox hg; have hcz45_0 : w44.cell? ⟨gb273, 0, none⟩ = some (.int .i64 0) := (blk_cell BK273.out 0).trans rfl; have hfz45_0 := blk_frozen BK273.out 0) | ((with_reducible refine gate_callee (f := 100) rfl ?_); refine goesL_ (some 17) rfl rfl Tryz.func100 (by kernel_rfl) rfl #[.int .i64 a0, .func (.func 101) #[] #[.pointer (some ⟨gb273, 0, none⟩)]] rfl (by (try simp only [List.map_toArray, List.map_cons, List.map_nil]); first | done | rfl | (simp only [List.length_drop, List.length_take]; rfl)) ?_; (with_reducible refine (votesOf_allGames.calls k1 a0 (rd t269 x11_1) t274 t275 _ gb273 (by first | exact (blk_cell (zb BK273.out) 0).trans rfl | exact (blk_cell (blk_put (zb BK273.out) 0 _ rfl) 0).trans rfl | exact zb BK273.out) A10.out).mono ?_); rintro e w46 ⟨v276, rfl, ho0, hb⟩; refine ⟨_, rfl, ?_⟩; have n0_ := Aside0.mk (Kd.R_below (by (with_reducible repeat (first | apply Kd.R_alloc | apply Kd.R_drewN | apply Kd.R_drew)); exact (Kd.R_mono (Kd.R_far (p := ⟨gb273, 0, none⟩) (Kd.R_mono HO_3.out (fun k_ hk => (⟨hk, hk.2⟩ : _ ∧ k_ ≠ gb273))) (fun _ hk => hk.2) (.int .i64 (rd t269 x11_1))) (fun _ h_ => h_.1))) hb); have n1_ := Aside0.mk (Kd.R_below (by (with_reducible repeat (first | apply Kd.R_alloc | apply Kd.R_drewN | apply Kd.R_drew)); exact (Kd.R_mono (Kd.R_far (p := ⟨gb273, 0, none⟩) (Kd.R_mono HO_9.out (fun k_ hk => (⟨hk, hk.2⟩ : _ ∧ k_ ≠ gb273))) (fun _ hk => hk.2) (.int .i64 (rd t269 x11_1))) (fun _ h_ => h_.1))) hb); have n2_ := Aside0.mk (Kd.R_lower ho0 (below_size (zh HB.out))); have n3_ := Aside0.mk (blk_below (g := gb273) (o := .cells #[.int .i64 (rd t269 x11_1)] 3 (0, 0)) (by (with_reducible repeat (first | refine blk_drewN ?_ _ | refine blk_drew ?_ | refine blk_alloc ?_ _)); refine blk_put (cs := #[.int .i64 0]) ?_ 0 _ rfl; (with_reducible repeat (first | refine blk_drewN ?_ _ | refine blk_drew ?_ | refine blk_alloc ?_ _)); exact BK273.out) hb); have n4_ := Aside0.mk (below_step (zh HB.out) hb); clear HO_3; clear HO_9; clear BK273; clear HB; have HO_3 := n0_; have HO_9 := n1_; have HO277 := n2_; have BK273 := n3_; have HB := n4_; clear n0_ n1_ n2_ n3_ n4_; (try clear hb); (try clear hb2); (try clear hk); (try clear hi); (try clear ho0)) | ((with_reducible refine gate_dst (N := 6) rfl ?_); refine box_event ?hg (N := 6) ?hd (cs := #[.int .i64 0, .slice none 0 0]) (t := 86) ?hr ?_; (case hd => rfl); (case hg => rfl); (case hr => first | (go_simp; done) | (go_simp; rfl)); intro gb278 hg w47 hbox hb; have n0_ := Aside0.mk (Kd.R_below (zr HO_3.out) hb); have n1_ := Aside0.mk (Kd.R_below (zr HO_9.out) hb); have n2_ := Aside0.mk (Kd.R_below (zr HO277.out) hb); have n3_ := Aside0.mk (blk_below (g := gb273) (o := .cells #[.int .i64 (rd t269 x11_1)] 3 (0, 0)) (zb BK273.out) hb); have n4_ := Aside0.mk (below_step (zh HB.out) hb); have n5_ := Aside0.mk (hbox); have n6_ := Aside0.mk ((by rw [hg]; exact (below_size (zh HB.out)) : w.heap.size ≤ gb278)); have n7_ := Aside0.mk ((by rw [hg]; exact (below_size (zh HB.out)) : w.heap.size ≤ gb278)); have n8_ := Aside0.mk ((by rw [hg]; exact Nat.ne_of_lt (blk_lt (g := gb273) (o := .cells #[.int .i64 (rd t269 x11_1)] 3 (0, 0)) (zb BK273.out)) : gb273 ≠ gb278)); have n9_ := Aside0.mk ((by rw [hg]; exact Nat.ne_of_gt (blk_lt (g := gb273) (o := .cells #[.int .i64 (rd t269 x11_1)] 3 (0, 0)) (zb BK273.out)) : gb278 ≠ gb273)); clear HO_3; clear HO_9; clear HO277; clear BK273; clear HB; have HO_3 := n0_; have HO_9 := n1_; have HO277 := n2_; have BK273 := n3_; have HB := n4_; have BK278 := n5_; have GW278 := n6_; have GE278 := n7_; have NB273_278 := n8_; have NB278_273 := n9_; clear n0_ n1_ n2_ n3_ n4_ n5_ n6_ n7_ n8_ n9_; clear hb hbox hg; have hnb48 := NB278_273.out; have hnc48 := NB273_278.out; have hcz49_0 : w47.cell? ⟨gb278, 0, none⟩ = some (.int .i64 0) := (blk_cell BK278.out 0).trans rfl; have hcz49_1 : w47.cell? ⟨gb278, 1, none⟩ = some (.slice none 0 0) := (blk_cell BK278.out 1).trans rfl; have hfz49_0 := blk_frozen BK278.out 0; have hfz49_1 := blk_frozen BK278.out 1; obtain ⟨Ao50, co50, eo50⟩ := Kd.R_slice HO277.out; subst eo50))
    have n0_ : Aside0 (Kd.R k46 46 ((w47.setCell ⟨gb278, 0, none⟩ (.int .i64 t274)).setCell ⟨gb278, 1, none⟩ (.slice Ao50 t275.length co50)) w.heap.size (fun k_ => some k_ ≠ (.slice (some ad272) t269.length co6 : Value).ownBlock ∧ k_ ≠ gb273) u3 x3_1) := ⟨by (with_reducible repeat (first | apply Kd.R_alloc | apply Kd.R_drewN | apply Kd.R_drew)); exact Kd.R_mono (Kd.R_far (p := ⟨gb278, 1, none⟩) (Kd.R_far (p := ⟨gb278, 0, none⟩) (Kd.R_types HO_3.out BK278.out (by decide)) (fun _ hk => hk.2) (.int .i64 t274)) (fun _ hk => hk.2) (.slice Ao50 t275.length co50)) (fun _ hk => ⟨hk.1.1, hk.1.2⟩)⟩
    have n1_ : Aside0 (Kd.R (Kd.int .i64) 3 ((w47.setCell ⟨gb278, 0, none⟩ (.int .i64 t274)).setCell ⟨gb278, 1, none⟩ (.slice Ao50 t275.length co50)) w.heap.size (fun k_ => k_ ≠ gb273) (.slice (some ad272) t269.length co6) t269) := ⟨by (with_reducible repeat (first | apply Kd.R_alloc | apply Kd.R_drewN | apply Kd.R_drew)); exact Kd.R_mono (Kd.R_far (p := ⟨gb278, 1, none⟩) (Kd.R_far (p := ⟨gb278, 0, none⟩) (Kd.R_types HO_9.out BK278.out (by decide)) (fun _ hk => hk.2) (.int .i64 t274)) (fun _ hk => hk.2) (.slice Ao50 t275.length co50)) (fun _ hk => hk.1.2)⟩
    have n2_ : Aside0 (Kd.R Kd.bool 4 ((w47.setCell ⟨gb278, 0, none⟩ (.int .i64 t274)).setCell ⟨gb278, 1, none⟩ (.slice Ao50 t275.length co50)) w.heap.size (fun _ => True) (.slice Ao50 t275.length co50) t275) := ⟨by (with_reducible repeat (first | apply Kd.R_alloc | apply Kd.R_drewN | apply Kd.R_drew)); exact Kd.R_mono (Kd.R_far (p := ⟨gb278, 1, none⟩) (Kd.R_far (p := ⟨gb278, 0, none⟩) (Kd.R_types HO277.out BK278.out (by decide)) (fun _ hk => hk.2) (.int .i64 t274)) (fun _ hk => hk.2) (.slice Ao50 t275.length co50)) (fun _ hk => trivial)⟩
    have n3_ : Aside0 (((w47.setCell ⟨gb278, 0, none⟩ (.int .i64 t274)).setCell ⟨gb278, 1, none⟩ (.slice Ao50 t275.length co50)).heap[gb273]? = some (.cells #[.int .i64 (rd t269 x11_1)] 3 (0, 0))) := ⟨by (with_reducible repeat (first | refine blk_drewN ?_ _ | refine blk_drew ?_ | refine blk_alloc ?_ _)); refine blk_far ?_ NB273_278.out _; (with_reducible repeat (first | refine blk_drewN ?_ _ | refine blk_drew ?_ | refine blk_alloc ?_ _)); refine blk_far ?_ NB273_278.out _; (with_reducible repeat (first | refine blk_drewN ?_ _ | refine blk_drew ?_ | refine blk_alloc ?_ _)); exact BK273.out⟩
    have n4_ : Aside0 (((w47.setCell ⟨gb278, 0, none⟩ (.int .i64 t274)).setCell ⟨gb278, 1, none⟩ (.slice Ao50 t275.length co50)).heap[gb278]? = some (.cells #[.int .i64 t274, .slice Ao50 t275.length co50] 86 (0, 0))) := ⟨by (with_reducible repeat (first | refine blk_drewN ?_ _ | refine blk_drew ?_ | refine blk_alloc ?_ _)); refine blk_put (cs := #[.int .i64 t274, .slice none 0 0]) ?_ 1 _ rfl; (with_reducible repeat (first | refine blk_drewN ?_ _ | refine blk_drew ?_ | refine blk_alloc ?_ _)); refine blk_put (cs := #[.int .i64 0, .slice none 0 0]) ?_ 0 _ rfl; (with_reducible repeat (first | refine blk_drewN ?_ _ | refine blk_drew ?_ | refine blk_alloc ?_ _)); exact BK278.out⟩
    have n5_ : Aside0 (Below w.heap.size w ((w47.setCell ⟨gb278, 0, none⟩ (.int .i64 t274)).setCell ⟨gb278, 1, none⟩ (.slice Ao50 t275.length co50))) := ⟨zh HB.out⟩
    (try clear HO_3)
    (try clear HO_9)
    (try clear HO277)
    (try clear BK273)
    (try clear BK278)
    (try clear HB)
    generalize ((w47.setCell ⟨gb278, 0, none⟩ (.int .i64 t274)).setCell ⟨gb278, 1, none⟩ (.slice Ao50 t275.length co50)) = w51 at n0_ n1_ n2_ n3_ n4_ n5_ ⊢
    have HO_3 := n0_
    have HO_9 := n1_
    have HO277 := n2_
    have BK273 := n3_
    have BK278 := n4_
    have HB := n5_
    clear n0_ n1_ n2_ n3_ n4_ n5_
    have n0_ := Aside0.mk (Kd.R_drew HO_3.out)
    have n1_ := Aside0.mk (Kd.R_drew HO_9.out)
    have n2_ := Aside0.mk (Kd.R_drew HO277.out)
    have n3_ := Aside0.mk (blk_drew BK273.out)
    have n4_ := Aside0.mk (blk_drew BK278.out)
    have n5_ := Aside0.mk (below_drew1 HB.out)
    clear HO_3
    clear HO_9
    clear HO277
    clear BK273
    clear BK278
    clear HB
    have HO_3 := n0_
    have HO_9 := n1_
    have HO277 := n2_
    have BK273 := n3_
    have BK278 := n4_
    have HB := n5_
    clear n0_ n1_ n2_ n3_ n4_ n5_
    have p279 : 0 ≤ (0 : Int) := (by omega)
    have q279 : 0 < (t275.length : Int) := of_decide_eq_true (by first | (with_reducible assumption) | assumption)
    obtain ⟨ad279, e279, hx279_0⟩ := Kd.at_bool (Kd.R_reads' HO277.out).2.2 0 p279 q279
    (try rw [← Nbq12.out] at hx279_0)
    (try rw [← Nbq26.out] at hx279_0)
    cases e279
    have qi279 : (0 < t275.length) = True := eq_true (by omega)
    (try rw [show ((0 : Int)).toNat = 0 from rfl] at hx279_0)
    (try rw [Addr.add_zero'] at hx279_0)
    replace p279 := eq_true p279
    replace q279 := eq_true q279
    have p281 : 0 ≤ (t280 : Int) := of_decide_eq_true (by first | (with_reducible assumption) | assumption)
    have q281 : t280 < (t275.length : Int) := of_decide_eq_true (by first | (with_reducible assumption) | assumption)
    obtain ⟨ad281, e281, hx281_0⟩ := Kd.at_bool (Kd.R_reads' HO277.out).2.2 t280 p281 q281
    (try rw [← Nbq12.out] at hx281_0)
    (try rw [← Nbq26.out] at hx281_0)
    obtain rfl : ad279 = ad281 := (by injection e281)
    replace p281 := eq_true p281
    replace q281 := eq_true q281
    refine start_ (n := 13) (S := fun w' => w'.cell? ⟨gb278, 0, none⟩ = some (.int .i64 t274) ∧ w'.cell? ⟨gb278, 1, none⟩ = some (.slice (some ad279) t275.length co50) ∧ w'.cell? ad279 = some (.bool false) ∧ w'.cell? (ad279.add (t280).toNat) = some (.bool false)) (ds := []) (tb 13 0) (by kernel_rfl) rfl rfl ⟨(blk_cell BK278.out 0).trans rfl, (blk_cell BK278.out 1).trans rfl, hx279_0, hx281_0⟩ (fun hHeld => ?_); refine with_tabW impl_allGames.tab6 impl_allGames.bits6 (fun HT_ HW_ => ?_)
    generalize w51.drew = w52 at HO_3 HO_9 HO277 BK273 BK278 HB hx279_0 hx281_0 hHeld ⊢
    refine zu (i := 0) (N := some 18) (tb 13 1) rfl rfl HT_ ?_
    refine take_ (i := 1) (N := some 19) (v := ?_) (a' := ?_) (tb 13 3) rfl rfl (take_ofW HT_.out HW_.out (by kernel_rfl)) (fun _ _ _ h => h) (Or.inl ⟨by rfl, ?_⟩) hHeld ?_ ?_
    rotate_left
    ·rintro w' ⟨s0, s1, s2, s3⟩
     go_simp
     with_reducible rfl
    rotate_left
    ·simp only [Act.put, List.setIfInBounds_toArray, List.set_cons_zero, List.set_cons_succ, i64_w, i32_w]
     rfl
    refine zu (i := 2) (N := some 20) (tb 13 7) rfl rfl HT_ ?_
    refine take_ (i := 3) (N := some 21) (v := ?_) (a' := ?_) (tb 13 15) rfl rfl (take_ofW HT_.out HW_.out (by kernel_rfl)) (fun _ _ _ h => h) (Or.inl ⟨by rfl, ?_⟩) hHeld ?_ ?_
    rotate_left
    ·rintro w' ⟨s0, s1, s2, s3⟩
     go_simp
     with_reducible rfl
    rotate_left
    ·simp only [Act.put, List.setIfInBounds_toArray, List.set_cons_zero, List.set_cons_succ, i64_w, i32_w]
     rfl
    refine zu (i := 4) (N := some 22) (tb 13 31) rfl rfl HT_ ?_
    refine zu (i := 5) (N := some 23) (tb 13 63) rfl rfl HT_ ?_
    refine zu (i := 6) (N := some 24) (tb 13 127) rfl rfl HT_ ?_
    refine take_ (i := 7) (N := some 25) (v := ?_) (a' := ?_) (tb 13 255) rfl rfl (take_ofW HT_.out HW_.out (by kernel_rfl)) (fun _ _ _ h => h) (Or.inl ⟨by rfl, ?_⟩) hHeld ?_ ?_
    rotate_left
    ·rintro w' ⟨s0, s1, s2, s3⟩
     go_simp
     with_reducible rfl
    rotate_left
    ·simp only [Act.put, List.setIfInBounds_toArray, List.set_cons_zero, List.set_cons_succ, i64_w, i32_w]
     rfl
    refine take_ (i := 8) (N := some 26) (v := ?_) (a' := ?_) (tb 13 511) rfl rfl (take_ofW HT_.out HW_.out (by kernel_rfl)) (fun _ _ _ h => h) (Or.inl ⟨by rfl, ?_⟩) hHeld ?_ ?_
    rotate_left
    ·rintro w' ⟨s0, s1, s2, s3⟩
     go_simp
     with_reducible rfl
    rotate_left
    ·simp only [Act.put, List.setIfInBounds_toArray, List.set_cons_zero, List.set_cons_succ, i64_w, i32_w]
     rfl
    refine one_ (i := 9) (N := some 27) (tb 13 1023) rfl rfl (one_of HT_.out (by kernel_rfl)) (by decide) (fun K hK => ?_)
    refine goes_ Tryz.func103 (by kernel_rfl) rfl #[.agg #[.int .i64 t274, .slice (some ad279) t275.length co50]] (by rfl) rfl rfl (by (try simp only [List.map_toArray, List.map_cons, List.map_nil]); first | done | rfl | (simp only [List.length_drop, List.length_take]; rfl)) ?_
    with_reducible refine (impl_votes_all.calls t274 _ _ t275 t280 _ ?side1 ?side2 A23.out).mono ?_
    (case side1 => repeat (first | exact (Kd.R_reads' HO277.out).2.2 | (with_reducible refine Kd.C_alloc ?_ _) | (with_reducible refine Kd.C_drewN ?_ _) | (with_reducible refine Kd.C_drew ?_)))
    (case side2 => exact (Kd.R_reads' HO277.out).2.1)
    rintro e w53 ⟨rfl, hb⟩
    have HS2_ := (hb.cell (World.block_lt_of_cell? _ _ (hHeld.2.2.1))).trans (hHeld.2.2.1)
    have HS3_ := (hb.cell (World.block_lt_of_cell? _ _ (hHeld.2.2.2))).trans (hHeld.2.2.2)
    refine ⟨_, rfl, ?_⟩
    have n0_ := Aside0.mk (Kd.R_below (zr HO_3.out) hb)
    have n1_ := Aside0.mk (Kd.R_below (zr HO_9.out) hb)
    have n2_ := Aside0.mk (Kd.R_below (zr HO277.out) hb)
    have n3_ := Aside0.mk (blk_below (g := gb273) (o := .cells #[.int .i64 (rd t269 x11_1)] 3 (0, 0)) (zb BK273.out) hb)
    have n4_ := Aside0.mk (blk_below (g := gb278) (o := .cells #[.int .i64 t274, .slice (some ad279) t275.length co50] 86 (0, 0)) (zb BK278.out) hb)
    have n5_ := Aside0.mk (below_step (zh HB.out) hb)
    clear HO_3
    clear HO_9
    clear HO277
    clear BK273
    clear BK278
    clear HB
    have HO_3 := n0_
    have HO_9 := n1_
    have HO277 := n2_
    have BK273 := n3_
    have BK278 := n4_
    have HB := n5_
    clear n0_ n1_ n2_ n3_ n4_ n5_
    (try clear hb)
    (try clear hb2)
    (try clear hk)
    (try clear hi)
    refine hK.out _ _ ⟨(blk_cell BK278.out 0).trans rfl, (blk_cell BK278.out 1).trans rfl, HS2_, HS3_⟩ (fun hHeld => ?_)
    clear hK K
    refine norm_ (a' := ?_) ?_ ?_
    rotate_left
    ·show Act.put _ (some 27) _ = _
     simp only [Act.put, List.setIfInBounds_toArray, List.set_cons_zero, List.set_cons_succ, i64_w, i32_w]
     rfl
    refine zu (i := 10) (N := some 28) (tb 13 2047) rfl rfl HT_ ?_
    refine take_ (i := 11) (N := some 29) (v := ?_) (a' := ?_) (tb 13 4095) rfl rfl (take_ofW HT_.out HW_.out (by kernel_rfl)) (fun _ _ _ h => h) (Or.inl ⟨by rfl, ?_⟩) hHeld ?_ ?_
    rotate_left
    ·rintro w' ⟨s0, s1, s2, s3⟩
     go_simp
     with_reducible rfl
    rotate_left
    ·simp only [Act.put, List.setIfInBounds_toArray, List.set_cons_zero, List.set_cons_succ, i64_w, i32_w]
     rfl
    refine zu (i := 12) (N := some 30) (tb 13 8191) rfl rfl HT_ ?_
    refine done_ (done_of HT_.out (by kernel_rfl)) ?_
    try go_wp2
    go_roundg k1
    case measure => have := HK1.out; omega
    case rel => exact ⟨(x3_1), (wrap64 (x11_1 + 1)), (by first | rfl | (simp; done) | (simp [*]; done)), H', ⟨by have := HK1.out; omega⟩, ⟨by (with_reducible repeat (first | apply Kd.R_alloc | apply Kd.R_drewN | apply Kd.R_drew)); exact Kd.R_mono HO_3.out (fun _ hk => hk.1)⟩, ⟨by (with_reducible repeat (first | apply Kd.R_alloc | apply Kd.R_drewN | apply Kd.R_drew)); exact Kd.R_mono HO_9.out (fun _ hk => trivial)⟩, ⟨zh HB.out⟩⟩
   subst c27
   have H1 : ((impl_votes_game.f k1 t274 t275).bind fun bt282 => (if x3_1.length < 4398046511104 then (impl_allGames.l0 k1 a0 (x3_1 ++ [(⟨bt282.1, bt282.2⟩ : S46)]) t269 (t269.length : Int) (wrap64 (x11_1 + 1))) else (none))) = some r := by rw [if_pos rfl] at H; exact H
   clear H
   have H := H1
   clear H1
   replace H := Option.bind_eq_some_iff.mp H
   obtain ⟨⟨t282, t283⟩, A280, H⟩ := H
   replace H : (if x3_1.length < 4398046511104 then (impl_allGames.l0 k1 a0 (x3_1 ++ [(⟨t282, t283⟩ : S46)]) t269 (t269.length : Int) (wrap64 (x11_1 + 1))) else (none)) = some r := H
   have A28 := Aside0.mk A280
   clear A280
   by_cases c29 : x3_1.length < 4398046511104
   rotate_left
   ·rw [if_neg c29] at H
    exact absurd H (by simp)
   rw [if_pos c29] at H
   have LMc29 := Aside0.mk c29
   clear c29
   obtain ⟨y286, hy286⟩ : ∃ y_ : List (S46), y_ = (x3_1 ++ [(⟨t282, t283⟩ : S46)]) := ⟨_, rfl⟩
   replace H : (impl_allGames.l0 k1 a0 y286 t269 (t269.length : Int) (wrap64 (x11_1 + 1))) = some r := by first | (rw [hy286]; with_reducible exact H) | (have H2_ := (Option.bind_some _ _).symm.trans H; rw [hy286]; with_reducible exact H2_) | (have H2_ := (Option.bind_some _ _).symm.trans H; with_reducible exact H2_) | with_reducible exact H | (rw [hy286]; exact H) | exact H
   have Ny286 := Aside0.mk hy286
   clear hy286
   have H' := Aside0.mk H
   clear H
   have p272 : 0 ≤ (x11_1 : Int) := of_decide_eq_true (by first | (with_reducible assumption) | assumption)
   have q272 : x11_1 < (t269.length : Int) := of_decide_eq_true (by first | (with_reducible assumption) | assumption)
   obtain ⟨ad272, e272, hx272_0⟩ := Kd.at_int (Kd.R_reads' HO_9.out).2.2 x11_1 p272 q272
   cases e272
   replace p272 := eq_true p272
   replace q272 := eq_true q272
   try go_wp2_with (first | ((with_reducible refine gate_dst (N := 5) rfl ?_); refine box_event ?hg (N := 5) ?hd (cs := #[.int .i64 0]) (t := 3) ?hr ?_; (case hd => rfl); (case hg => rfl); (case hr => first | (go_simp; done) | (go_simp; rfl)); intro gb273 hg w30 hbox hb; have n0_ := Aside0.mk (Kd.R_below (Kd.R_elderB (zr HO_3.out) gb273 (Nat.le_of_eq hg.symm)) hb); have n1_ := Aside0.mk (Kd.R_below (Kd.R_elderB (zr HO_9.out) gb273 (Nat.le_of_eq hg.symm)) hb); have n2_ := Aside0.mk (below_step (zh HB.out) hb); have n3_ := Aside0.mk (hbox); have n4_ := Aside0.mk ((by rw [hg]; exact (below_size (zh HB.out)) : w.heap.size ≤ gb273)); have n5_ := Aside0.mk ((by rw [hg]; exact (below_size (zh HB.out)) : w.heap.size ≤ gb273)); clear HO_3; clear HO_9; clear HB; have HO_3 := n0_; have HO_9 := n1_; have HB := n2_; have BK273 := n3_; have GW273 := n4_; have GE273 := n5_; clear n0_ n1_ n2_ n3_ n4_ n5_; clear hb hbox hg; have hcz31_0 : w30.cell? ⟨gb273, 0, none⟩ = some (.int .i64 0) := (blk_cell BK273.out 0).trans rfl; have hfz31_0 := blk_frozen BK273.out 0) | ((with_reducible refine gate_callee (f := 100) rfl ?_); refine goesL_ (some 17) rfl rfl Tryz.func100 (by kernel_rfl) rfl #[.int .i64 a0, .func (.func 101) #[] #[.pointer (some ⟨gb273, 0, none⟩)]] rfl (by (try simp only [List.map_toArray, List.map_cons, List.map_nil]); first | done | rfl | (simp only [List.length_drop, List.length_take]; rfl)) ?_; (with_reducible refine (votesOf_allGames.calls k1 a0 (rd t269 x11_1) t274 t275 _ gb273 (by first | exact (blk_cell (zb BK273.out) 0).trans rfl | exact (blk_cell (blk_put (zb BK273.out) 0 _ rfl) 0).trans rfl | exact zb BK273.out) A10.out).mono ?_); rintro e w32 ⟨v276, rfl, ho0, hb⟩; refine ⟨_, rfl, ?_⟩; have n0_ := Aside0.mk (Kd.R_below (by (with_reducible repeat (first | apply Kd.R_alloc | apply Kd.R_drewN | apply Kd.R_drew)); exact (Kd.R_mono (Kd.R_far (p := ⟨gb273, 0, none⟩) (Kd.R_mono HO_3.out (fun k_ hk => (⟨hk, hk.2⟩ : _ ∧ k_ ≠ gb273))) (fun _ hk => hk.2) (.int .i64 (rd t269 x11_1))) (fun _ h_ => h_.1))) hb); have n1_ := Aside0.mk (Kd.R_below (by (with_reducible repeat (first | apply Kd.R_alloc | apply Kd.R_drewN | apply Kd.R_drew)); exact (Kd.R_mono (Kd.R_far (p := ⟨gb273, 0, none⟩) (Kd.R_mono HO_9.out (fun k_ hk => (⟨hk, hk.2⟩ : _ ∧ k_ ≠ gb273))) (fun _ hk => hk.2) (.int .i64 (rd t269 x11_1))) (fun _ h_ => h_.1))) hb); have n2_ := Aside0.mk (Kd.R_lower ho0 (below_size (zh HB.out))); have n3_ := Aside0.mk (blk_below (g := gb273) (o := .cells #[.int .i64 (rd t269 x11_1)] 3 (0, 0)) (by (with_reducible repeat (first | refine blk_drewN ?_ _ | refine blk_drew ?_ | refine blk_alloc ?_ _)); refine blk_put (cs := #[.int .i64 0]) ?_ 0 _ rfl; (with_reducible repeat (first | refine blk_drewN ?_ _ | refine blk_drew ?_ | refine blk_alloc ?_ _)); exact BK273.out) hb); have n4_ := Aside0.mk (below_step (zh HB.out) hb); clear HO_3; clear HO_9; clear BK273; clear HB; have HO_3 := n0_; have HO_9 := n1_; have HO277 := n2_; have BK273 := n3_; have HB := n4_; clear n0_ n1_ n2_ n3_ n4_; (try clear hb); (try clear hb2); (try clear hk); (try clear hi); (try clear ho0)) | ((with_reducible refine gate_dst (N := 6) rfl ?_); refine box_event ?hg (N := 6) ?hd (cs := #[.int .i64 0, .slice none 0 0]) (t := 86) ?hr ?_; (case hd => rfl); (case hg => rfl); (case hr => first | (go_simp; done) | (go_simp; rfl)); intro gb278 hg w33 hbox hb; have n0_ := Aside0.mk (Kd.R_below (zr HO_3.out) hb); have n1_ := Aside0.mk (Kd.R_below (zr HO_9.out) hb); have n2_ := Aside0.mk (Kd.R_below (zr HO277.out) hb); have n3_ := Aside0.mk (blk_below (g := gb273) (o := .cells #[.int .i64 (rd t269 x11_1)] 3 (0, 0)) (zb BK273.out) hb); have n4_ := Aside0.mk (below_step (zh HB.out) hb); have n5_ := Aside0.mk (hbox); have n6_ := Aside0.mk ((by rw [hg]; exact (below_size (zh HB.out)) : w.heap.size ≤ gb278)); have n7_ := Aside0.mk ((by rw [hg]; exact (below_size (zh HB.out)) : w.heap.size ≤ gb278)); have n8_ := Aside0.mk ((by rw [hg]; exact Nat.ne_of_lt (blk_lt (g := gb273) (o := .cells #[.int .i64 (rd t269 x11_1)] 3 (0, 0)) (zb BK273.out)) : gb273 ≠ gb278)); have n9_ := Aside0.mk ((by rw [hg]; exact Nat.ne_of_gt (blk_lt (g := gb273) (o := .cells #[.int .i64 (rd t269 x11_1)] 3 (0, 0)) (zb BK273.out)) : gb278 ≠ gb273)); clear HO_3; clear HO_9; clear HO277; clear BK273; clear HB; have HO_3 := n0_; have HO_9 := n1_; have HO277 := n2_; have BK273 := n3_; have HB := n4_; have BK278 := n5_; have GW278 := n6_; have GE278 := n7_; have NB273_278 := n8_; have NB278_273 := n9_; clear n0_ n1_ n2_ n3_ n4_ n5_ n6_ n7_ n8_ n9_; clear hb hbox hg; have hnb34 := NB278_273.out; have hnc34 := NB273_278.out; have hcz35_0 : w33.cell? ⟨gb278, 0, none⟩ = some (.int .i64 0) := (blk_cell BK278.out 0).trans rfl; have hcz35_1 : w33.cell? ⟨gb278, 1, none⟩ = some (.slice none 0 0) := (blk_cell BK278.out 1).trans rfl; have hfz35_0 := blk_frozen BK278.out 0; have hfz35_1 := blk_frozen BK278.out 1; obtain ⟨Ao36, co36, eo36⟩ := Kd.R_slice HO277.out; subst eo36))
   have n0_ : Aside0 (Kd.R k46 46 ((w33.setCell ⟨gb278, 0, none⟩ (.int .i64 t274)).setCell ⟨gb278, 1, none⟩ (.slice Ao36 t275.length co36)) w.heap.size (fun k_ => some k_ ≠ (.slice (some ad272) t269.length co6 : Value).ownBlock ∧ k_ ≠ gb273) u3 x3_1) := ⟨by (with_reducible repeat (first | apply Kd.R_alloc | apply Kd.R_drewN | apply Kd.R_drew)); exact Kd.R_mono (Kd.R_far (p := ⟨gb278, 1, none⟩) (Kd.R_far (p := ⟨gb278, 0, none⟩) (Kd.R_types HO_3.out BK278.out (by decide)) (fun _ hk => hk.2) (.int .i64 t274)) (fun _ hk => hk.2) (.slice Ao36 t275.length co36)) (fun _ hk => ⟨hk.1.1, hk.1.2⟩)⟩
   have n1_ : Aside0 (Kd.R (Kd.int .i64) 3 ((w33.setCell ⟨gb278, 0, none⟩ (.int .i64 t274)).setCell ⟨gb278, 1, none⟩ (.slice Ao36 t275.length co36)) w.heap.size (fun k_ => k_ ≠ gb273) (.slice (some ad272) t269.length co6) t269) := ⟨by (with_reducible repeat (first | apply Kd.R_alloc | apply Kd.R_drewN | apply Kd.R_drew)); exact Kd.R_mono (Kd.R_far (p := ⟨gb278, 1, none⟩) (Kd.R_far (p := ⟨gb278, 0, none⟩) (Kd.R_types HO_9.out BK278.out (by decide)) (fun _ hk => hk.2) (.int .i64 t274)) (fun _ hk => hk.2) (.slice Ao36 t275.length co36)) (fun _ hk => hk.1.2)⟩
   have n2_ : Aside0 (Kd.R Kd.bool 4 ((w33.setCell ⟨gb278, 0, none⟩ (.int .i64 t274)).setCell ⟨gb278, 1, none⟩ (.slice Ao36 t275.length co36)) w.heap.size (fun _ => True) (.slice Ao36 t275.length co36) t275) := ⟨by (with_reducible repeat (first | apply Kd.R_alloc | apply Kd.R_drewN | apply Kd.R_drew)); exact Kd.R_mono (Kd.R_far (p := ⟨gb278, 1, none⟩) (Kd.R_far (p := ⟨gb278, 0, none⟩) (Kd.R_types HO277.out BK278.out (by decide)) (fun _ hk => hk.2) (.int .i64 t274)) (fun _ hk => hk.2) (.slice Ao36 t275.length co36)) (fun _ hk => trivial)⟩
   have n3_ : Aside0 (((w33.setCell ⟨gb278, 0, none⟩ (.int .i64 t274)).setCell ⟨gb278, 1, none⟩ (.slice Ao36 t275.length co36)).heap[gb273]? = some (.cells #[.int .i64 (rd t269 x11_1)] 3 (0, 0))) := ⟨by (with_reducible repeat (first | refine blk_drewN ?_ _ | refine blk_drew ?_ | refine blk_alloc ?_ _)); refine blk_far ?_ NB273_278.out _; (with_reducible repeat (first | refine blk_drewN ?_ _ | refine blk_drew ?_ | refine blk_alloc ?_ _)); refine blk_far ?_ NB273_278.out _; (with_reducible repeat (first | refine blk_drewN ?_ _ | refine blk_drew ?_ | refine blk_alloc ?_ _)); exact BK273.out⟩
   have n4_ : Aside0 (((w33.setCell ⟨gb278, 0, none⟩ (.int .i64 t274)).setCell ⟨gb278, 1, none⟩ (.slice Ao36 t275.length co36)).heap[gb278]? = some (.cells #[.int .i64 t274, .slice Ao36 t275.length co36] 86 (0, 0))) := ⟨by (with_reducible repeat (first | refine blk_drewN ?_ _ | refine blk_drew ?_ | refine blk_alloc ?_ _)); refine blk_put (cs := #[.int .i64 t274, .slice none 0 0]) ?_ 1 _ rfl; (with_reducible repeat (first | refine blk_drewN ?_ _ | refine blk_drew ?_ | refine blk_alloc ?_ _)); refine blk_put (cs := #[.int .i64 0, .slice none 0 0]) ?_ 0 _ rfl; (with_reducible repeat (first | refine blk_drewN ?_ _ | refine blk_drew ?_ | refine blk_alloc ?_ _)); exact BK278.out⟩
   have n5_ : Aside0 (Below w.heap.size w ((w33.setCell ⟨gb278, 0, none⟩ (.int .i64 t274)).setCell ⟨gb278, 1, none⟩ (.slice Ao36 t275.length co36))) := ⟨zh HB.out⟩
   (try clear HO_3)
   (try clear HO_9)
   (try clear HO277)
   (try clear BK273)
   (try clear BK278)
   (try clear HB)
   generalize ((w33.setCell ⟨gb278, 0, none⟩ (.int .i64 t274)).setCell ⟨gb278, 1, none⟩ (.slice Ao36 t275.length co36)) = w37 at n0_ n1_ n2_ n3_ n4_ n5_ ⊢
   have HO_3 := n0_
   have HO_9 := n1_
   have HO277 := n2_
   have BK273 := n3_
   have BK278 := n4_
   have HB := n5_
   clear n0_ n1_ n2_ n3_ n4_ n5_
   have n0_ := Aside0.mk (Kd.R_drew HO_3.out)
   have n1_ := Aside0.mk (Kd.R_drew HO_9.out)
   have n2_ := Aside0.mk (Kd.R_drew HO277.out)
   have n3_ := Aside0.mk (blk_drew BK273.out)
   have n4_ := Aside0.mk (blk_drew BK278.out)
   have n5_ := Aside0.mk (below_drew1 HB.out)
   clear HO_3
   clear HO_9
   clear HO277
   clear BK273
   clear BK278
   clear HB
   have HO_3 := n0_
   have HO_9 := n1_
   have HO277 := n2_
   have BK273 := n3_
   have BK278 := n4_
   have HB := n5_
   clear n0_ n1_ n2_ n3_ n4_ n5_
   have p279 : 0 ≤ (0 : Int) := (by omega)
   have q279 : 0 < (t275.length : Int) := of_decide_eq_true (by first | (with_reducible assumption) | assumption)
   obtain ⟨ad279, e279, hx279_0⟩ := Kd.at_bool (Kd.R_reads' HO277.out).2.2 0 p279 q279
   (try rw [← Nbq12.out] at hx279_0)
   (try rw [← Nbq26.out] at hx279_0)
   cases e279
   have qi279 : (0 < t275.length) = True := eq_true (by omega)
   (try rw [show ((0 : Int)).toNat = 0 from rfl] at hx279_0)
   (try rw [Addr.add_zero'] at hx279_0)
   replace p279 := eq_true p279
   replace q279 := eq_true q279
   have p281 : 0 ≤ (t280 : Int) := of_decide_eq_true (by first | (with_reducible assumption) | assumption)
   have q281 : t280 < (t275.length : Int) := of_decide_eq_true (by first | (with_reducible assumption) | assumption)
   obtain ⟨ad281, e281, hx281_0⟩ := Kd.at_bool (Kd.R_reads' HO277.out).2.2 t280 p281 q281
   (try rw [← Nbq12.out] at hx281_0)
   (try rw [← Nbq26.out] at hx281_0)
   obtain rfl : ad279 = ad281 := (by injection e281)
   replace p281 := eq_true p281
   replace q281 := eq_true q281
   refine start_ (n := 13) (S := fun w' => w'.cell? ⟨gb278, 0, none⟩ = some (.int .i64 t274) ∧ w'.cell? ⟨gb278, 1, none⟩ = some (.slice (some ad279) t275.length co36) ∧ w'.cell? ad279 = some (.bool false) ∧ w'.cell? (ad279.add (t280).toNat) = some (.bool true)) (ds := []) (tb 13 0) (by kernel_rfl) rfl rfl ⟨(blk_cell BK278.out 0).trans rfl, (blk_cell BK278.out 1).trans rfl, hx279_0, hx281_0⟩ (fun hHeld => ?_); refine with_tabW impl_allGames.tab6 impl_allGames.bits6 (fun HT_ HW_ => ?_)
   generalize w37.drew = w38 at HO_3 HO_9 HO277 BK273 BK278 HB hx279_0 hx281_0 hHeld ⊢
   refine zu (i := 0) (N := some 18) (tb 13 1) rfl rfl HT_ ?_
   refine take_ (i := 1) (N := some 19) (v := ?_) (a' := ?_) (tb 13 3) rfl rfl (take_ofW HT_.out HW_.out (by kernel_rfl)) (fun _ _ _ h => h) (Or.inl ⟨by rfl, ?_⟩) hHeld ?_ ?_
   rotate_left
   ·rintro w' ⟨s0, s1, s2, s3⟩
    go_simp
    with_reducible rfl
   rotate_left
   ·simp only [Act.put, List.setIfInBounds_toArray, List.set_cons_zero, List.set_cons_succ, i64_w, i32_w]
    rfl
   refine zu (i := 2) (N := some 20) (tb 13 7) rfl rfl HT_ ?_
   refine take_ (i := 3) (N := some 21) (v := ?_) (a' := ?_) (tb 13 15) rfl rfl (take_ofW HT_.out HW_.out (by kernel_rfl)) (fun _ _ _ h => h) (Or.inl ⟨by rfl, ?_⟩) hHeld ?_ ?_
   rotate_left
   ·rintro w' ⟨s0, s1, s2, s3⟩
    go_simp
    with_reducible rfl
   rotate_left
   ·simp only [Act.put, List.setIfInBounds_toArray, List.set_cons_zero, List.set_cons_succ, i64_w, i32_w]
    rfl
   refine zu (i := 4) (N := some 22) (tb 13 31) rfl rfl HT_ ?_
   refine zu (i := 5) (N := some 23) (tb 13 63) rfl rfl HT_ ?_
   refine zu (i := 6) (N := some 24) (tb 13 127) rfl rfl HT_ ?_
   refine take_ (i := 7) (N := some 25) (v := ?_) (a' := ?_) (tb 13 255) rfl rfl (take_ofW HT_.out HW_.out (by kernel_rfl)) (fun _ _ _ h => h) (Or.inl ⟨by rfl, ?_⟩) hHeld ?_ ?_
   rotate_left
   ·rintro w' ⟨s0, s1, s2, s3⟩
    go_simp
    with_reducible rfl
   rotate_left
   ·simp only [Act.put, List.setIfInBounds_toArray, List.set_cons_zero, List.set_cons_succ, i64_w, i32_w]
    rfl
   refine take_ (i := 8) (N := some 26) (v := ?_) (a' := ?_) (tb 13 511) rfl rfl (take_ofW HT_.out HW_.out (by kernel_rfl)) (fun _ _ _ h => h) (Or.inl ⟨by rfl, ?_⟩) hHeld ?_ ?_
   rotate_left
   ·rintro w' ⟨s0, s1, s2, s3⟩
    go_simp
    with_reducible rfl
   rotate_left
   ·simp only [Act.put, List.setIfInBounds_toArray, List.set_cons_zero, List.set_cons_succ, i64_w, i32_w]
    rfl
   refine one_ (i := 9) (N := some 27) (tb 13 1023) rfl rfl (one_of HT_.out (by kernel_rfl)) (by decide) (fun K hK => ?_)
   refine goes_ Tryz.func103 (by kernel_rfl) rfl #[.agg #[.int .i64 t274, .slice (some ad279) t275.length co36]] (by rfl) rfl rfl (by (try simp only [List.map_toArray, List.map_cons, List.map_nil]); first | done | rfl | (simp only [List.length_drop, List.length_take]; rfl)) ?_
   with_reducible refine (impl_votes_all.calls t274 _ _ t275 t280 _ ?side1 ?side2 A23.out).mono ?_
   (case side1 => repeat (first | exact (Kd.R_reads' HO277.out).2.2 | (with_reducible refine Kd.C_alloc ?_ _) | (with_reducible refine Kd.C_drewN ?_ _) | (with_reducible refine Kd.C_drew ?_)))
   (case side2 => exact (Kd.R_reads' HO277.out).2.1)
   rintro e w39 ⟨rfl, hb⟩
   have HS2_ := (hb.cell (World.block_lt_of_cell? _ _ (hHeld.2.2.1))).trans (hHeld.2.2.1)
   have HS3_ := (hb.cell (World.block_lt_of_cell? _ _ (hHeld.2.2.2))).trans (hHeld.2.2.2)
   refine ⟨_, rfl, ?_⟩
   have n0_ := Aside0.mk (Kd.R_below (zr HO_3.out) hb)
   have n1_ := Aside0.mk (Kd.R_below (zr HO_9.out) hb)
   have n2_ := Aside0.mk (Kd.R_below (zr HO277.out) hb)
   have n3_ := Aside0.mk (blk_below (g := gb273) (o := .cells #[.int .i64 (rd t269 x11_1)] 3 (0, 0)) (zb BK273.out) hb)
   have n4_ := Aside0.mk (blk_below (g := gb278) (o := .cells #[.int .i64 t274, .slice (some ad279) t275.length co36] 86 (0, 0)) (zb BK278.out) hb)
   have n5_ := Aside0.mk (below_step (zh HB.out) hb)
   clear HO_3
   clear HO_9
   clear HO277
   clear BK273
   clear BK278
   clear HB
   have HO_3 := n0_
   have HO_9 := n1_
   have HO277 := n2_
   have BK273 := n3_
   have BK278 := n4_
   have HB := n5_
   clear n0_ n1_ n2_ n3_ n4_ n5_
   (try clear hb)
   (try clear hb2)
   (try clear hk)
   (try clear hi)
   refine hK.out _ _ ⟨(blk_cell BK278.out 0).trans rfl, (blk_cell BK278.out 1).trans rfl, HS2_, HS3_⟩ (fun hHeld => ?_)
   clear hK K
   refine norm_ (a' := ?_) ?_ ?_
   rotate_left
   ·show Act.put _ (some 27) _ = _
    simp only [Act.put, List.setIfInBounds_toArray, List.set_cons_zero, List.set_cons_succ, i64_w, i32_w]
    rfl
   refine zu (i := 10) (N := some 28) (tb 13 2047) rfl rfl HT_ ?_
   refine take_ (i := 11) (N := some 29) (v := ?_) (a' := ?_) (tb 13 4095) rfl rfl (take_ofW HT_.out HW_.out (by kernel_rfl)) (fun _ _ _ h => h) (Or.inl ⟨by rfl, ?_⟩) hHeld ?_ ?_
   rotate_left
   ·rintro w' ⟨s0, s1, s2, s3⟩
    go_simp
    with_reducible rfl
   rotate_left
   ·simp only [Act.put, List.setIfInBounds_toArray, List.set_cons_zero, List.set_cons_succ, i64_w, i32_w]
    rfl
   refine zu (i := 12) (N := some 30) (tb 13 8191) rfl rfl HT_ ?_
   refine done_ (done_of HT_.out (by kernel_rfl)) ?_
   have hcz40_0 : w39.cell? ⟨gb278, 0, none⟩ = some (.int .i64 t274) := (blk_cell BK278.out 0).trans rfl
   have hcz40_1 : w39.cell? ⟨gb278, 1, none⟩ = some (.slice (some ad279) t275.length co36) := (blk_cell BK278.out 1).trans rfl
   have hfz40_0 := blk_frozen BK278.out 0
   have hfz40_1 := blk_frozen BK278.out 1
   try go_wp2_with (first | ((with_reducible refine gate_callee (f := 104) rfl ?_); refine goesL_ (some 33) rfl rfl Tryz.func104 (by kernel_rfl) rfl #[.agg #[.int .i64 t274, .slice (some ad279) t275.length co36]] rfl (by (try simp only [List.map_toArray, List.map_cons, List.map_nil]); first | done | rfl | (simp only [List.length_drop, List.length_take]; rfl)) ?_; (with_reducible refine (impl_votes_game.calls k1 t274 _ _ t275 t282 t283 _ ?side1 ?side2 A28.out).mono ?_); (case side1 => repeat (first | exact (Kd.R_reads' HO277.out).2.2 | (with_reducible refine Kd.C_alloc ?_ _) | (with_reducible refine Kd.C_drewN ?_ _) | (with_reducible refine Kd.C_drew ?_))); (case side2 => exact (Kd.R_reads' HO277.out).2.1); rintro e w41 ⟨v284, rfl, ho0, hb⟩; refine ⟨_, rfl, ?_⟩; have n0_ := Aside0.mk (Kd.R_elder' (zr HO_3.out) (Kd.S_base ho0) hb); have n1_ := Aside0.mk (Kd.R_below (zr HO_9.out) hb); have n2_ := Aside0.mk (Kd.R_below (zr HO277.out) hb); have n3_ := Aside0.mk (Kd.S_lower (Kd.S_newB (Kd.S_new' ho0 (Kd.R_lt (zr HO_9.out))) (g := gb273) (o := .cells #[.int .i64 (rd t269 x11_1)] 3 (0, 0)) (zb BK273.out)) (below_size (zh HB.out))); have n4_ := Aside0.mk (blk_below (g := gb273) (o := .cells #[.int .i64 (rd t269 x11_1)] 3 (0, 0)) (zb BK273.out) hb); have n5_ := Aside0.mk (blk_below (g := gb278) (o := .cells #[.int .i64 t274, .slice (some ad279) t275.length co36] 86 (0, 0)) (zb BK278.out) hb); have n6_ := Aside0.mk (below_step (zh HB.out) hb); clear HO_3; clear HO_9; clear HO277; clear BK273; clear BK278; clear HB; have HO_3 := n0_; have HO_9 := n1_; have HO277 := n2_; have HO285 := n3_; have BK273 := n4_; have BK278 := n5_; have HB := n6_; clear n0_ n1_ n2_ n3_ n4_ n5_ n6_; (try clear hb); (try clear hb2); (try clear hk); (try clear hi); (try clear ho0); obtain ⟨Ao43, co43, eo43⟩ := Kd.S_slice HO285.out; subst eo43) | ((with_reducible refine gate_builtin (b := .append) (xs := #[.tmp 31, .tmp 34]) rfl ?_); at_builtin; refine Kd.R_append k46 (w0 := w) w.heap.size rfl (.tmp 31) (.tmp 34) 51 46 (.agg #[(.int .i64 0), (.slice none 0 0)]) 32 rfl Tryz.underlying51 info46 rfl (by decide) (by omega) u3 x3_1 (⟨t282, t283⟩ : S46) [.int .i64 t282, .slice Ao43 t283.length co43] (fun k_ => some k_ ≠ (.slice (some ad272) t269.length co6 : Value).ownBlock ∧ k_ ≠ gb273) (fun k_ => ((fun k_ => some k_ ≠ (.slice (some ad272) t269.length co6 : Value).ownBlock ∧ k_ ≠ gb273)) k_ ∧ some k_ ≠ (u3 : Value).ownBlock) rfl rfl ?aP (fun _ hk => hk) ?aF ?aO ?aB ?aS ?aL ?_; (case aP => exact k46_mkM _ _ _ (⟨t282, t283⟩ : S46) (Kd.R_mono (Kd.R_apart' ((Kd.S_R HO285.out)) (Kd.R_typed HO_3.out) (by decide)) (fun k_ hk => ⟨⟨hk.1.1.2, hk.1.2⟩, hk.2⟩))); (case aB => exact (zh HB.out)); (case aF => exact (fun k_ hk => ⟨Kd.fresh' (Kd.R_lt (zr HO_9.out)) k_ hk, Kd.freshB (g := gb273) (o := .cells #[.int .i64 (rd t269 x11_1)] 3 (0, 0)) (zb BK273.out) k_ hk⟩)); (case aO => exact (by (with_reducible repeat (first | apply Kd.R_alloc | apply Kd.R_drewN | apply Kd.R_drew)); exact Kd.R_mono HO_3.out (fun _ hk => ⟨hk.1.1, hk.1.2⟩))); (case aS => exact (below_size (zh HB.out))); (case aL => have := LMc29.out; omega); intro v287 w42 ho hb hg hat; rw [← Ny286.out] at ho; have n0_ := Aside0.mk (Kd.R_over' (zr HO_9.out) (Kd.R_typed (zr HO_3.out)) (by decide) hg); have n1_ := Aside0.mk (blk_grown (g := gb273) (o := .cells #[.int .i64 (rd t269 x11_1)] 3 (0, 0)) (zb BK273.out) hg (Kd.R_ne HO_3.out BK273.out (by decide))); have n2_ := Aside0.mk (Kd.R_over' (zr HO277.out) (Kd.R_typed (zr HO_3.out)) (by decide) hg); have n3_ := Aside0.mk (blk_grown (g := gb278) (o := .cells #[.int .i64 t274, .slice (some ad279) t275.length co36] 86 (0, 0)) (zb BK278.out) hg (Kd.R_ne HO_3.out BK278.out (by decide))); have n4_ := Aside0.mk (hb); have n5_ := Aside0.mk (ho); clear HO_9; clear BK273; clear HO277; clear BK278; clear HB; clear HO_3; clear HO285; have HO_9 := n0_; have BK273 := n1_; have HO277 := n2_; have BK278 := n3_; have HB := n4_; have HO288 := n5_; clear n0_ n1_ n2_ n3_ n4_ n5_; clear ho hb hg hat))
   go_roundg k1
   case measure => have := HK1.out; omega
   case rel => exact ⟨(y286), (wrap64 (x11_1 + 1)), (by first | rfl | (simp; done) | (simp [*]; done)), H', ⟨by have := HK1.out; omega⟩, ⟨by (with_reducible repeat (first | apply Kd.R_alloc | apply Kd.R_drewN | apply Kd.R_drew)); exact Kd.R_mono HO288.out (fun _ hk => hk.1)⟩, ⟨by (with_reducible repeat (first | apply Kd.R_alloc | apply Kd.R_drewN | apply Kd.R_drew)); exact Kd.R_mono HO_9.out (fun _ hk => trivial)⟩, ⟨zh HB.out⟩⟩
end Go.Proofs.YtgjakcpbfbfejaaGreat.Q
end
section
namespace Go.Proofs.YtgjakcpbfbfejaaGreat.Q
open Go.RowKit Go.Proofs.YtgjakcpbfbfejaaGreatW.PrintWords Go.Proofs.YtgjakcpbfbfejaaGreatW.PrintLast Go.Proofs.YtgjakcpbfbfejaaGreatW.PrintMore
set_option linter.unusedVariables false
set_option linter.unusedSimpArgs false
def solP (k : Nat) (clues : List S72) (g : S46) : Option Bool := (impl_Game_votes.f k g.f0 g.f1).bind fun v => anyO (fun c => impl_solutions_1_1.f k c.f0 c.f1 c.f2 v.1 v.2) clues
theorem impl_solutions_1_1.pred (k : Nat) (n : Int) (A : Option Addr) (c : Nat) (l : List Bool) (b1 : Nat) (w : World) (h1 : w.heap[b1]? = some (.cells #[.int .i64 n, .slice A l.length c] 86 (0, 0))) (hC : Kd.C Kd.bool w A l.length l) (hc : l.length ≤ c) :
    PredK Tryz.prog 81 #[.pointer (some ⟨b1, 0, none⟩)] k72 (fun c => .agg c.toArray) w (fun x => impl_solutions_1_1.f k x.f0 x.f1 x.f2 n l) := by
  intro W x cx b hb hK hp
  obtain rfl := k72_open hK
  exact (impl_solutions_1_1.calls k x.f0 x.f1 x.f2 n A c l b W b1 (blk_below h1 hb) (Kd.C_below hC hb) hc hp).mono (fun _ _ h => ⟨h.1, hb.trans (h.2.mono hb.size)⟩)
set_option maxHeartbeats 2000000 in
theorem impl_solutions_1.pred (k : Nat) (A1 : Option Addr) (c1 : Nat) (clues : List S72) (b1 : Nat) (wb : World) (h1 : wb.heap[b1]? = some (.cells #[.slice A1 clues.length c1] 28 (0, 0))) (hC : Kd.C k72 wb A1 clues.length clues) (hc1 : clues.length ≤ c1) :
    PredG Tryz.prog 79 #[.pointer (some ⟨b1, 0, none⟩)] wb (solP k clues) := by
  intro W x A c b hb hxc hxC hp
  show Calls Tryz.prog 79 #[.agg #[.int .i64 x.f0, .slice A x.f1.length c], .pointer (some ⟨b1, 0, none⟩)] W _
  obtain ⟨⟨v1, v2⟩, hv, hp⟩ := Option.bind_eq_some_iff.mp hp
  have HBK := Aside0.mk (blk_below h1 hb)
  have eg : ∀ args w, (callFunc 81 args).run Tryz.prog w = .ok (.enter 81 args) w := enters_of Tryz.func81 (by kernel_rfl) rfl
  have EG := Aside0.mk eg
  clear eg
  have HB := Aside0.mk hb
  have HX := Aside0.mk hxC
  have HCL := Aside0.mk (Kd.C_below hC hb)
  have HV := Aside0.mk hv
  have HP := Aside0.mk hp
  clear h1 hC hb hxC hv hp
  go_enter Tryz.func79, Tryz.ntmps79
  go_wp2_with (go_at_call 80; refine (impl_Game_votes.calls k x.f0 A c x.f1 v1 v2 _ (Kd.C_below HX.out ((Below.refl _ W).alloc (Nat.le_refl _) _)) hxc HV.out).mono ?_; rintro e w1 ⟨u, rfl, hR, hb1⟩; obtain ⟨Av, cv, rfl⟩ := Kd.R_slice hR; have HR := Aside0.mk (Kd.R_reads' hR).2.2; have HRC := Aside0.mk (Kd.R_reads' hR).2.1; have HB1 := Aside0.mk (((Below.refl _ W).alloc (Nat.le_refl _) _).trans (hb1.mono (by simp))); clear hR hb1; have x0 : w1.cell? ⟨b1, 0, none⟩ = some (.slice A1 clues.length c1) := (blk_cell (blk_below HBK.out HB1.out) 0).trans rfl; have x1 : ∀ o, (w1.alloc o).cell? ⟨b1, 0, none⟩ = some (.slice A1 clues.length c1) := fun o => (blk_cell (blk_alloc (blk_below HBK.out HB1.out) o) 0).trans rfl; have q3 : w1.heap.size ≠ b1 := Nat.ne_of_gt (blk_lt (blk_below HBK.out HB1.out)); have q4 : b1 ≠ w1.heap.size := fun h => q3 h.symm)
  refine (containsFunc_clue (fun c => impl_solutions_1_1.f k c.f0 c.f1 c.f2 v1 v2) 81 #[.pointer (some ⟨w1.heap.size, 0, none⟩)] EG.out A1 c1 clues b _ (Kd.C_below HCL.out ((HB1.out.trans ((Below.refl _ w1).alloc (Nat.le_refl _) _ |>.mono HB1.out.size)))) hc1 (impl_solutions_1_1.pred k v1 Av cv v2 w1.heap.size _ (blk_new w1 _) (Kd.C_below HR.out ((Below.refl _ w1).alloc (Nat.le_refl _) _)) HRC.out) HP.out).mono ?_
  rintro e w2 ⟨rfl, hb2⟩
  have HB2 := Aside0.mk (HB1.out.trans (((Below.refl _ w1).alloc (Nat.le_refl _) _).trans (hb2.mono (by simp)) |>.mono HB1.out.size))
  clear hb2 x1 x0
  go_wp2
  go_ret
  exact ⟨rfl, HB2.out⟩
def impl_solutions.f (k : Nat) (n : Int) (l : List S72) : Option (List S46) := (impl_allGames.f k n).bind fun gs => if gs.length ≤ 1000000 then filO (solP k l) gs else none
set_option maxHeartbeats 2000000 in
theorem impl_solutions.calls (k : Nat) (n : Int) (A : Option Addr) (c : Nat) (l : List S72) (r : List S46) (w : World) (hC : Kd.C k72 w A l.length l) (hc : l.length ≤ c) (h : impl_solutions.f k n l = some r) :
    Calls Tryz.prog 57 #[.int .i64 n, .slice A l.length c] w fun e w' => ∃ v0_ : Value, e = .returned v0_ ∧ Kd.V k46 46 w' w.heap.size (fun k_ => w.heap.size ≤ k_) v0_ r ∧ Below w.heap.size w w' := by
  have eg : ∀ args w, (callFunc 79 args).run Tryz.prog w = .ok (.enter 79 args) w := enters_of Tryz.func79 (by kernel_rfl) rfl
  have EG := Aside0.mk eg
  clear eg
  obtain ⟨gs, hg, h⟩ := Option.bind_eq_some_iff.mp h
  by_cases hl : gs.length ≤ 1000000
  case neg => rw [if_neg hl] at h; cases h
  rw [if_pos hl] at h
  have HC := Aside0.mk hC
  have HG := Aside0.mk hg
  have HL := Aside0.mk hl
  have HH := Aside0.mk h
  clear hC hg hl h
  go_enter Tryz.func57, Tryz.ntmps57
  go_wp2_with (go_at_call 78; refine (impl_allGames.calls k n gs _ HG.out).mono ?_; rintro e w1 ⟨u, rfl, hR, hb1⟩; obtain ⟨Av, cv, rfl⟩ := Kd.R_slice hR; have HN := Aside0.mk (Kd.R_N (Kd.R_mono (Kd.R_bound hR) (fun _ h => h.2.1))); have HB1 := Aside0.mk hb1; clear hR hb1)
  refine (deleteFunc_games (solP k l) 79 #[.pointer (some ⟨w.heap.size, 0, none⟩)] EG.out (w.alloc (.cells #[.slice A l.length c] 28 (0, 0))) w1 Av cv gs r (impl_solutions_1.pred k A c l w.heap.size _ (blk_new w _) (Kd.C_below HC.out ((Below.refl _ w).alloc (Nat.le_refl _) _)) hc) HB1.out HN.out HL.out HH.out).mono ?_
  rintro e w2 ⟨A2, c2, rfl, hN2, hB2⟩
  have HN2 := Aside0.mk hN2
  have HB2 := Aside0.mk hB2
  clear hN2 hB2 HN HB1
  go_wp2
  go_ret
  exact ⟨_, rfl, ⟨A2, c2, rfl, (Kd.N_reads' HN2.out).2.1, Kd.F_mono (Kd.N_F HN2.out) (fun z hz => Nat.le_trans (by simp) hz)⟩, ((Below.refl _ w).alloc (Nat.le_refl _) _).trans (HB2.out.mono (by simp))⟩
end Go.Proofs.YtgjakcpbfbfejaaGreat.Q
end
section
namespace Go.Proofs.YtgjakcpbfbfejaaGreat.Q
open Go.RowKit Go.Proofs.YtgjakcpbfbfejaaGreatW.PrintWords Go.Proofs.YtgjakcpbfbfejaaGreatW.PrintLast Go.Proofs.YtgjakcpbfbfejaaGreatW.PrintMore
attribute [local go_sem] max2_int min2_int max_two min_two max_three min_three max_four min_four
set_option linter.unusedVariables false
set_option linter.unusedSimpArgs false
def impl_Solutions.f (k : Nat) (a0_0 : Int) (l0_1 : List (S72)) : Option ((List (S46)) × Bool) := (impl_IsPuzzle.f a0_0 l0_1).bind fun t354 => (if t354 = true then ((impl_solutions.f k a0_0 l0_1).bind fun t355 => (some (t355, true))) else (some (([] : List (S46)), false)))
set_option maxHeartbeats 8000000 in
set_option maxRecDepth 100000 in
theorem impl_Solutions.calls (k : Nat) (a0_0 : Int) (A0_1 : Option Addr) (c0_1 : Nat) (l0_1 : List (S72)) (r1 : List (S46)) (r2 : Bool) (w : World) (hr0_1 : Kd.C k72 w A0_1 l0_1.length l0_1) (hc0_1 : l0_1.length ≤ c0_1) (h : impl_Solutions.f k a0_0 l0_1 = some (r1, r2)) :
  Calls Tryz.prog 39 #[.agg #[.int .i64 a0_0, .slice A0_1 l0_1.length c0_1]] w fun e w' => ∃ v0_ : Value, e = .returned (.tuple #[v0_, .bool r2]) ∧ Kd.V k46 46 w' w.heap.size (fun k_ => (w.heap.size ≤ k_)) v0_ r1 ∧ Below w.heap.size w w' := by
 have hu30 := Tryz.underlying30
 have HR0_1 := Aside0.mk hr0_1
 have HC0_1 := Aside0.mk hc0_1
 clear hr0_1 hc0_1
 have HB := Aside0.mk (Below.refl w.heap.size w)
 have H : ((impl_IsPuzzle.f a0_0 l0_1).bind fun t354 => (if t354 = true then ((impl_solutions.f k a0_0 l0_1).bind fun t355 => (some (t355, true))) else (some (([] : List (S46)), false)))) = some (r1, r2) := h
 clear h
 replace H := Option.bind_eq_some_iff.mp H
 obtain ⟨t354, A20, H⟩ := H
 replace H : (if t354 = true then ((impl_solutions.f k a0_0 l0_1).bind fun t355 => (some (t355, true))) else (some (([] : List (S46)), false))) = some (r1, r2) := H
 have A2 := Aside0.mk A20
 clear A20
 by_cases c3 : t354 = true
 rotate_left
 ·replace c3 := Bool.eq_false_iff.mpr c3
  subst c3
  have H1 : (some (([] : List (S46)), false)) = some (r1, r2) := by rw [if_neg (show ¬ (false = true) by decide)] at H; exact H
  clear H
  have H := H1
  clear H1
  simp only [Option.some.injEq, Prod.mk.injEq] at H
  obtain ⟨rfl, rfl⟩ := H
  go_enter Tryz.func39, Tryz.ntmps39
  go_wp2_with (first | ((with_reducible refine gate_dst (N := 1) rfl ?_); refine box_event ?hg (N := 1) ?hd (cs := #[.int .i64 a0_0, .slice A0_1 l0_1.length c0_1]) (t := 30) ?hr ?_; (case hd => rfl); (case hg => rfl); (case hr => first | (go_simp; done) | (go_simp; rfl)); intro gb353 hg w10 hbox hb; have n2_ := Aside0.mk ((by rw [hg]; exact (below_size (zh HB.out)) : w.heap.size ≤ gb353)); replace HB := Aside0.mk (below_step (zh HB.out) hb); have BK353 := Aside0.mk hbox; have GW353 := n2_; have GE353 := n2_; clear n2_ hb hbox hg; have hcz11_0 : w10.cell? ⟨gb353, 0, none⟩ = some (.int .i64 a0_0) := (blk_cell BK353.out 0).trans rfl; have hcz11_1 : w10.cell? ⟨gb353, 1, none⟩ = some (.slice A0_1 l0_1.length c0_1) := (blk_cell BK353.out 1).trans rfl; have hfz11_0 := blk_frozen BK353.out 0; have hfz11_1 := blk_frozen BK353.out 1) | ((with_reducible refine gate_callee (f := 56) rfl ?_); refine goesL_ (some 5) rfl rfl Tryz.func56 (by kernel_rfl) rfl #[.agg #[.int .i64 a0_0, .slice A0_1 l0_1.length c0_1]] rfl (by (try simp only [List.map_toArray, List.map_cons, List.map_nil]); first | done | rfl | (simp only [List.length_drop, List.length_take]; rfl)) ?_; (with_reducible refine (impl_IsPuzzle.calls a0_0 _ _ l0_1 false _ ?side1 ?side2 A2.out).mono ?_); (case side1 => repeat (first | exact (Kd.C_below HR0_1.out HB.out) | (with_reducible refine Kd.C_alloc ?_ _) | (with_reducible refine Kd.C_drewN ?_ _) | (with_reducible refine Kd.C_drew ?_))); (case side2 => exact HC0_1.out); rintro e w12 ⟨rfl, hb⟩; refine ⟨_, rfl, ?_⟩; have n0_ := Aside0.mk (blk_below (g := gb353) (o := .cells #[.int .i64 a0_0, .slice A0_1 l0_1.length c0_1] 30 (0, 0)) (zb BK353.out) hb); have n1_ := Aside0.mk (below_step (zh HB.out) hb); clear BK353; clear HB; have BK353 := n0_; have HB := n1_; clear n0_ n1_; (try clear hb); (try clear hb2); (try clear hk); (try clear hi)))
  go_ret2
  exact ⟨_, by first | rfl | (simp [*, errW_none, errW_some] <;> rfl), (by first | exact Kd.V_nil _ _ _ _ _ | exact Kd.R_V (Kd.R_nil _ _ 0 _ _) | exact Kd.N_nil _ _ _ _ _ | exact Kd.V_nil _ _ _ _ _ | exact Kd.Q_nil _ _ _ _ _ | exact Kd.S_nil _ _ _ _ _), zh HB.out⟩
 subst c3
 have H1 : ((impl_solutions.f k a0_0 l0_1).bind fun t355 => (some (t355, true))) = some (r1, r2) := by rw [if_pos rfl] at H; exact H
 clear H
 have H := H1
 clear H1
 replace H := Option.bind_eq_some_iff.mp H
 obtain ⟨t355, A40, H⟩ := H
 replace H : (some (t355, true)) = some (r1, r2) := H
 have A4 := Aside0.mk A40
 clear A40
 simp only [Option.some.injEq, Prod.mk.injEq] at H
 obtain ⟨rfl, rfl⟩ := H
 go_enter Tryz.func39, Tryz.ntmps39
 go_wp2_with (first | ((with_reducible refine gate_dst (N := 1) rfl ?_); refine box_event ?hg (N := 1) ?hd (cs := #[.int .i64 a0_0, .slice A0_1 l0_1.length c0_1]) (t := 30) ?hr ?_; (case hd => rfl); (case hg => rfl); (case hr => first | (go_simp; done) | (go_simp; rfl)); intro gb353 hg w5 hbox hb; have n2_ := Aside0.mk ((by rw [hg]; exact (below_size (zh HB.out)) : w.heap.size ≤ gb353)); replace HB := Aside0.mk (below_step (zh HB.out) hb); have BK353 := Aside0.mk hbox; have GW353 := n2_; have GE353 := n2_; clear n2_ hb hbox hg; have hcz6_0 : w5.cell? ⟨gb353, 0, none⟩ = some (.int .i64 a0_0) := (blk_cell BK353.out 0).trans rfl; have hcz6_1 : w5.cell? ⟨gb353, 1, none⟩ = some (.slice A0_1 l0_1.length c0_1) := (blk_cell BK353.out 1).trans rfl; have hfz6_0 := blk_frozen BK353.out 0; have hfz6_1 := blk_frozen BK353.out 1) | ((with_reducible refine gate_callee (f := 56) rfl ?_); refine goesL_ (some 5) rfl rfl Tryz.func56 (by kernel_rfl) rfl #[.agg #[.int .i64 a0_0, .slice A0_1 l0_1.length c0_1]] rfl (by (try simp only [List.map_toArray, List.map_cons, List.map_nil]); first | done | rfl | (simp only [List.length_drop, List.length_take]; rfl)) ?_; (with_reducible refine (impl_IsPuzzle.calls a0_0 _ _ l0_1 true _ ?side1 ?side2 A2.out).mono ?_); (case side1 => repeat (first | exact (Kd.C_below HR0_1.out HB.out) | (with_reducible refine Kd.C_alloc ?_ _) | (with_reducible refine Kd.C_drewN ?_ _) | (with_reducible refine Kd.C_drew ?_))); (case side2 => exact HC0_1.out); rintro e w7 ⟨rfl, hb⟩; refine ⟨_, rfl, ?_⟩; have n0_ := Aside0.mk (blk_below (g := gb353) (o := .cells #[.int .i64 a0_0, .slice A0_1 l0_1.length c0_1] 30 (0, 0)) (zb BK353.out) hb); have n1_ := Aside0.mk (below_step (zh HB.out) hb); clear BK353; clear HB; have BK353 := n0_; have HB := n1_; clear n0_ n1_; (try clear hb); (try clear hb2); (try clear hk); (try clear hi); have hcz8_0 : w7.cell? ⟨gb353, 0, none⟩ = some (.int .i64 a0_0) := (blk_cell BK353.out 0).trans rfl; have hcz8_1 : w7.cell? ⟨gb353, 1, none⟩ = some (.slice A0_1 l0_1.length c0_1) := (blk_cell BK353.out 1).trans rfl; have hfz8_0 := blk_frozen BK353.out 0; have hfz8_1 := blk_frozen BK353.out 1) | ((with_reducible refine gate_callee (f := 57) rfl ?_); refine goesL_ (some 11) rfl rfl Tryz.func57 (by kernel_rfl) rfl #[.int .i64 a0_0, .slice A0_1 l0_1.length c0_1] rfl (by (try simp only [List.map_toArray, List.map_cons, List.map_nil]); first | done | rfl | (simp only [List.length_drop, List.length_take]; rfl)) ?_; (with_reducible refine (impl_solutions.calls k a0_0 _ _ l0_1 t355 _ ?side1 ?side2 A4.out).mono ?_); (case side1 => repeat (first | exact (Kd.C_below HR0_1.out HB.out) | (with_reducible refine Kd.C_alloc ?_ _) | (with_reducible refine Kd.C_drewN ?_ _) | (with_reducible refine Kd.C_drew ?_))); (case side2 => exact HC0_1.out); rintro e w9 ⟨v356, rfl, ho0, hb⟩; refine ⟨_, rfl, ?_⟩; have n0_ := Aside0.mk (Kd.V_lower (Kd.V_mono (ok' := fun k_ => (w.heap.size ≤ k_) ∧ k_ ≠ gb353) ho0 (fun k_ hk_ => ⟨(Nat.le_trans (below_size (zh HB.out)) hk_), (Kd.freshB (g := gb353) (o := .cells #[.int .i64 a0_0, .slice A0_1 l0_1.length c0_1] 30 (0, 0)) (zb BK353.out) k_ hk_)⟩)) (below_size (zh HB.out))); have n1_ := Aside0.mk (blk_below (g := gb353) (o := .cells #[.int .i64 a0_0, .slice A0_1 l0_1.length c0_1] 30 (0, 0)) (zb BK353.out) hb); have n2_ := Aside0.mk (below_step (zh HB.out) hb); clear BK353; clear HB; have HO357 := n0_; have BK353 := n1_; have HB := n2_; clear n0_ n1_ n2_; (try clear hb); (try clear hb2); (try clear hk); (try clear hi); (try clear ho0)))
 go_ret2
 exact ⟨_, by first | rfl | (simp [*, errW_none, errW_some] <;> rfl), by (with_reducible repeat (first | apply Kd.V_alloc | apply Kd.V_drewN | apply Kd.V_drew)); exact Kd.V_mono HO357.out (fun _ hk => hk.1), zh HB.out⟩
def impl_CountSolutions.f (k : Nat) (a0_0 : Int) (l0_1 : List (S72)) : Option (Int × Bool) := (impl_Solutions.f k a0_0 l0_1).bind fun bt359 => (some ((bt359.1.length : Int), bt359.2))
set_option maxHeartbeats 8000000 in
set_option maxRecDepth 100000 in
theorem impl_CountSolutions.calls (k : Nat) (a0_0 : Int) (A0_1 : Option Addr) (c0_1 : Nat) (l0_1 : List (S72)) (r1 : Int) (r2 : Bool) (w : World) (hr0_1 : Kd.C k72 w A0_1 l0_1.length l0_1) (hc0_1 : l0_1.length ≤ c0_1) (h : impl_CountSolutions.f k a0_0 l0_1 = some (r1, r2)) :
  Calls Tryz.prog 16 #[.agg #[.int .i64 a0_0, .slice A0_1 l0_1.length c0_1]] w fun e w' => e = .returned (.tuple #[.int .i64 r1, .bool r2]) ∧ Below w.heap.size w w' := by
 have hu30 := Tryz.underlying30
 have HR0_1 := Aside0.mk hr0_1
 have HC0_1 := Aside0.mk hc0_1
 clear hr0_1 hc0_1
 have HB := Aside0.mk (Below.refl w.heap.size w)
 have H : ((impl_Solutions.f k a0_0 l0_1).bind fun bt359 => (some ((bt359.1.length : Int), bt359.2))) = some (r1, r2) := h
 clear h
 replace H := Option.bind_eq_some_iff.mp H
 obtain ⟨⟨t359, t362⟩, A20, H⟩ := H
 replace H : (some ((t359.length : Int), t362)) = some (r1, r2) := H
 have A2 := Aside0.mk A20
 clear A20
 simp only [Option.some.injEq, Prod.mk.injEq] at H
 obtain ⟨rfl, rfl⟩ := H
 go_enter Tryz.func16, Tryz.ntmps16
 go_wp2_with (first | ((with_reducible refine gate_dst (N := 1) rfl ?_); refine box_event ?hg (N := 1) ?hd (cs := #[.int .i64 a0_0, .slice A0_1 l0_1.length c0_1]) (t := 30) ?hr ?_; (case hd => rfl); (case hg => rfl); (case hr => first | (go_simp; done) | (go_simp; rfl)); intro gb358 hg w3 hbox hb; have n2_ := Aside0.mk ((by rw [hg]; exact (below_size (zh HB.out)) : w.heap.size ≤ gb358)); replace HB := Aside0.mk (below_step (zh HB.out) hb); have BK358 := Aside0.mk hbox; have GW358 := n2_; have GE358 := n2_; clear n2_ hb hbox hg; have hcz4_0 : w3.cell? ⟨gb358, 0, none⟩ = some (.int .i64 a0_0) := (blk_cell BK358.out 0).trans rfl; have hcz4_1 : w3.cell? ⟨gb358, 1, none⟩ = some (.slice A0_1 l0_1.length c0_1) := (blk_cell BK358.out 1).trans rfl; have hfz4_0 := blk_frozen BK358.out 0; have hfz4_1 := blk_frozen BK358.out 1) | ((with_reducible refine gate_callee (f := 39) rfl ?_); refine goesL_ (some 8) rfl rfl Tryz.func39 (by kernel_rfl) rfl #[.agg #[.int .i64 a0_0, .slice A0_1 l0_1.length c0_1]] rfl (by (try simp only [List.map_toArray, List.map_cons, List.map_nil]); first | done | rfl | (simp only [List.length_drop, List.length_take]; rfl)) ?_; (with_reducible refine (impl_Solutions.calls k a0_0 _ _ l0_1 t359 t362 _ ?side1 ?side2 A2.out).mono ?_); (case side1 => repeat (first | exact (Kd.C_below HR0_1.out HB.out) | (with_reducible refine Kd.C_alloc ?_ _) | (with_reducible refine Kd.C_drewN ?_ _) | (with_reducible refine Kd.C_drew ?_))); (case side2 => exact HC0_1.out); rintro e w5 ⟨v360, rfl, ho0, hb⟩; refine ⟨_, rfl, ?_⟩; have n0_ := Aside0.mk (Kd.V_lower (Kd.V_mono (ok' := fun k_ => k_ ≠ gb358) ho0 (fun k_ hk_ => (Kd.freshB (g := gb358) (o := .cells #[.int .i64 a0_0, .slice A0_1 l0_1.length c0_1] 30 (0, 0)) (zb BK358.out) k_ hk_))) (below_size (zh HB.out))); have n1_ := Aside0.mk (blk_below (g := gb358) (o := .cells #[.int .i64 a0_0, .slice A0_1 l0_1.length c0_1] 30 (0, 0)) (zb BK358.out) hb); have n2_ := Aside0.mk (below_step (zh HB.out) hb); clear BK358; clear HB; have HO361 := n0_; have BK358 := n1_; have HB := n2_; clear n0_ n1_ n2_; (try clear hb); (try clear hb2); (try clear hk); (try clear hi); (try clear ho0); obtain ⟨Ao6, co6, eo6⟩ := Kd.V_slice HO361.out; subst eo6))
 go_ret2
 exact ⟨by first | rfl | (simp [*, errW_none, errW_some] <;> rfl), zh HB.out⟩
end Go.Proofs.YtgjakcpbfbfejaaGreat.Q
end
section
namespace Go.Proofs.YtgjakcpbfbfejaaGreat.Q
open Go.RowKit Go.Proofs.YtgjakcpbfbfejaaGreatW.PrintWords Go.Proofs.YtgjakcpbfbfejaaGreatW.PrintLast Go.Proofs.YtgjakcpbfbfejaaGreatW.PrintMore
set_option linter.unusedVariables false
set_option linter.unusedSimpArgs false
def impl_NeedlessClues_1.f (k : Nat) (a0 : Int) (m : Int) (l : List S72) (n : Int) : Option Bool := (impl_without.f l a0).bind fun t => (impl_solutions.f k m t).bind fun s => some ((s.length : Int) == n)
set_option maxRecDepth 20000 in
set_option maxHeartbeats 4000000 in
theorem impl_NeedlessClues_1.calls (k : Nat) (a0 : Int) (m : Int) (A : Option Addr) (c : Nat) (l : List S72) (n : Int) (r : Bool) (w : World) (b1 : Nat) (h1 : w.heap[b1]? = some (.cells #[.int .i64 m, .slice A l.length c] 30 (0, 0))) (b2 : Nat) (h2 : w.heap[b2]? = some (.cells #[.int .i64 n] 3 (0, 0))) (hC : Kd.C k72 w A l.length l) (hc : l.length ≤ c) (h : impl_NeedlessClues_1.f k a0 m l n = some r) :
    Calls Tryz.prog 61 #[.int .i64 a0, .pointer (some ⟨b1, 0, none⟩), .pointer (some ⟨b2, 0, none⟩)] w fun e w' => e = .returned (.bool r) ∧ Below w.heap.size w w' := by
  obtain ⟨t, ht, h⟩ := Option.bind_eq_some_iff.mp h
  obtain ⟨s, hs, h⟩ := Option.bind_eq_some_iff.mp h
  have HT := Aside0.mk ht
  have HS := Aside0.mk hs
  have HE := Aside0.mk (Option.some.inj h)
  have B1 := Aside0.mk (blk_drew h1)
  have B2 := Aside0.mk (blk_drew h2)
  have HB := Aside0.mk ((Below.refl w.heap.size w).drew)
  have HC := Aside0.mk (Kd.C_below hC HB.out)
  have u1 := Tryz.underlying30
  clear h ht hs h1 h2 hC
  go_enter Tryz.func61, Tryz.ntmps61
  go_wp2
  refine start_ (n := 11) (S := fun w' => w'.cell? ⟨b1, 0, none⟩ = some (.int .i64 m) ∧ w'.cell? ⟨b1, 1, none⟩ = some (.slice A l.length c) ∧ w'.cell? ⟨b2, 0, none⟩ = some (.int .i64 n)) (ds := []) #[false, false, false, false, false, false, false, false, false, false, false] (by kernel_rfl) rfl rfl ⟨(blk_cell B1.out 0).trans rfl, (blk_cell B1.out 1).trans rfl, (blk_cell B2.out 0).trans rfl⟩ (fun hHeld => ?_)
  generalize w.drew = wr at B1 B2 HB HC hHeld ⊢
  refine take_ (i := 0) (N := some 5) (v := ?_) (a' := ?_) #[true, false, false, false, false, false, false, false, false, false, false] rfl rfl (by kernel_rfl) (fun _ _ _ h => h) (Or.inl ⟨by rfl, ?_⟩) hHeld ?_ ?_
  rotate_left
  · rintro w' ⟨s0, s1, s2⟩
    go_simp
    with_reducible rfl
  rotate_left
  · simp only [Act.put, List.setIfInBounds_toArray, List.set_cons_zero, List.set_cons_succ, i64_w, i32_w]
    rfl
  refine take_ (i := 1) (N := some 6) (v := ?_) (a' := ?_) #[true, true, false, false, false, false, false, false, false, false, false] rfl rfl (by kernel_rfl) (fun _ _ _ h => h) (Or.inl ⟨by rfl, ?_⟩) hHeld ?_ ?_
  rotate_left
  · rintro w' ⟨s0, s1, s2⟩
    go_simp
    with_reducible rfl
  rotate_left
  · simp only [Act.put, List.setIfInBounds_toArray, List.set_cons_zero, List.set_cons_succ, i64_w, i32_w]
    rfl
  refine take_ (i := 2) (N := some 7) (v := ?_) (a' := ?_) #[true, true, true, false, false, false, false, false, false, false, false] rfl rfl (by kernel_rfl) (fun _ _ _ h => h) (Or.inl ⟨by rfl, ?_⟩) hHeld ?_ ?_
  rotate_left
  · rintro w' ⟨s0, s1, s2⟩
    go_simp
    with_reducible rfl
  rotate_left
  · simp only [Act.put, List.setIfInBounds_toArray, List.set_cons_zero, List.set_cons_succ, i64_w, i32_w]
    rfl
  refine take_ (i := 3) (N := some 8) (v := ?_) (a' := ?_) #[true, true, true, true, false, false, false, false, false, false, false] rfl rfl (by kernel_rfl) (fun _ _ _ h => h) (Or.inl ⟨by rfl, ?_⟩) hHeld ?_ ?_
  rotate_left
  · rintro w' ⟨s0, s1, s2⟩
    go_simp
    with_reducible rfl
  rotate_left
  · simp only [Act.put, List.setIfInBounds_toArray, List.set_cons_zero, List.set_cons_succ, i64_w, i32_w]
    rfl
  refine take_ (i := 4) (N := some 9) (v := ?_) (a' := ?_) #[true, true, true, true, true, false, false, false, false, false, false] rfl rfl (by kernel_rfl) (fun _ _ _ h => h) (Or.inl ⟨by rfl, ?_⟩) hHeld ?_ ?_
  rotate_left
  · rintro w' ⟨s0, s1, s2⟩
    go_simp
    with_reducible rfl
  rotate_left
  · simp only [Act.put, List.setIfInBounds_toArray, List.set_cons_zero, List.set_cons_succ, i64_w, i32_w]
    rfl
  refine take_ (i := 8) (N := some 13) (v := ?_) (a' := ?_) #[true, true, true, true, true, false, false, false, true, false, false] rfl rfl (by kernel_rfl) (fun _ _ _ h => h) (Or.inl ⟨by rfl, ?_⟩) hHeld ?_ ?_
  rotate_left
  · rintro w' ⟨s0, s1, s2⟩
    go_simp
    with_reducible rfl
  rotate_left
  · simp only [Act.put, List.setIfInBounds_toArray, List.set_cons_zero, List.set_cons_succ, i64_w, i32_w]
    rfl
  refine one_ (i := 5) (N := some 10) #[true, true, true, true, true, true, false, false, true, false, false] rfl rfl (by kernel_rfl) (by decide) (fun K hK => ?_)
  refine goes_ Tryz.func62 (by kernel_rfl) rfl #[.slice A l.length c, .int .i64 a0] (by rfl) rfl rfl (by (try simp only [List.map_toArray, List.map_cons, List.map_nil]); first | done | rfl) ?_
  refine (impl_without.calls A c l a0 t _ (HC.out) hc HT.out).mono ?_
  rintro e w2 ⟨v, rfl, hR, hb⟩
  refine ⟨_, rfl, ?_⟩
  obtain ⟨D, d, rfl⟩ := Kd.R_slice hR
  have HD := Aside0.mk (Kd.R_reads' hR)
  clear hR
  have hx := blk_below B1.out hb
  have hy := blk_below B2.out hb
  have hB := HB.out.trans (hb.mono HB.out.size)
  clear B1 B2 HB
  have B1 := Aside0.mk hx
  have B2 := Aside0.mk hy
  have HB := Aside0.mk hB
  clear hb hx hy hB
  refine hK.out _ _ ⟨(blk_cell B1.out 0).trans rfl, (blk_cell B1.out 1).trans rfl, (blk_cell B2.out 0).trans rfl⟩ (fun hHeld => ?_)
  clear hK K
  refine norm_ (a' := ?_) ?_ ?_
  rotate_left
  · show Act.put _ (some 10) _ = _
    simp only [Act.put, List.setIfInBounds_toArray, List.set_cons_zero, List.set_cons_succ, i64_w, i32_w]
    rfl
  refine one_ (i := 6) (N := some 11) #[true, true, true, true, true, true, true, false, true, false, false] rfl rfl (by kernel_rfl) (by decide) (fun K hK => ?_)
  refine goes_ Tryz.func57 (by kernel_rfl) rfl #[.int .i64 m, .slice D t.length d] (by rfl) rfl rfl (by (try simp only [List.map_toArray, List.map_cons, List.map_nil]); first | done | rfl) ?_
  refine (impl_solutions.calls k m D d t s _ HD.out.2.2 HD.out.2.1 HS.out).mono ?_
  rintro e w3 ⟨v, rfl, hR, hb⟩
  refine ⟨_, rfl, ?_⟩
  obtain ⟨E, f, rfl⟩ := Kd.V_slice hR
  clear hR HD
  have hx := blk_below B1.out hb
  have hy := blk_below B2.out hb
  have hB := HB.out.trans (hb.mono HB.out.size)
  clear B1 B2 HB
  have B1 := Aside0.mk hx
  have B2 := Aside0.mk hy
  have HB := Aside0.mk hB
  clear hb hx hy hB
  refine hK.out _ _ ⟨(blk_cell B1.out 0).trans rfl, (blk_cell B1.out 1).trans rfl, (blk_cell B2.out 0).trans rfl⟩ (fun hHeld => ?_)
  clear hK K
  refine norm_ (a' := ?_) ?_ ?_
  rotate_left
  · show Act.put _ (some 11) _ = _
    simp only [Act.put, List.setIfInBounds_toArray, List.set_cons_zero, List.set_cons_succ, i64_w, i32_w]
    rfl
  refine take_ (i := 7) (N := some 12) (v := ?_) (a' := ?_) #[true, true, true, true, true, true, true, true, true, false, false] rfl rfl (by kernel_rfl) (fun _ _ _ h => h) (Or.inl ⟨by rfl, ?_⟩) hHeld ?_ ?_
  rotate_left
  · rintro w' ⟨s0, s1, s2⟩
    go_simp
    with_reducible rfl
  rotate_left
  · simp only [Act.put, List.setIfInBounds_toArray, List.set_cons_zero, List.set_cons_succ, i64_w, i32_w]
    rfl
  refine take_ (i := 9) (N := some 14) (v := ?_) (a' := ?_) #[true, true, true, true, true, true, true, true, true, true, false] rfl rfl (by kernel_rfl) (fun _ _ _ h => h) (Or.inl ⟨by rfl, ?_⟩) hHeld ?_ ?_
  rotate_left
  · rintro w' ⟨s0, s1, s2⟩
    go_simp
    with_reducible rfl
  rotate_left
  · simp only [Act.put, List.setIfInBounds_toArray, List.set_cons_zero, List.set_cons_succ, i64_w, i32_w]
    rfl
  refine take_ (i := 10) (N := some 4) (v := ?_) (a' := ?_) #[true, true, true, true, true, true, true, true, true, true, true] rfl rfl (by kernel_rfl) (fun _ _ _ h => h) (Or.inl ⟨by rfl, ?_⟩) hHeld ?_ ?_
  rotate_left
  · rintro w' ⟨s0, s1, s2⟩
    go_simp
    with_reducible rfl
  rotate_left
  · simp only [Act.put, List.setIfInBounds_toArray, List.set_cons_zero, List.set_cons_succ, i64_w, i32_w]
    rfl
  refine done_ (by kernel_rfl) ?_
  go_wp2
  go_ret
  exact ⟨ret_b HE.out, HB.out⟩
theorem impl_NeedlessClues_1.pred (k : Nat) (m : Int) (A : Option Addr) (c : Nat) (l : List S72) (n : Int) (b1 b2 : Nat) (w : World) (h1 : w.heap[b1]? = some (.cells #[.int .i64 m, .slice A l.length c] 30 (0, 0))) (h2 : w.heap[b2]? = some (.cells #[.int .i64 n] 3 (0, 0)))
    (hC : Kd.C k72 w A l.length l) (hc : l.length ≤ c) : PredI Tryz.prog 61 #[] #[.pointer (some ⟨b1, 0, none⟩), .pointer (some ⟨b2, 0, none⟩)] w (fun j => impl_NeedlessClues_1.f k j m l n) := by
  intro W x b hb hp
  exact impl_NeedlessClues_1.calls k x m A c l n b W b1 (blk_below h1 hb) b2 (blk_below h2 hb) (Kd.C_below hC hb) hc hp
def impl_NeedlessClues.f (k : Nat) (m : Int) (l : List S72) : Option (List Int × Bool) := (impl_CountSolutions.f k m l).bind fun t => if t.2 = true then (impl_members.f k (l.length : Int) (fun j => impl_NeedlessClues_1.f k j m l t.1)).bind fun r => some (r, true) else some ([], false)
theorem members_pmono {p q : Int → Option Bool} (h : ∀ x, LeO (p x) (q x)) : ∀ k x5 x8 x9, LeO (impl_members.l0 p k x5 x8 x9) (impl_members.l0 q k x5 x8 x9)
  | 0, _, _, _ => fun r h => by simp [impl_members.l0] at h
  | k + 1, x5, x8, x9 => by
    unfold impl_members.l0
    exact LeO.ite (LeO.bind (h _) fun _ => LeO.ite (LeO.ite (members_pmono h k _ _ _) (LeO.refl _)) (members_pmono h k _ _ _)) (LeO.refl _)
set_option maxRecDepth 20000 in
set_option maxHeartbeats 4000000 in
theorem impl_NeedlessClues.calls (k : Nat) (m : Int) (A : Option Addr) (c : Nat) (l : List S72) (r1 : List Int) (r2 : Bool) (w : World) (hC : Kd.C k72 w A l.length l) (hc : l.length ≤ c) (h : impl_NeedlessClues.f k m l = some (r1, r2)) :
    Calls Tryz.prog 29 #[.agg #[.int .i64 m, .slice A l.length c]] w fun e w' => ∃ v0_ : Value, e = .returned (.tuple #[v0_, .bool r2]) ∧ Kd.R (Kd.int .i64) 3 w' w.heap.size (fun _ => True) v0_ r1 ∧ Below w.heap.size w w' := by
  obtain ⟨⟨n, t⟩, ht, h⟩ := Option.bind_eq_some_iff.mp h
  have HC := Aside0.mk hC
  have HT := Aside0.mk ht
  have u1 := Tryz.underlying30
  clear hC ht
  cases t
  · dsimp only at h
    rw [if_neg (by decide)] at h
    obtain ⟨rfl, rfl⟩ := Prod.mk.inj (Option.some.inj h)
    clear h
    go_enter Tryz.func29, Tryz.ntmps29
    go_wp2_with (go_at_call 16; refine (impl_CountSolutions.calls k m A c l n false _ ?hC hc HT.out).mono ?_; (case hC => exact Kd.C_alloc HC.out _); rintro e w1 ⟨rfl, hb1⟩; have HB := Aside0.mk hb1; clear hb1)
    go_ret2
    exact ⟨_, rfl, Kd.R_nil _ _ _ _ _, (((Below.refl _ w).alloc (Nat.le_refl _) _).trans (HB.out.mono (by simp))).alloc (Nat.le_trans (by simp) HB.out.size) _⟩
  · dsimp only at h
    rw [if_pos rfl] at h
    obtain ⟨r, hr, h⟩ := Option.bind_eq_some_iff.mp h
    obtain ⟨rfl, rfl⟩ := Prod.mk.inj (Option.some.inj h)
    have HR := Aside0.mk hr
    clear h hr
    go_enter Tryz.func29, Tryz.ntmps29
    go_wp2_with (go_at_call 16; refine (impl_CountSolutions.calls k m A c l n true _ ?hC hc HT.out).mono ?_; (case hC => exact Kd.C_alloc HC.out _); rintro e w1 ⟨rfl, hb1⟩; have hx := blk_alloc (blk_below (blk_new w _) hb1) (.cells #[.int .i64 n] 3 (0, 0)); have hx1 := (blk_cell hx 1).trans rfl; have HX := Aside0.mk hx; have HB1 := Aside0.mk ((((Below.refl w.heap.size w).alloc (Nat.le_refl _) _).trans (hb1.mono (by simp))).alloc (Nat.le_trans (by simp) hb1.size) (.cells #[.int .i64 n] 3 (0, 0))); clear hb1 hx)
    go_wp2_with fail
    refine (impl_members.calls k (l.length : Int) _ 61 #[] #[.pointer (some ⟨w.heap.size, 0, none⟩), .pointer (some ⟨w1.heap.size, 0, none⟩)] (enters_of Tryz.func61 (by kernel_rfl) rfl) r _ (impl_NeedlessClues_1.pred k m A c l n _ _ _ HX.out (blk_new w1 _) (Kd.C_below HC.out HB1.out) hc) HR.out).mono ?_
    rintro e w3 ⟨v3, rfl, hS, hb3⟩
    have HS := Aside0.mk hS
    have HB3 := Aside0.mk (HB1.out.trans (hb3.mono HB1.out.size))
    clear hS hb3
    go_wp2
    go_ret2
    exact ⟨_, rfl, Kd.R_lower HS.out HB1.out.size, HB3.out⟩
end Go.Proofs.YtgjakcpbfbfejaaGreat.Q
end
section
namespace Go.Proofs.YtgjakcpbfbfejaaGreat.Q
open Go.RowKit Go.Proofs.YtgjakcpbfbfejaaGreatW.PrintWords Go.Proofs.YtgjakcpbfbfejaaGreatW.PrintLast Go.Proofs.YtgjakcpbfbfejaaGreatW.PrintMore
attribute [local go_sem] max2_int min2_int max_two min_two max_three min_three max_four min_four
set_option linter.unusedVariables false
set_option linter.unusedSimpArgs false
def laws_markClueS.l0 : Nat → List (S72) → Int → Int → Option (Int × (List (S72)))
 | 0, _, _, _ => none
 | k + 1, x0, x1, x5 => if x5 < (x0.length : Int) then (if 0 ≤ x5 then ((some (x0.set (x5 : Int).toNat (⟨x1, (rd_T72 x0 x5).f1, (rd_T72 x0 x5).f2⟩ : S72) : List (S72))).bind fun y487 => ((some (y487.set (x5 : Int).toNat (⟨(rd_T72 y487 x5).f0, wrap64 (x1 + 1), (rd_T72 y487 x5).f2⟩ : S72) : List (S72))).bind fun y488 => (laws_markClueS.l0 k (y488.set (x5 : Int).toNat (⟨(rd_T72 y488 x5).f0, (rd_T72 y488 x5).f1, wrap64 ((wrap64 (x1 + 1)) + 1)⟩ : S72)) (wrap64 ((wrap64 ((wrap64 (x1 + 1)) + 1)) + 1)) (wrap64 (x5 + 1))))) else (none)) else (some (x1, x0))
def laws_markClueS.f (k : Nat) (l0 : List (S72)) (a1 : Int) : Option (Int × (List (S72))) := laws_markClueS.l0 k l0 a1 0
set_option maxHeartbeats 8000000 in
set_option maxRecDepth 100000 in
theorem laws_markClueS.calls (k : Nat) (P0_ : Nat → Prop) (u9000_ : Value) (l0 : List (S72)) (a1 : Int) (r1 : Int) (r2 : List (S72)) (w0 w : World) (hB : Below w0.heap.size w0 w) (ho0 : Kd.R k72 72 w w0.heap.size P0_ u9000_ l0) (h : laws_markClueS.f k l0 a1 = some (r1, r2)) :
  Calls Tryz.prog 58 #[u9000_, .int .i64 a1] w fun e w' => e = .returned (.int .i64 r1) ∧ Kd.R k72 72 w' w0.heap.size (fun k_ => (P0_ k_ ∨ w.heap.size ≤ k_)) u9000_ r2 ∧ Below w0.heap.size w0 w' ∧ Kept w w' (fun k_ => P0_ k_) := by
 have HO0 := Aside0.mk (show Kd.R k72 72 w w0.heap.size (fun k_ => (P0_ k_ ∨ w.heap.size ≤ k_)) u9000_ l0 from Kd.R_mono ho0 (fun k_ hk => (.inl hk)))
 have HK := Aside0.mk (Kept.refl w (fun k_ => P0_ k_))
 have HW0 := Aside0.mk hB.size
 have HB := Aside0.mk hB
 clear hB
 have H : (laws_markClueS.l0 k l0 a1 0) = some (r1, r2) := h
 clear h
 have H' := Aside0.mk H
 clear H
 go_enter Tryz.func58, Tryz.ntmps58
 go_wp2
 go_loopg [1, 5] k (fun kq v1 v5 w' => ∃ (x0_1 : List (S72)) (x1_1 : Int) (x5_1 : Int), v1 = .int .i64 x1_1 ∧ v5 = .int .i64 x5_1 ∧ Aside0 (laws_markClueS.l0 kq x0_1 x1_1 x5_1 = some (r1, r2)) ∧ Aside0 (kq ≤ k) ∧ Aside0 (Kd.R k72 72 w' w0.heap.size (fun k_ => (P0_ k_ ∨ w.heap.size ≤ k_)) u9000_ x0_1) ∧ Aside0 (Kept w w' (fun k_ => P0_ k_)) ∧ Aside0 (Below w0.heap.size w0 w'))
 case atStart => exact ⟨(l0), (a1), (0), (by first | rfl | (simp; done) | (simp [*]; done)), (by first | rfl | (simp; done) | (simp [*]; done)), H', ⟨Nat.le_refl _⟩, ⟨zr HO0.out⟩, ⟨by repeat (first | (with_reducible first | exact HK.out | apply Kept.alloc | apply Kept.drewN | apply Kept.drew) | exact HK.out)⟩, ⟨zh HB.out⟩⟩
 case round =>
  clear H'
  try clear p2
  obtain ⟨x0_1, x1_1, x5_1, rfl, rfl, HA, HK1, HO_0, HK, HB⟩ := hrel
  cases gk with
  | zero => exact absurd HA.out (by simp [laws_markClueS.l0])
  | succ k1 =>
   have H := HA.out
   clear HA
   simp only [laws_markClueS.l0] at H
   by_cases c3 : x5_1 < (x0_1.length : Int)
   rotate_left
   ·rw [if_neg c3] at H
    have c3b0 : decide (x5_1 < (x0_1.length : Int)) = false := decide_eq_false c3
    clear c3
    simp only [Option.some.injEq, Prod.mk.injEq] at H
    obtain ⟨rfl, rfl⟩ := H
    obtain ⟨Ao15, co15, eo15⟩ := Kd.R_slice HO_0.out
    subst eo15
    go_wp2
    go_ret
    exact ⟨by first | rfl | (simp [*, errW_none, errW_some] <;> rfl), by (with_reducible repeat (first | apply Kd.R_alloc | apply Kd.R_drewN | apply Kd.R_drew)); exact HO_0.out, by repeat (first | (with_reducible first | exact HB.out | apply below_alloc | apply pw_below_drewN | apply below_drew1) | exact HB.out), by repeat (first | (with_reducible first | exact HK.out | apply Kept.alloc | apply Kept.drewN | apply Kept.drew) | exact HK.out)⟩
   rw [if_pos c3] at H
   have c3b0 : decide (x5_1 < (x0_1.length : Int)) = true := decide_eq_true c3
   clear c3
   by_cases c4 : 0 ≤ x5_1
   rotate_left
   ·rw [if_neg c4] at H
    exact absurd H (by simp)
   rw [if_pos c4] at H
   have c4b0 : decide (0 ≤ x5_1) = true := decide_eq_true c4
   clear c4
   obtain ⟨y487, hy487⟩ : ∃ y_ : List (S72), y_ = (x0_1.set (x5_1 : Int).toNat (⟨x1_1, (rd_T72 x0_1 x5_1).f1, (rd_T72 x0_1 x5_1).f2⟩ : S72)) := ⟨_, rfl⟩
   replace H : ((some (y487.set (x5_1 : Int).toNat (⟨(rd_T72 y487 x5_1).f0, wrap64 (x1_1 + 1), (rd_T72 y487 x5_1).f2⟩ : S72) : List (S72))).bind fun y488 => (laws_markClueS.l0 k1 (y488.set (x5_1 : Int).toNat (⟨(rd_T72 y488 x5_1).f0, (rd_T72 y488 x5_1).f1, wrap64 ((wrap64 (x1_1 + 1)) + 1)⟩ : S72)) (wrap64 ((wrap64 ((wrap64 (x1_1 + 1)) + 1)) + 1)) (wrap64 (x5_1 + 1)))) = some (r1, r2) := by first | (rw [hy487]; with_reducible exact H) | (have H2_ := (Option.bind_some _ _).symm.trans H; rw [hy487]; with_reducible exact H2_) | (have H2_ := (Option.bind_some _ _).symm.trans H; with_reducible exact H2_) | with_reducible exact H | (rw [hy487]; exact H) | exact H
   have Ny487 := Aside0.mk hy487
   clear hy487
   obtain ⟨y488, hy488⟩ : ∃ y_ : List (S72), y_ = (y487.set (x5_1 : Int).toNat (⟨(rd_T72 y487 x5_1).f0, wrap64 (x1_1 + 1), (rd_T72 y487 x5_1).f2⟩ : S72)) := ⟨_, rfl⟩
   replace H : (laws_markClueS.l0 k1 (y488.set (x5_1 : Int).toNat (⟨(rd_T72 y488 x5_1).f0, (rd_T72 y488 x5_1).f1, wrap64 ((wrap64 (x1_1 + 1)) + 1)⟩ : S72)) (wrap64 ((wrap64 ((wrap64 (x1_1 + 1)) + 1)) + 1)) (wrap64 (x5_1 + 1))) = some (r1, r2) := by first | (rw [hy488]; with_reducible exact H) | (have H2_ := (Option.bind_some _ _).symm.trans H; rw [hy488]; with_reducible exact H2_) | (have H2_ := (Option.bind_some _ _).symm.trans H; with_reducible exact H2_) | with_reducible exact H | (rw [hy488]; exact H) | exact H
   have Ny488 := Aside0.mk hy488
   clear hy488
   obtain ⟨y489, hy489⟩ : ∃ y_ : List (S72), y_ = (y488.set (x5_1 : Int).toNat (⟨(rd_T72 y488 x5_1).f0, (rd_T72 y488 x5_1).f1, wrap64 ((wrap64 (x1_1 + 1)) + 1)⟩ : S72)) := ⟨_, rfl⟩
   replace H : (laws_markClueS.l0 k1 y489 (wrap64 ((wrap64 ((wrap64 (x1_1 + 1)) + 1)) + 1)) (wrap64 (x5_1 + 1))) = some (r1, r2) := by first | (rw [hy489]; with_reducible exact H) | (have H2_ := (Option.bind_some _ _).symm.trans H; rw [hy489]; with_reducible exact H2_) | (have H2_ := (Option.bind_some _ _).symm.trans H; with_reducible exact H2_) | with_reducible exact H | (rw [hy489]; exact H) | exact H
   have Ny489 := Aside0.mk hy489
   clear hy489
   have H' := Aside0.mk H
   clear H
   obtain ⟨Ao8, co8, eo8⟩ := Kd.R_slice HO_0.out
   subst eo8
   have p5 : 0 ≤ (x5_1 : Int) := of_decide_eq_true (by first | (with_reducible assumption) | assumption)
   have q5 : (x5_1 : Int) < ((x0_1.length : Int) : Int) := of_decide_eq_true (by first | (with_reducible assumption) | assumption)
   obtain ⟨go5, co5, eo5, gb5, gl5, cl5, HG5⟩ := Kd.R_form HO_0.out (by omega)
   (first | cases eo5 | (injection eo5 with ea_ en_ ec_; (first | subst ea_ | (injection ea_ with ea_; subst ea_)); subst ec_; clear en_))
   have GB5 := Aside0.mk gb5
   have GG5 := Aside0.mk HG5
   clear gb5 gl5 HG5
   have HMgo5 := Aside0.mk (show (P0_ go5 ∨ w.heap.size ≤ go5) from (HO_0.out.1 _ rfl))
   obtain ⟨ce5, hcl5, hM5, hcc5, hfr5⟩ := Kd.R_elem HO_0.out z72 (x5_1 : Int) p5 q5
   obtain rfl := k72_openM hM5
   have hx5_0 : wr.cell? ⟨go5, (x5_1 : Int).toNat * 3, none⟩ = some (.int .i64 ((rd_T72 x0_1 x5_1).f0)) := hcc5 0 _ rfl
   have hx5_1 : wr.cell? ⟨go5, (x5_1 : Int).toNat * 3 + 1, none⟩ = some (.int .i64 ((rd_T72 x0_1 x5_1).f1)) := hcc5 1 _ rfl
   have hx5_2 : wr.cell? ⟨go5, (x5_1 : Int).toNat * 3 + 2, none⟩ = some (.int .i64 ((rd_T72 x0_1 x5_1).f2)) := hcc5 2 _ rfl
   have hf5_0 : wr.frozen? ⟨go5, (x5_1 : Int).toNat * 3, none⟩ = false := hfr5 0
   have hf5_1 : wr.frozen? ⟨go5, (x5_1 : Int).toNat * 3 + 1, none⟩ = false := hfr5 1
   have hf5_2 : wr.frozen? ⟨go5, (x5_1 : Int).toNat * 3 + 2, none⟩ = false := hfr5 2
   (try clear hM5); clear hcl5 hcc5 hfr5
   replace p5 := eq_true p5
   replace q5 := eq_true q5
   have HX9 := Aside0.mk (show Kd.R k72 72 wr w0.heap.size (fun k_ => (P0_ k_ ∨ w.heap.size ≤ k_)) (.slice (some ⟨go5, 0, none⟩) x0_1.length co8) x0_1 from (zr HO_0.out))
   obtain ⟨ce9, hcl9, hM9, hcc9, hfr9⟩ := Kd.R_elem HX9.out z72 (x5_1 : Int) (of_decide_eq_true (by first | (with_reducible assumption) | assumption)) (by have h_ : (x5_1 : Int) < ((x0_1.length : Int) : Int) := of_decide_eq_true (by first | (with_reducible assumption) | assumption); first | exact h_ | (have e_ := (Kd.R_reads' HO_0.out).1; omega) | simpa using h_)
   obtain rfl := k72_openM hM9
   have HP9 := Kd.R_seg HX9.out (x5_1 : Int) (of_decide_eq_true (by first | (with_reducible assumption) | assumption)) (by have h_ : (x5_1 : Int) < ((x0_1.length : Int) : Int) := of_decide_eq_true (by first | (with_reducible assumption) | assumption); first | exact h_ | (have e_ := (Kd.R_reads' HO_0.out).1; omega) | simpa using h_) (seg := [.int .i64 x1_1]) (j := 0) hcl9 hcc9 (show 1 ≤ 3 from by decide) (x' := (⟨x1_1, (rd_T72 x0_1 x5_1).f1, (rd_T72 x0_1 x5_1).f2⟩ : S72)) (k72_mkM _ _ _ (⟨x1_1, (rd_T72 x0_1 x5_1).f1, (rd_T72 x0_1 x5_1).f2⟩ : S72) ) (fun _ hk => hk)
   have hx9_0 := hcc9 0 _ rfl
   (try simp only [show (k72).sz = 3 from rfl, Nat.mul_one, Nat.add_zero] at hx9_0)
   have hf9_0 := hfr9 0
   (try simp only [show (k72).sz = 3 from rfl, Nat.mul_one, Nat.add_zero] at hf9_0)
   (try clear hM9); clear hcl9 hcc9 hfr9
   go_wp2_with (first | ((with_reducible refine gate_store (t := 3) (p := 16) rfl ?_); refine store_event (t := 3) (p := 16) (v := ?vo_w10) (w1 := (wr.setCell ⟨go5, (x5_1 : Int).toNat * 3, none⟩ (.int .i64 x1_1))) ?hg ?ho ?hn ?hr ?_; (case ho => rfl); (case hg => rfl); (case hn => rfl); (case hr => first | (go_simp; done) | (go_simp; rfl)); intro w10 hw; have hg : wr.grownBy w10 (some go5) := (by rw [hw]; exact HP9.2); have hp_ : Kd.R k72 72 w10 w0.heap.size (fun k_ => (P0_ k_ ∨ w.heap.size ≤ k_)) (.slice (some ⟨go5, 0, none⟩) x0_1.length co8) y487 := (by rw [hw, Ny487.out]; exact HP9.1); clear HP9; have n0_ := Aside0.mk (hp_); have n1_ := Aside0.mk ((by rw [hw]; exact below_set (HB.out) GB5.out : Below w0.heap.size w0 w10)); have n2_ := Aside0.mk (Kept.of_grown (S := (fun k_ => P0_ k_)) hg (by repeat (first | (with_reducible first | exact HK.out | apply Kept.alloc | apply Kept.drewN | apply Kept.drew) | exact HK.out)) (fun k_ e_ => (HO_0.out.1 k_ e_))); clear HO_0; clear HB; clear HK; have HO_0 := n0_; have HB := n1_; have HK := n2_; clear n0_ n1_ n2_; clear hg hw hp_; have p6 : 0 ≤ (x5_1 : Int) := of_decide_eq_true (by first | (with_reducible assumption) | assumption); have q6 : (x5_1 : Int) < ((x0_1.length : Int) : Int) := of_decide_eq_true (by first | (with_reducible assumption) | assumption); obtain ⟨ce6, hcl6, hM6, hcc6, hfr6⟩ := Kd.R_elem HO_0.out z72 (x5_1 : Int) p6 q6; obtain rfl := k72_openM hM6; have hx6_0 : w10.cell? ⟨go5, (x5_1 : Int).toNat * 3, none⟩ = some (.int .i64 ((rd_T72 y487 x5_1).f0)) := hcc6 0 _ rfl; have hx6_1 : w10.cell? ⟨go5, (x5_1 : Int).toNat * 3 + 1, none⟩ = some (.int .i64 ((rd_T72 y487 x5_1).f1)) := hcc6 1 _ rfl; have hx6_2 : w10.cell? ⟨go5, (x5_1 : Int).toNat * 3 + 2, none⟩ = some (.int .i64 ((rd_T72 y487 x5_1).f2)) := hcc6 2 _ rfl; have hf6_0 : w10.frozen? ⟨go5, (x5_1 : Int).toNat * 3, none⟩ = false := hfr6 0; have hf6_1 : w10.frozen? ⟨go5, (x5_1 : Int).toNat * 3 + 1, none⟩ = false := hfr6 1; have hf6_2 : w10.frozen? ⟨go5, (x5_1 : Int).toNat * 3 + 2, none⟩ = false := hfr6 2; (try clear hM6); clear hcl6 hcc6 hfr6; replace p6 := eq_true p6; replace q6 := eq_true q6; have HX11 := Aside0.mk (show Kd.R k72 72 w10 w0.heap.size (fun k_ => (P0_ k_ ∨ w.heap.size ≤ k_)) (.slice (some ⟨go5, 0, none⟩) x0_1.length co8) y487 from (zr HO_0.out)); obtain ⟨ce11, hcl11, hM11, hcc11, hfr11⟩ := Kd.R_elem HX11.out z72 (x5_1 : Int) (of_decide_eq_true (by first | (with_reducible assumption) | assumption)) (by have h_ : (x5_1 : Int) < ((x0_1.length : Int) : Int) := of_decide_eq_true (by first | (with_reducible assumption) | assumption); first | exact h_ | (have e_ := (Kd.R_reads' HO_0.out).1; omega) | simpa using h_); obtain rfl := k72_openM hM11; have HP11 := Kd.R_seg HX11.out (x5_1 : Int) (of_decide_eq_true (by first | (with_reducible assumption) | assumption)) (by have h_ : (x5_1 : Int) < ((x0_1.length : Int) : Int) := of_decide_eq_true (by first | (with_reducible assumption) | assumption); first | exact h_ | (have e_ := (Kd.R_reads' HO_0.out).1; omega) | simpa using h_) (seg := [.int .i64 (wrap64 (x1_1 + 1))]) (j := 1) hcl11 hcc11 (show 2 ≤ 3 from by decide) (x' := (⟨(rd_T72 y487 x5_1).f0, wrap64 (x1_1 + 1), (rd_T72 y487 x5_1).f2⟩ : S72)) (k72_mkM _ _ _ (⟨(rd_T72 y487 x5_1).f0, wrap64 (x1_1 + 1), (rd_T72 y487 x5_1).f2⟩ : S72) ) (fun _ hk => hk); have hx11_1 := hcc11 1 _ rfl; (try simp only [show (k72).sz = 3 from rfl, Nat.mul_one, Nat.add_zero] at hx11_1); have hf11_1 := hfr11 1; (try simp only [show (k72).sz = 3 from rfl, Nat.mul_one, Nat.add_zero] at hf11_1); (try clear hM11); clear hcl11 hcc11 hfr11) | ((with_reducible refine gate_store (t := 3) (p := 23) rfl ?_); refine store_event (t := 3) (p := 23) (v := ?vo_w12) (w1 := (w10.setCell ⟨go5, (x5_1 : Int).toNat * 3 + 1, none⟩ (.int .i64 (wrap64 (x1_1 + 1))))) ?hg ?ho ?hn ?hr ?_; (case ho => rfl); (case hg => rfl); (case hn => rfl); (case hr => first | (go_simp; done) | (go_simp; rfl)); intro w12 hw; have hg : w10.grownBy w12 (some go5) := (by rw [hw]; exact HP11.2); have hp_ : Kd.R k72 72 w12 w0.heap.size (fun k_ => (P0_ k_ ∨ w.heap.size ≤ k_)) (.slice (some ⟨go5, 0, none⟩) x0_1.length co8) y488 := (by rw [hw, Ny488.out]; exact HP11.1); clear HP11; have n0_ := Aside0.mk (hp_); have n1_ := Aside0.mk ((by rw [hw]; exact below_set (HB.out) GB5.out : Below w0.heap.size w0 w12)); have n2_ := Aside0.mk (Kept.of_grown (S := (fun k_ => P0_ k_)) hg (by repeat (first | (with_reducible first | exact HK.out | apply Kept.alloc | apply Kept.drewN | apply Kept.drew) | exact HK.out)) (fun k_ e_ => (HO_0.out.1 k_ e_))); clear HO_0; clear HB; clear HK; have HO_0 := n0_; have HB := n1_; have HK := n2_; clear n0_ n1_ n2_; clear hg hw hp_; have p7 : 0 ≤ (x5_1 : Int) := of_decide_eq_true (by first | (with_reducible assumption) | assumption); have q7 : (x5_1 : Int) < ((x0_1.length : Int) : Int) := of_decide_eq_true (by first | (with_reducible assumption) | assumption); obtain ⟨ce7, hcl7, hM7, hcc7, hfr7⟩ := Kd.R_elem HO_0.out z72 (x5_1 : Int) p7 q7; obtain rfl := k72_openM hM7; have hx7_0 : w12.cell? ⟨go5, (x5_1 : Int).toNat * 3, none⟩ = some (.int .i64 ((rd_T72 y488 x5_1).f0)) := hcc7 0 _ rfl; have hx7_1 : w12.cell? ⟨go5, (x5_1 : Int).toNat * 3 + 1, none⟩ = some (.int .i64 ((rd_T72 y488 x5_1).f1)) := hcc7 1 _ rfl; have hx7_2 : w12.cell? ⟨go5, (x5_1 : Int).toNat * 3 + 2, none⟩ = some (.int .i64 ((rd_T72 y488 x5_1).f2)) := hcc7 2 _ rfl; have hf7_0 : w12.frozen? ⟨go5, (x5_1 : Int).toNat * 3, none⟩ = false := hfr7 0; have hf7_1 : w12.frozen? ⟨go5, (x5_1 : Int).toNat * 3 + 1, none⟩ = false := hfr7 1; have hf7_2 : w12.frozen? ⟨go5, (x5_1 : Int).toNat * 3 + 2, none⟩ = false := hfr7 2; (try clear hM7); clear hcl7 hcc7 hfr7; replace p7 := eq_true p7; replace q7 := eq_true q7; have HX13 := Aside0.mk (show Kd.R k72 72 w12 w0.heap.size (fun k_ => (P0_ k_ ∨ w.heap.size ≤ k_)) (.slice (some ⟨go5, 0, none⟩) x0_1.length co8) y488 from (zr HO_0.out)); obtain ⟨ce13, hcl13, hM13, hcc13, hfr13⟩ := Kd.R_elem HX13.out z72 (x5_1 : Int) (of_decide_eq_true (by first | (with_reducible assumption) | assumption)) (by have h_ : (x5_1 : Int) < ((x0_1.length : Int) : Int) := of_decide_eq_true (by first | (with_reducible assumption) | assumption); first | exact h_ | (have e_ := (Kd.R_reads' HO_0.out).1; omega) | simpa using h_); obtain rfl := k72_openM hM13; have HP13 := Kd.R_seg HX13.out (x5_1 : Int) (of_decide_eq_true (by first | (with_reducible assumption) | assumption)) (by have h_ : (x5_1 : Int) < ((x0_1.length : Int) : Int) := of_decide_eq_true (by first | (with_reducible assumption) | assumption); first | exact h_ | (have e_ := (Kd.R_reads' HO_0.out).1; omega) | simpa using h_) (seg := [.int .i64 (wrap64 ((wrap64 (x1_1 + 1)) + 1))]) (j := 2) hcl13 hcc13 (show 3 ≤ 3 from by decide) (x' := (⟨(rd_T72 y488 x5_1).f0, (rd_T72 y488 x5_1).f1, wrap64 ((wrap64 (x1_1 + 1)) + 1)⟩ : S72)) (k72_mkM _ _ _ (⟨(rd_T72 y488 x5_1).f0, (rd_T72 y488 x5_1).f1, wrap64 ((wrap64 (x1_1 + 1)) + 1)⟩ : S72) ) (fun _ hk => hk); have hx13_2 := hcc13 2 _ rfl; (try simp only [show (k72).sz = 3 from rfl, Nat.mul_one, Nat.add_zero] at hx13_2); have hf13_2 := hfr13 2; (try simp only [show (k72).sz = 3 from rfl, Nat.mul_one, Nat.add_zero] at hf13_2); (try clear hM13); clear hcl13 hcc13 hfr13) | ((with_reducible refine gate_store (t := 3) (p := 30) rfl ?_); refine store_event (t := 3) (p := 30) (v := ?vo_w14) (w1 := (w12.setCell ⟨go5, (x5_1 : Int).toNat * 3 + 2, none⟩ (.int .i64 (wrap64 ((wrap64 (x1_1 + 1)) + 1))))) ?hg ?ho ?hn ?hr ?_; (case ho => rfl); (case hg => rfl); (case hn => rfl); (case hr => first | (go_simp; done) | (go_simp; rfl)); intro w14 hw; have hg : w12.grownBy w14 (some go5) := (by rw [hw]; exact HP13.2); have hp_ : Kd.R k72 72 w14 w0.heap.size (fun k_ => (P0_ k_ ∨ w.heap.size ≤ k_)) (.slice (some ⟨go5, 0, none⟩) x0_1.length co8) y489 := (by rw [hw, Ny489.out]; exact HP13.1); clear HP13; have n0_ := Aside0.mk (hp_); have n1_ := Aside0.mk ((by rw [hw]; exact below_set (HB.out) GB5.out : Below w0.heap.size w0 w14)); have n2_ := Aside0.mk (Kept.of_grown (S := (fun k_ => P0_ k_)) hg (by repeat (first | (with_reducible first | exact HK.out | apply Kept.alloc | apply Kept.drewN | apply Kept.drew) | exact HK.out)) (fun k_ e_ => (HO_0.out.1 k_ e_))); clear HO_0; clear HB; clear HK; have HO_0 := n0_; have HB := n1_; have HK := n2_; clear n0_ n1_ n2_; clear hg hw hp_))
   go_roundg k1
   case measure => have := HK1.out; omega
   case rel => exact ⟨(y489), (wrap64 ((wrap64 ((wrap64 (x1_1 + 1)) + 1)) + 1)), (wrap64 (x5_1 + 1)), (by first | rfl | (simp; done) | (simp [*]; done)), (by first | rfl | (simp; done) | (simp [*]; done)), H', ⟨by have := HK1.out; omega⟩, ⟨zr HO_0.out⟩, ⟨by repeat (first | (with_reducible first | exact HK.out | apply Kept.alloc | apply Kept.drewN | apply Kept.drew) | exact HK.out)⟩, ⟨zh HB.out⟩⟩
def laws_markPuzzle.f (k : Nat) (a0_0 : Int) (l0_1 : List (S72)) (a1 : Int) : Option (Int × (List (S72))) := (laws_markClueS.f k l0_1 a1).bind fun bt491 => (some (bt491.1, bt491.2))
set_option maxHeartbeats 8000000 in
set_option maxRecDepth 100000 in
theorem laws_markPuzzle.calls (k : Nat) (a0_0 : Int) (P0_1_ : Nat → Prop) (u9000_ : Value) (l0_1 : List (S72)) (a1 : Int) (r1 : Int) (r2 : List (S72)) (w0 w : World) (hB : Below w0.heap.size w0 w) (ho0_1 : Kd.R k72 72 w w0.heap.size P0_1_ u9000_ l0_1) (h : laws_markPuzzle.f k a0_0 l0_1 a1 = some (r1, r2)) :
  Calls Tryz.prog 25 #[.agg #[.int .i64 a0_0, u9000_], .int .i64 a1] w fun e w' => e = .returned (.int .i64 r1) ∧ Kd.R k72 72 w' w0.heap.size (fun k_ => (P0_1_ k_ ∨ w.heap.size ≤ k_)) u9000_ r2 ∧ Below w0.heap.size w0 w' ∧ Kept w w' (fun k_ => P0_1_ k_) := by
 have hu30 := Tryz.underlying30
 have HO0_1 := Aside0.mk (show Kd.R k72 72 w w0.heap.size (fun k_ => (P0_1_ k_ ∨ w.heap.size ≤ k_)) u9000_ l0_1 from Kd.R_mono ho0_1 (fun k_ hk => (.inl hk)))
 have HK := Aside0.mk (Kept.refl w (fun k_ => P0_1_ k_))
 have HW0 := Aside0.mk hB.size
 have HB := Aside0.mk hB
 clear hB
 have H : ((laws_markClueS.f k l0_1 a1).bind fun bt491 => (some (bt491.1, bt491.2))) = some (r1, r2) := h
 clear h
 replace H := Option.bind_eq_some_iff.mp H
 obtain ⟨⟨t491, t492⟩, A30, H⟩ := H
 replace H : (some (t491, t492)) = some (r1, r2) := H
 have A3 := Aside0.mk A30
 clear A30
 simp only [Option.some.injEq, Prod.mk.injEq] at H
 obtain ⟨rfl, rfl⟩ := H
 obtain ⟨Ao4, co4, eo4⟩ := Kd.R_slice HO0_1.out
 subst eo4
 go_enter Tryz.func25, Tryz.ntmps25
 go_wp2_with (first | ((with_reducible refine gate_dst (N := 2) rfl ?_); refine box_event ?hg (N := 2) ?hd (cs := #[.int .i64 a0_0, .slice Ao4 l0_1.length co4]) (t := 30) ?hr ?_; (case hd => rfl); (case hg => rfl); (case hr => first | (go_simp; done) | (go_simp; rfl)); intro gb490 hg w5 hbox hb; have n0_ := Aside0.mk (Kd.R_below (zr HO0_1.out) hb); have n1_ := Aside0.mk (Kept.below (S := (fun k_ => P0_1_ k_)) (by repeat (first | (with_reducible first | exact HK.out | apply Kept.alloc | apply Kept.drewN | apply Kept.drew) | exact HK.out)) hb); have n2_ := Aside0.mk (below_step (zh HB.out) hb); have n3_ := Aside0.mk (hbox); have n4_ := Aside0.mk ((by rw [hg]; exact (by first | exact HK.out.1 | exact (show Kept w _ (fun k_ => P0_1_ k_) from by repeat (first | (with_reducible first | exact HK.out | apply Kept.alloc | apply Kept.drewN | apply Kept.drew) | exact HK.out)).1) : w.heap.size ≤ gb490)); have n5_ := Aside0.mk ((by rw [hg]; exact (below_size (zh HB.out)) : w0.heap.size ≤ gb490)); clear HO0_1; clear HK; clear HB; have HO0_1 := n0_; have HK := n1_; have HB := n2_; have BK490 := n3_; have GW490 := n4_; have GE490 := n5_; clear n0_ n1_ n2_ n3_ n4_ n5_; clear hb hbox hg; have hcz6_0 : w5.cell? ⟨gb490, 0, none⟩ = some (.int .i64 a0_0) := (blk_cell BK490.out 0).trans rfl; have hcz6_1 : w5.cell? ⟨gb490, 1, none⟩ = some (.slice Ao4 l0_1.length co4) := (blk_cell BK490.out 1).trans rfl; have hfz6_0 := blk_frozen BK490.out 0; have hfz6_1 := blk_frozen BK490.out 1) | ((with_reducible refine gate_callee (f := 58) rfl ?_); refine goesL_ (some 8) rfl rfl Tryz.func58 (by kernel_rfl) rfl #[.slice Ao4 l0_1.length co4, .int .i64 a1] rfl (by (try simp only [List.map_toArray, List.map_cons, List.map_nil]); first | done | rfl | (simp only [List.length_drop, List.length_take]; rfl)) ?_; (with_reducible refine (laws_markClueS.calls k (fun k_ => some k_ = (.slice Ao4 l0_1.length co4 : Value).ownBlock) (.slice Ao4 l0_1.length co4) l0_1 a1 t491 t492 w0 _ ?side1 ?side2 A3.out).mono ?_); (case side1 => repeat (first | (with_reducible first | exact HB.out | apply below_alloc | apply pw_below_drewN | apply below_drew1 | refine below_set ?_ GE490.out) | exact HB.out)); (case side2 => exact Kd.R_tight rfl HO0_1.out); rintro e w7 ⟨rfl, hy0, hb, hkp⟩; refine ⟨_, rfl, ?_⟩; have n0_ := Aside0.mk (Kd.R_reok rfl hy0 (fun k_ e_ => HO0_1.out.1 k_ e_)); have n1_ := Aside0.mk (blk_kept (zb BK490.out) hkp (fun hs_ => (fun e_ => (Kd.R_ne HO0_1.out BK490.out (by decide)) e_) hs_)); have n2_ := Aside0.mk (Kept.then_ (S := (fun k_ => P0_1_ k_)) (by repeat (first | (with_reducible first | exact HK.out | apply Kept.alloc | apply Kept.drewN | apply Kept.drew | refine Kept.setCell ?_ (.inr GW490.out) _) | exact HK.out)) hkp (fun k_ hs_ => (fun e_ => (HO0_1.out.1 k_ e_.symm)) hs_)); have n3_ := Aside0.mk (hb); clear HO0_1; clear BK490; clear HK; clear HB; have HO0_1 := n0_; have BK490 := n1_; have HK := n2_; have HB := n3_; clear n0_ n1_ n2_ n3_; (try clear hb); (try clear hkp); (try clear hy0)))
 go_ret
 exact ⟨by first | rfl | (simp [*, errW_none, errW_some] <;> rfl), by (with_reducible repeat (first | apply Kd.R_alloc | apply Kd.R_drewN | apply Kd.R_drew)); exact HO0_1.out, by repeat (first | (with_reducible first | exact HB.out | apply below_alloc | apply pw_below_drewN | apply below_drew1 | refine below_set ?_ GE490.out) | exact HB.out), by repeat (first | (with_reducible first | exact HK.out | apply Kept.alloc | apply Kept.drewN | apply Kept.drew | refine Kept.setCell ?_ (.inr GW490.out) _) | exact HK.out)⟩
def laws_eqClueS.l0 : Nat → List (S72) → List (S72) → Int → Option (Bool)
 | 0, _, _, _ => none
 | k + 1, x0, x1, x5 => if x5 < (x0.length : Int) then (if 0 ≤ x5 then (if x5 < (x1.length : Int) then ((laws_eqClue.f ((rd_T72 x0 x5).f0) ((rd_T72 x0 x5).f1) ((rd_T72 x0 x5).f2) ((rd_T72 x1 x5).f0) ((rd_T72 x1 x5).f1) ((rd_T72 x1 x5).f2)).bind fun t367 => (if t367 = true then (laws_eqClueS.l0 k x0 x1 (wrap64 (x5 + 1))) else (some false))) else (none)) else (none)) else (some true)
def laws_eqClueS.f (k : Nat) (l0 : List (S72)) (l1 : List (S72)) : Option (Bool) := if (l0.length : Int) = (l1.length : Int) then (laws_eqClueS.l0 k l0 l1 0) else (some false)
def laws_eqClueS.T6 : Bool × List (List Nat × List Nat) := (true, [([], []), ([], []), ([0, 1], [0, 1]), ([2], [2]), ([], []), ([], []), ([4, 5], [4, 5]), ([6], [6]), ([3, 7], [3, 7]), ([8], [8])])
def laws_eqClueS.B6 : List Nat := [0, 0, 3, 7, 0, 0, 48, 112, 255, 511]
theorem laws_eqClueS.tab6 : rtab .any (opsOf Tryz.f54 6) = laws_eqClueS.T6 := by kernel_rfl
theorem laws_eqClueS.bits6 : waitsOk laws_eqClueS.T6.2 laws_eqClueS.B6 = true := by kernel_rfl
set_option maxHeartbeats 8000000 in
set_option maxRecDepth 100000 in
theorem laws_eqClueS.calls (k : Nat) (A0 : Option Addr) (c0 : Nat) (l0 : List (S72)) (A1 : Option Addr) (c1 : Nat) (l1 : List (S72)) (r : Bool) (w : World) (hr0 : Kd.C k72 w A0 l0.length l0) (hc0 : l0.length ≤ c0) (hr1 : Kd.C k72 w A1 l1.length l1) (hc1 : l1.length ≤ c1) (h : laws_eqClueS.f k l0 l1 = some r) :
  Calls Tryz.prog 54 #[.slice A0 l0.length c0, .slice A1 l1.length c1] w fun e w' => e = .returned (.bool r) ∧ Below w.heap.size w w' := by
 have hu72 := Tryz.underlying72
 have HR0 := Aside0.mk hr0
 have HC0 := Aside0.mk hc0
 clear hr0 hc0
 have HR1 := Aside0.mk hr1
 have HC1 := Aside0.mk hc1
 clear hr1 hc1
 have HB := Aside0.mk (Below.refl w.heap.size w)
 have H : (if (l0.length : Int) = (l1.length : Int) then (laws_eqClueS.l0 k l0 l1 0) else (some false)) = some r := h
 clear h
 by_cases c3 : (l0.length : Int) = (l1.length : Int)
 rotate_left
 ·rw [if_neg c3] at H
  have c3b0 : ((l0.length : Int) == (l1.length : Int)) = false := beq_eq_false_iff_ne.mpr c3
  have c3b1 : ((l0.length : Int) != (l1.length : Int)) = true := bne_iff_ne.mpr c3
  have c3b2 : (l0.length == l1.length) = false := by first | simpa using c3 | (simp at c3 ⊢; omega)
  obtain rfl := Option.some.inj H
  go_enter Tryz.func54, Tryz.ntmps54
  go_wp2
  go_ret
  exact ⟨by first | rfl | (simp [*, errW_none, errW_some] <;> rfl), zh HB.out⟩
 rw [if_pos c3] at H
 have c3b0 : ((l0.length : Int) == (l1.length : Int)) = true := beq_iff_eq.mpr c3
 have c3b1 : ((l0.length : Int) != (l1.length : Int)) = false := bne_eq_false_iff_eq.mpr c3
 have c3b2 : (l0.length == l1.length) = true := by first | simpa using c3 | (simp at c3 ⊢; omega)
 clear c3
 have H' := Aside0.mk H
 clear H
 go_enter Tryz.func54, Tryz.ntmps54
 go_wp2
 go_loopg [5] k (fun kq v5 w' => ∃ (x5_1 : Int), v5 = .int .i64 x5_1 ∧ Aside0 (laws_eqClueS.l0 kq l0 l1 x5_1 = some r) ∧ Aside0 (kq ≤ k) ∧ Aside0 (Below w.heap.size w w'))
 case atStart => exact ⟨(0), (by first | rfl | (simp; done) | (simp [*]; done)), H', ⟨Nat.le_refl _⟩, ⟨zh HB.out⟩⟩
 case round =>
  clear H'
  try clear c1
  try clear p2
  try clear c3
  try clear c3b0
  try clear c3b1
  try clear c3b2
  obtain ⟨x5_1, rfl, HA, HK1, HB⟩ := hrel
  cases gk with
  | zero => exact absurd HA.out (by simp [laws_eqClueS.l0])
  | succ k1 =>
   have H := HA.out
   clear HA
   simp only [laws_eqClueS.l0] at H
   by_cases c4 : x5_1 < (l0.length : Int)
   rotate_left
   ·rw [if_neg c4] at H
    have c4b0 : decide (x5_1 < (l0.length : Int)) = false := decide_eq_false c4
    clear c4
    obtain rfl := Option.some.inj H
    go_wp2
    go_ret
    exact ⟨by first | rfl | (simp [*, errW_none, errW_some] <;> rfl), zh HB.out⟩
   rw [if_pos c4] at H
   have c4b0 : decide (x5_1 < (l0.length : Int)) = true := decide_eq_true c4
   clear c4
   by_cases c5 : 0 ≤ x5_1
   rotate_left
   ·rw [if_neg c5] at H
    exact absurd H (by simp)
   rw [if_pos c5] at H
   have c5b0 : decide (0 ≤ x5_1) = true := decide_eq_true c5
   clear c5
   by_cases c6 : x5_1 < (l1.length : Int)
   rotate_left
   ·rw [if_neg c6] at H
    exact absurd H (by simp)
   rw [if_pos c6] at H
   have c6b0 : decide (x5_1 < (l1.length : Int)) = true := decide_eq_true c6
   clear c6
   replace H := Option.bind_eq_some_iff.mp H
   obtain ⟨t367, A70, H⟩ := H
   replace H : (if t367 = true then (laws_eqClueS.l0 k1 l0 l1 (wrap64 (x5_1 + 1))) else (some false)) = some r := H
   have A7 := Aside0.mk A70
   clear A70
   by_cases c8 : t367 = true
   rotate_left
   ·replace c8 := Bool.eq_false_iff.mpr c8
    subst c8
    have H1 : (some false) = some r := by rw [if_neg (show ¬ (false = true) by decide)] at H; exact H
    clear H
    have H := H1
    clear H1
    obtain rfl := Option.some.inj H
    try go_wp2
    have n0_ := Aside0.mk (below_drew1 HB.out)
    clear HB
    have HB := n0_
    clear n0_
    have p365 : 0 ≤ (x5_1 : Int) := of_decide_eq_true (by first | (with_reducible assumption) | assumption)
    have q365 : x5_1 < (l0.length : Int) := of_decide_eq_true (by first | (with_reducible assumption) | assumption)
    obtain ⟨ad365, e365, hx365_0, hx365_1, hx365_2⟩ := at_T72 HR0.out x5_1 p365 q365
    have hw365_2 := hx365_2
    have hw365_1 := hx365_1
    have hw365_0 := hx365_0
    cases e365
    replace hx365_0 := (HB.out.cell (World.block_lt_of_cell? w _ hx365_0)).trans hx365_0
    replace hx365_1 := (HB.out.cell (World.block_lt_of_cell? w _ hx365_1)).trans hx365_1
    replace hx365_2 := (HB.out.cell (World.block_lt_of_cell? w _ hx365_2)).trans hx365_2
    replace p365 := eq_true p365
    replace q365 := eq_true q365
    have p366 : 0 ≤ (x5_1 : Int) := of_decide_eq_true (by first | (with_reducible assumption) | assumption)
    have q366 : x5_1 < (l1.length : Int) := of_decide_eq_true (by first | (with_reducible assumption) | assumption)
    obtain ⟨ad366, e366, hx366_0, hx366_1, hx366_2⟩ := at_T72 HR1.out x5_1 p366 q366
    have hw366_2 := hx366_2
    have hw366_1 := hx366_1
    have hw366_0 := hx366_0
    cases e366
    replace hx366_0 := (HB.out.cell (World.block_lt_of_cell? w _ hx366_0)).trans hx366_0
    replace hx366_1 := (HB.out.cell (World.block_lt_of_cell? w _ hx366_1)).trans hx366_1
    replace hx366_2 := (HB.out.cell (World.block_lt_of_cell? w _ hx366_2)).trans hx366_2
    replace p366 := eq_true p366
    replace q366 := eq_true q366
    refine start_ (n := 10) (S := fun w' => w'.cell? (ad365.add ((x5_1).toNat * 3)) = some (.int .i64 ((rd_T72 l0 x5_1).f0)) ∧ w'.cell? ⟨(ad365.add ((x5_1).toNat * 3)).block, (ad365.add ((x5_1).toNat * 3)).off + 1, none⟩ = some (.int .i64 ((rd_T72 l0 x5_1).f1)) ∧ w'.cell? ⟨(ad365.add ((x5_1).toNat * 3)).block, (ad365.add ((x5_1).toNat * 3)).off + 2, none⟩ = some (.int .i64 ((rd_T72 l0 x5_1).f2)) ∧ w'.cell? (ad366.add ((x5_1).toNat * 3)) = some (.int .i64 ((rd_T72 l1 x5_1).f0)) ∧ w'.cell? ⟨(ad366.add ((x5_1).toNat * 3)).block, (ad366.add ((x5_1).toNat * 3)).off + 1, none⟩ = some (.int .i64 ((rd_T72 l1 x5_1).f1)) ∧ w'.cell? ⟨(ad366.add ((x5_1).toNat * 3)).block, (ad366.add ((x5_1).toNat * 3)).off + 2, none⟩ = some (.int .i64 ((rd_T72 l1 x5_1).f2))) (ds := []) (tb 10 0) (by kernel_rfl) rfl rfl ⟨((HB.out.cell (World.block_lt_of_cell? w _ hw365_0)).trans hw365_0), ((HB.out.cell (World.block_lt_of_cell? w _ hw365_1)).trans hw365_1), ((HB.out.cell (World.block_lt_of_cell? w _ hw365_2)).trans hw365_2), ((HB.out.cell (World.block_lt_of_cell? w _ hw366_0)).trans hw366_0), ((HB.out.cell (World.block_lt_of_cell? w _ hw366_1)).trans hw366_1), ((HB.out.cell (World.block_lt_of_cell? w _ hw366_2)).trans hw366_2)⟩ (fun hHeld => ?_); refine with_tabW laws_eqClueS.tab6 laws_eqClueS.bits6 (fun HT_ HW_ => ?_)
    generalize wr.drew = w11 at HB hx365_0 hx365_1 hx365_2 hx366_0 hx366_1 hx366_2 hHeld ⊢
    refine zu (i := 0) (N := some 17) (tb 10 1) rfl rfl HT_ ?_
    refine zu (i := 1) (N := some 18) (tb 10 3) rfl rfl HT_ ?_
    refine zu (i := 2) (N := some 19) (tb 10 7) rfl rfl HT_ ?_
    refine zu (i := 4) (N := some 21) (tb 10 23) rfl rfl HT_ ?_
    refine zu (i := 5) (N := some 22) (tb 10 55) rfl rfl HT_ ?_
    refine zu (i := 6) (N := some 23) (tb 10 119) rfl rfl HT_ ?_
    refine take_ (i := 3) (N := some 20) (v := ?_) (a' := ?_) (tb 10 127) rfl rfl (take_ofW HT_.out HW_.out (by kernel_rfl)) (fun _ _ _ h => h) (Or.inl ⟨by rfl, ?_⟩) hHeld ?_ ?_
    rotate_left
    ·rintro w' ⟨s0, s1, s2, s3, s4, s5⟩
     go_simp
     with_reducible rfl
    rotate_left
    ·simp only [Act.put, List.setIfInBounds_toArray, List.set_cons_zero, List.set_cons_succ, i64_w, i32_w]
     rfl
    refine take_ (i := 7) (N := some 24) (v := ?_) (a' := ?_) (tb 10 255) rfl rfl (take_ofW HT_.out HW_.out (by kernel_rfl)) (fun _ _ _ h => h) (Or.inl ⟨by rfl, ?_⟩) hHeld ?_ ?_
    rotate_left
    ·rintro w' ⟨s0, s1, s2, s3, s4, s5⟩
     go_simp
     with_reducible rfl
    rotate_left
    ·simp only [Act.put, List.setIfInBounds_toArray, List.set_cons_zero, List.set_cons_succ, i64_w, i32_w]
     rfl
    refine one_ (i := 8) (N := some 25) (tb 10 511) rfl rfl (one_of HT_.out (by kernel_rfl)) (by decide) (fun K hK => ?_)
    refine goes_ Tryz.func72 (by kernel_rfl) rfl #[.agg #[.int .i64 ((rd_T72 l0 x5_1).f0), .int .i64 ((rd_T72 l0 x5_1).f1), .int .i64 ((rd_T72 l0 x5_1).f2)], .agg #[.int .i64 ((rd_T72 l1 x5_1).f0), .int .i64 ((rd_T72 l1 x5_1).f1), .int .i64 ((rd_T72 l1 x5_1).f2)]] (by rfl) rfl rfl (by (try simp only [List.map_toArray, List.map_cons, List.map_nil]); first | done | rfl | (simp only [List.length_drop, List.length_take]; rfl)) ?_
    with_reducible refine (laws_eqClue.calls ((rd_T72 l0 x5_1).f0) ((rd_T72 l0 x5_1).f1) ((rd_T72 l0 x5_1).f2) ((rd_T72 l1 x5_1).f0) ((rd_T72 l1 x5_1).f1) ((rd_T72 l1 x5_1).f2) false _ A7.out).mono ?_
    rintro e w12 ⟨rfl, hb⟩
    refine ⟨_, rfl, ?_⟩
    have n0_ := Aside0.mk (below_step (zh HB.out) hb)
    clear HB
    have HB := n0_
    clear n0_
    (try clear hb)
    (try clear hb2)
    (try clear hk)
    (try clear hi)
    refine hK.out _ _ ⟨((HB.out.cell (World.block_lt_of_cell? w _ hw365_0)).trans hw365_0), ((HB.out.cell (World.block_lt_of_cell? w _ hw365_1)).trans hw365_1), ((HB.out.cell (World.block_lt_of_cell? w _ hw365_2)).trans hw365_2), ((HB.out.cell (World.block_lt_of_cell? w _ hw366_0)).trans hw366_0), ((HB.out.cell (World.block_lt_of_cell? w _ hw366_1)).trans hw366_1), ((HB.out.cell (World.block_lt_of_cell? w _ hw366_2)).trans hw366_2)⟩ (fun hHeld => ?_)
    clear hK K
    refine norm_ (a' := ?_) ?_ ?_
    rotate_left
    ·show Act.put _ (some 25) _ = _
     simp only [Act.put, List.setIfInBounds_toArray, List.set_cons_zero, List.set_cons_succ, i64_w, i32_w]
     rfl
    refine zu (i := 9) (N := some 26) (tb 10 1023) rfl rfl HT_ ?_
    refine done_ (done_of HT_.out (by kernel_rfl)) ?_
    try go_wp2
    go_ret
    exact ⟨by first | rfl | (simp [*, errW_none, errW_some] <;> rfl), zh HB.out⟩
   subst c8
   have H1 : (laws_eqClueS.l0 k1 l0 l1 (wrap64 (x5_1 + 1))) = some r := by rw [if_pos rfl] at H; exact H
   clear H
   have H := H1
   clear H1
   have H' := Aside0.mk H
   clear H
   try go_wp2
   have n0_ := Aside0.mk (below_drew1 HB.out)
   clear HB
   have HB := n0_
   clear n0_
   have p365 : 0 ≤ (x5_1 : Int) := of_decide_eq_true (by first | (with_reducible assumption) | assumption)
   have q365 : x5_1 < (l0.length : Int) := of_decide_eq_true (by first | (with_reducible assumption) | assumption)
   obtain ⟨ad365, e365, hx365_0, hx365_1, hx365_2⟩ := at_T72 HR0.out x5_1 p365 q365
   have hw365_2 := hx365_2
   have hw365_1 := hx365_1
   have hw365_0 := hx365_0
   cases e365
   replace hx365_0 := (HB.out.cell (World.block_lt_of_cell? w _ hx365_0)).trans hx365_0
   replace hx365_1 := (HB.out.cell (World.block_lt_of_cell? w _ hx365_1)).trans hx365_1
   replace hx365_2 := (HB.out.cell (World.block_lt_of_cell? w _ hx365_2)).trans hx365_2
   replace p365 := eq_true p365
   replace q365 := eq_true q365
   have p366 : 0 ≤ (x5_1 : Int) := of_decide_eq_true (by first | (with_reducible assumption) | assumption)
   have q366 : x5_1 < (l1.length : Int) := of_decide_eq_true (by first | (with_reducible assumption) | assumption)
   obtain ⟨ad366, e366, hx366_0, hx366_1, hx366_2⟩ := at_T72 HR1.out x5_1 p366 q366
   have hw366_2 := hx366_2
   have hw366_1 := hx366_1
   have hw366_0 := hx366_0
   cases e366
   replace hx366_0 := (HB.out.cell (World.block_lt_of_cell? w _ hx366_0)).trans hx366_0
   replace hx366_1 := (HB.out.cell (World.block_lt_of_cell? w _ hx366_1)).trans hx366_1
   replace hx366_2 := (HB.out.cell (World.block_lt_of_cell? w _ hx366_2)).trans hx366_2
   replace p366 := eq_true p366
   replace q366 := eq_true q366
   refine start_ (n := 10) (S := fun w' => w'.cell? (ad365.add ((x5_1).toNat * 3)) = some (.int .i64 ((rd_T72 l0 x5_1).f0)) ∧ w'.cell? ⟨(ad365.add ((x5_1).toNat * 3)).block, (ad365.add ((x5_1).toNat * 3)).off + 1, none⟩ = some (.int .i64 ((rd_T72 l0 x5_1).f1)) ∧ w'.cell? ⟨(ad365.add ((x5_1).toNat * 3)).block, (ad365.add ((x5_1).toNat * 3)).off + 2, none⟩ = some (.int .i64 ((rd_T72 l0 x5_1).f2)) ∧ w'.cell? (ad366.add ((x5_1).toNat * 3)) = some (.int .i64 ((rd_T72 l1 x5_1).f0)) ∧ w'.cell? ⟨(ad366.add ((x5_1).toNat * 3)).block, (ad366.add ((x5_1).toNat * 3)).off + 1, none⟩ = some (.int .i64 ((rd_T72 l1 x5_1).f1)) ∧ w'.cell? ⟨(ad366.add ((x5_1).toNat * 3)).block, (ad366.add ((x5_1).toNat * 3)).off + 2, none⟩ = some (.int .i64 ((rd_T72 l1 x5_1).f2))) (ds := []) (tb 10 0) (by kernel_rfl) rfl rfl ⟨((HB.out.cell (World.block_lt_of_cell? w _ hw365_0)).trans hw365_0), ((HB.out.cell (World.block_lt_of_cell? w _ hw365_1)).trans hw365_1), ((HB.out.cell (World.block_lt_of_cell? w _ hw365_2)).trans hw365_2), ((HB.out.cell (World.block_lt_of_cell? w _ hw366_0)).trans hw366_0), ((HB.out.cell (World.block_lt_of_cell? w _ hw366_1)).trans hw366_1), ((HB.out.cell (World.block_lt_of_cell? w _ hw366_2)).trans hw366_2)⟩ (fun hHeld => ?_); refine with_tabW laws_eqClueS.tab6 laws_eqClueS.bits6 (fun HT_ HW_ => ?_)
   generalize wr.drew = w9 at HB hx365_0 hx365_1 hx365_2 hx366_0 hx366_1 hx366_2 hHeld ⊢
   refine zu (i := 0) (N := some 17) (tb 10 1) rfl rfl HT_ ?_
   refine zu (i := 1) (N := some 18) (tb 10 3) rfl rfl HT_ ?_
   refine zu (i := 2) (N := some 19) (tb 10 7) rfl rfl HT_ ?_
   refine zu (i := 4) (N := some 21) (tb 10 23) rfl rfl HT_ ?_
   refine zu (i := 5) (N := some 22) (tb 10 55) rfl rfl HT_ ?_
   refine zu (i := 6) (N := some 23) (tb 10 119) rfl rfl HT_ ?_
   refine take_ (i := 3) (N := some 20) (v := ?_) (a' := ?_) (tb 10 127) rfl rfl (take_ofW HT_.out HW_.out (by kernel_rfl)) (fun _ _ _ h => h) (Or.inl ⟨by rfl, ?_⟩) hHeld ?_ ?_
   rotate_left
   ·rintro w' ⟨s0, s1, s2, s3, s4, s5⟩
    go_simp
    with_reducible rfl
   rotate_left
   ·simp only [Act.put, List.setIfInBounds_toArray, List.set_cons_zero, List.set_cons_succ, i64_w, i32_w]
    rfl
   refine take_ (i := 7) (N := some 24) (v := ?_) (a' := ?_) (tb 10 255) rfl rfl (take_ofW HT_.out HW_.out (by kernel_rfl)) (fun _ _ _ h => h) (Or.inl ⟨by rfl, ?_⟩) hHeld ?_ ?_
   rotate_left
   ·rintro w' ⟨s0, s1, s2, s3, s4, s5⟩
    go_simp
    with_reducible rfl
   rotate_left
   ·simp only [Act.put, List.setIfInBounds_toArray, List.set_cons_zero, List.set_cons_succ, i64_w, i32_w]
    rfl
   refine one_ (i := 8) (N := some 25) (tb 10 511) rfl rfl (one_of HT_.out (by kernel_rfl)) (by decide) (fun K hK => ?_)
   refine goes_ Tryz.func72 (by kernel_rfl) rfl #[.agg #[.int .i64 ((rd_T72 l0 x5_1).f0), .int .i64 ((rd_T72 l0 x5_1).f1), .int .i64 ((rd_T72 l0 x5_1).f2)], .agg #[.int .i64 ((rd_T72 l1 x5_1).f0), .int .i64 ((rd_T72 l1 x5_1).f1), .int .i64 ((rd_T72 l1 x5_1).f2)]] (by rfl) rfl rfl (by (try simp only [List.map_toArray, List.map_cons, List.map_nil]); first | done | rfl | (simp only [List.length_drop, List.length_take]; rfl)) ?_
   with_reducible refine (laws_eqClue.calls ((rd_T72 l0 x5_1).f0) ((rd_T72 l0 x5_1).f1) ((rd_T72 l0 x5_1).f2) ((rd_T72 l1 x5_1).f0) ((rd_T72 l1 x5_1).f1) ((rd_T72 l1 x5_1).f2) true _ A7.out).mono ?_
   rintro e w10 ⟨rfl, hb⟩
   refine ⟨_, rfl, ?_⟩
   have n0_ := Aside0.mk (below_step (zh HB.out) hb)
   clear HB
   have HB := n0_
   clear n0_
   (try clear hb)
   (try clear hb2)
   (try clear hk)
   (try clear hi)
   refine hK.out _ _ ⟨((HB.out.cell (World.block_lt_of_cell? w _ hw365_0)).trans hw365_0), ((HB.out.cell (World.block_lt_of_cell? w _ hw365_1)).trans hw365_1), ((HB.out.cell (World.block_lt_of_cell? w _ hw365_2)).trans hw365_2), ((HB.out.cell (World.block_lt_of_cell? w _ hw366_0)).trans hw366_0), ((HB.out.cell (World.block_lt_of_cell? w _ hw366_1)).trans hw366_1), ((HB.out.cell (World.block_lt_of_cell? w _ hw366_2)).trans hw366_2)⟩ (fun hHeld => ?_)
   clear hK K
   refine norm_ (a' := ?_) ?_ ?_
   rotate_left
   ·show Act.put _ (some 25) _ = _
    simp only [Act.put, List.setIfInBounds_toArray, List.set_cons_zero, List.set_cons_succ, i64_w, i32_w]
    rfl
   refine zu (i := 9) (N := some 26) (tb 10 1023) rfl rfl HT_ ?_
   refine done_ (done_of HT_.out (by kernel_rfl)) ?_
   try go_wp2
   go_roundg k1
   case measure => have := HK1.out; omega
   case rel => exact ⟨(wrap64 (x5_1 + 1)), (by first | rfl | (simp; done) | (simp [*]; done)), H', ⟨by have := HK1.out; omega⟩, ⟨zh HB.out⟩⟩
def laws_eqPuzzle.f (k : Nat) (a0_0 : Int) (l0_1 : List (S72)) (a1_0 : Int) (l1_1 : List (S72)) : Option (Bool) := if a0_0 = a1_0 then ((laws_eqClueS.f k l0_1 l1_1).bind fun t370 => (if t370 = true then (some true) else (some false))) else (some false)
set_option maxHeartbeats 8000000 in
set_option maxRecDepth 100000 in
theorem laws_eqPuzzle.calls (k : Nat) (a0_0 : Int) (A0_1 : Option Addr) (c0_1 : Nat) (l0_1 : List (S72)) (a1_0 : Int) (A1_1 : Option Addr) (c1_1 : Nat) (l1_1 : List (S72)) (r : Bool) (w : World) (hr0_1 : Kd.C k72 w A0_1 l0_1.length l0_1) (hc0_1 : l0_1.length ≤ c0_1) (hr1_1 : Kd.C k72 w A1_1 l1_1.length l1_1) (hc1_1 : l1_1.length ≤ c1_1) (h : laws_eqPuzzle.f k a0_0 l0_1 a1_0 l1_1 = some r) :
  Calls Tryz.prog 17 #[.agg #[.int .i64 a0_0, .slice A0_1 l0_1.length c0_1], .agg #[.int .i64 a1_0, .slice A1_1 l1_1.length c1_1]] w fun e w' => e = .returned (.bool r) ∧ Below w.heap.size w w' := by
 have hu30 := Tryz.underlying30
 have HR0_1 := Aside0.mk hr0_1
 have HC0_1 := Aside0.mk hc0_1
 clear hr0_1 hc0_1
 have HR1_1 := Aside0.mk hr1_1
 have HC1_1 := Aside0.mk hc1_1
 clear hr1_1 hc1_1
 have HB := Aside0.mk (Below.refl w.heap.size w)
 have H : (if a0_0 = a1_0 then ((laws_eqClueS.f k l0_1 l1_1).bind fun t370 => (if t370 = true then (some true) else (some false))) else (some false)) = some r := h
 clear h
 by_cases c3 : a0_0 = a1_0
 rotate_left
 ·rw [if_neg c3] at H
  have c3b0 : (a0_0 == a1_0) = false := beq_eq_false_iff_ne.mpr c3
  have c3b1 : (a0_0 != a1_0) = true := bne_iff_ne.mpr c3
  obtain rfl := Option.some.inj H
  go_enter Tryz.func17, Tryz.ntmps17
  go_wp2_with (first | ((with_reducible refine gate_dst (N := 2) rfl ?_); refine box_event ?hg (N := 2) ?hd (cs := #[.int .i64 a0_0, .slice A0_1 l0_1.length c0_1]) (t := 30) ?hr ?_; (case hd => rfl); (case hg => rfl); (case hr => first | (go_simp; done) | (go_simp; rfl)); intro gb368 hg w18 hbox hb; have n2_ := Aside0.mk ((by rw [hg]; exact (below_size (zh HB.out)) : w.heap.size ≤ gb368)); replace HB := Aside0.mk (below_step (zh HB.out) hb); have BK368 := Aside0.mk hbox; have GW368 := n2_; have GE368 := n2_; clear n2_ hb hbox hg) | ((with_reducible refine gate_dst (N := 3) rfl ?_); refine box_event ?hg (N := 3) ?hd (cs := #[.int .i64 a1_0, .slice A1_1 l1_1.length c1_1]) (t := 30) ?hr ?_; (case hd => rfl); (case hg => rfl); (case hr => first | (go_simp; done) | (go_simp; rfl)); intro gb369 hg w19 hbox hb; have n0_ := Aside0.mk (blk_below (g := gb368) (o := .cells #[.int .i64 a0_0, .slice A0_1 l0_1.length c0_1] 30 (0, 0)) (zb BK368.out) hb); have n1_ := Aside0.mk (below_step (zh HB.out) hb); have n2_ := Aside0.mk (hbox); have n3_ := Aside0.mk ((by rw [hg]; exact (below_size (zh HB.out)) : w.heap.size ≤ gb369)); have n4_ := Aside0.mk ((by rw [hg]; exact (below_size (zh HB.out)) : w.heap.size ≤ gb369)); have n5_ := Aside0.mk ((by rw [hg]; exact Nat.ne_of_lt (blk_lt (g := gb368) (o := .cells #[.int .i64 a0_0, .slice A0_1 l0_1.length c0_1] 30 (0, 0)) (zb BK368.out)) : gb368 ≠ gb369)); have n6_ := Aside0.mk ((by rw [hg]; exact Nat.ne_of_gt (blk_lt (g := gb368) (o := .cells #[.int .i64 a0_0, .slice A0_1 l0_1.length c0_1] 30 (0, 0)) (zb BK368.out)) : gb369 ≠ gb368)); clear BK368; clear HB; have BK368 := n0_; have HB := n1_; have BK369 := n2_; have GW369 := n3_; have GE369 := n4_; have NB368_369 := n5_; have NB369_368 := n6_; clear n0_ n1_ n2_ n3_ n4_ n5_ n6_; clear hb hbox hg; have hnb20 := NB368_369.out; have hnc20 := NB369_368.out; have hcz21_0 : w19.cell? ⟨gb368, 0, none⟩ = some (.int .i64 a0_0) := (blk_cell BK368.out 0).trans rfl; have hcz21_1 : w19.cell? ⟨gb368, 1, none⟩ = some (.slice A0_1 l0_1.length c0_1) := (blk_cell BK368.out 1).trans rfl; have hfz21_0 := blk_frozen BK368.out 0; have hfz21_1 := blk_frozen BK368.out 1; have hcz22_0 : w19.cell? ⟨gb369, 0, none⟩ = some (.int .i64 a1_0) := (blk_cell BK369.out 0).trans rfl; have hcz22_1 : w19.cell? ⟨gb369, 1, none⟩ = some (.slice A1_1 l1_1.length c1_1) := (blk_cell BK369.out 1).trans rfl; have hfz22_0 := blk_frozen BK369.out 0; have hfz22_1 := blk_frozen BK369.out 1))
  go_ret
  exact ⟨by first | rfl | (simp [*, errW_none, errW_some] <;> rfl), zh HB.out⟩
 rw [if_pos c3] at H
 have c3b0 : (a0_0 == a1_0) = true := beq_iff_eq.mpr c3
 have c3b1 : (a0_0 != a1_0) = false := bne_eq_false_iff_eq.mpr c3
 clear c3
 replace H := Option.bind_eq_some_iff.mp H
 obtain ⟨t370, A40, H⟩ := H
 replace H : (if t370 = true then (some true) else (some false)) = some r := H
 have A4 := Aside0.mk A40
 clear A40
 by_cases c5 : t370 = true
 ·subst c5
  have H1 : (some true) = some r := by rw [if_pos rfl] at H; exact H
  clear H
  have H := H1
  clear H1
  obtain rfl := Option.some.inj H
  go_enter Tryz.func17, Tryz.ntmps17
  go_wp2_with (first | ((with_reducible refine gate_dst (N := 2) rfl ?_); refine box_event ?hg (N := 2) ?hd (cs := #[.int .i64 a0_0, .slice A0_1 l0_1.length c0_1]) (t := 30) ?hr ?_; (case hd => rfl); (case hg => rfl); (case hr => first | (go_simp; done) | (go_simp; rfl)); intro gb368 hg w6 hbox hb; have n2_ := Aside0.mk ((by rw [hg]; exact (below_size (zh HB.out)) : w.heap.size ≤ gb368)); replace HB := Aside0.mk (below_step (zh HB.out) hb); have BK368 := Aside0.mk hbox; have GW368 := n2_; have GE368 := n2_; clear n2_ hb hbox hg) | ((with_reducible refine gate_dst (N := 3) rfl ?_); refine box_event ?hg (N := 3) ?hd (cs := #[.int .i64 a1_0, .slice A1_1 l1_1.length c1_1]) (t := 30) ?hr ?_; (case hd => rfl); (case hg => rfl); (case hr => first | (go_simp; done) | (go_simp; rfl)); intro gb369 hg w7 hbox hb; have n0_ := Aside0.mk (blk_below (g := gb368) (o := .cells #[.int .i64 a0_0, .slice A0_1 l0_1.length c0_1] 30 (0, 0)) (zb BK368.out) hb); have n1_ := Aside0.mk (below_step (zh HB.out) hb); have n2_ := Aside0.mk (hbox); have n3_ := Aside0.mk ((by rw [hg]; exact (below_size (zh HB.out)) : w.heap.size ≤ gb369)); have n4_ := Aside0.mk ((by rw [hg]; exact (below_size (zh HB.out)) : w.heap.size ≤ gb369)); have n5_ := Aside0.mk ((by rw [hg]; exact Nat.ne_of_lt (blk_lt (g := gb368) (o := .cells #[.int .i64 a0_0, .slice A0_1 l0_1.length c0_1] 30 (0, 0)) (zb BK368.out)) : gb368 ≠ gb369)); have n6_ := Aside0.mk ((by rw [hg]; exact Nat.ne_of_gt (blk_lt (g := gb368) (o := .cells #[.int .i64 a0_0, .slice A0_1 l0_1.length c0_1] 30 (0, 0)) (zb BK368.out)) : gb369 ≠ gb368)); clear BK368; clear HB; have BK368 := n0_; have HB := n1_; have BK369 := n2_; have GW369 := n3_; have GE369 := n4_; have NB368_369 := n5_; have NB369_368 := n6_; clear n0_ n1_ n2_ n3_ n4_ n5_ n6_; clear hb hbox hg; have hnb8 := NB368_369.out; have hnc8 := NB369_368.out; have hcz9_0 : w7.cell? ⟨gb368, 0, none⟩ = some (.int .i64 a0_0) := (blk_cell BK368.out 0).trans rfl; have hcz9_1 : w7.cell? ⟨gb368, 1, none⟩ = some (.slice A0_1 l0_1.length c0_1) := (blk_cell BK368.out 1).trans rfl; have hfz9_0 := blk_frozen BK368.out 0; have hfz9_1 := blk_frozen BK368.out 1; have hcz10_0 : w7.cell? ⟨gb369, 0, none⟩ = some (.int .i64 a1_0) := (blk_cell BK369.out 0).trans rfl; have hcz10_1 : w7.cell? ⟨gb369, 1, none⟩ = some (.slice A1_1 l1_1.length c1_1) := (blk_cell BK369.out 1).trans rfl; have hfz10_0 := blk_frozen BK369.out 0; have hfz10_1 := blk_frozen BK369.out 1) | ((with_reducible refine gate_callee (f := 54) rfl ?_); refine goesL_ (some 14) rfl rfl Tryz.func54 (by kernel_rfl) rfl #[.slice A0_1 l0_1.length c0_1, .slice A1_1 l1_1.length c1_1] rfl (by (try simp only [List.map_toArray, List.map_cons, List.map_nil]); first | done | rfl | (simp only [List.length_drop, List.length_take]; rfl)) ?_; (with_reducible refine (laws_eqClueS.calls k _ _ l0_1 _ _ l1_1 true _ ?side1 ?side2 ?side3 ?side4 A4.out).mono ?_); (case side1 => repeat (first | exact (Kd.C_below HR0_1.out HB.out) | (with_reducible refine Kd.C_alloc ?_ _) | (with_reducible refine Kd.C_drewN ?_ _) | (with_reducible refine Kd.C_drew ?_))); (case side2 => exact HC0_1.out); (case side3 => repeat (first | exact (Kd.C_below HR1_1.out HB.out) | (with_reducible refine Kd.C_alloc ?_ _) | (with_reducible refine Kd.C_drewN ?_ _) | (with_reducible refine Kd.C_drew ?_))); (case side4 => exact HC1_1.out); rintro e w11 ⟨rfl, hb⟩; refine ⟨_, rfl, ?_⟩; have n0_ := Aside0.mk (blk_below (g := gb368) (o := .cells #[.int .i64 a0_0, .slice A0_1 l0_1.length c0_1] 30 (0, 0)) (zb BK368.out) hb); have n1_ := Aside0.mk (blk_below (g := gb369) (o := .cells #[.int .i64 a1_0, .slice A1_1 l1_1.length c1_1] 30 (0, 0)) (zb BK369.out) hb); have n2_ := Aside0.mk (below_step (zh HB.out) hb); clear BK368; clear BK369; clear HB; have BK368 := n0_; have BK369 := n1_; have HB := n2_; clear n0_ n1_ n2_; (try clear hb); (try clear hb2); (try clear hk); (try clear hi)))
  go_ret
  exact ⟨by first | rfl | (simp [*, errW_none, errW_some] <;> rfl), zh HB.out⟩
 replace c5 := Bool.eq_false_iff.mpr c5
 subst c5
 have H1 : (some false) = some r := by rw [if_neg (show ¬ (false = true) by decide)] at H; exact H
 clear H
 have H := H1
 clear H1
 obtain rfl := Option.some.inj H
 go_enter Tryz.func17, Tryz.ntmps17
 go_wp2_with (first | ((with_reducible refine gate_dst (N := 2) rfl ?_); refine box_event ?hg (N := 2) ?hd (cs := #[.int .i64 a0_0, .slice A0_1 l0_1.length c0_1]) (t := 30) ?hr ?_; (case hd => rfl); (case hg => rfl); (case hr => first | (go_simp; done) | (go_simp; rfl)); intro gb368 hg w12 hbox hb; have n2_ := Aside0.mk ((by rw [hg]; exact (below_size (zh HB.out)) : w.heap.size ≤ gb368)); replace HB := Aside0.mk (below_step (zh HB.out) hb); have BK368 := Aside0.mk hbox; have GW368 := n2_; have GE368 := n2_; clear n2_ hb hbox hg) | ((with_reducible refine gate_dst (N := 3) rfl ?_); refine box_event ?hg (N := 3) ?hd (cs := #[.int .i64 a1_0, .slice A1_1 l1_1.length c1_1]) (t := 30) ?hr ?_; (case hd => rfl); (case hg => rfl); (case hr => first | (go_simp; done) | (go_simp; rfl)); intro gb369 hg w13 hbox hb; have n0_ := Aside0.mk (blk_below (g := gb368) (o := .cells #[.int .i64 a0_0, .slice A0_1 l0_1.length c0_1] 30 (0, 0)) (zb BK368.out) hb); have n1_ := Aside0.mk (below_step (zh HB.out) hb); have n2_ := Aside0.mk (hbox); have n3_ := Aside0.mk ((by rw [hg]; exact (below_size (zh HB.out)) : w.heap.size ≤ gb369)); have n4_ := Aside0.mk ((by rw [hg]; exact (below_size (zh HB.out)) : w.heap.size ≤ gb369)); have n5_ := Aside0.mk ((by rw [hg]; exact Nat.ne_of_lt (blk_lt (g := gb368) (o := .cells #[.int .i64 a0_0, .slice A0_1 l0_1.length c0_1] 30 (0, 0)) (zb BK368.out)) : gb368 ≠ gb369)); have n6_ := Aside0.mk ((by rw [hg]; exact Nat.ne_of_gt (blk_lt (g := gb368) (o := .cells #[.int .i64 a0_0, .slice A0_1 l0_1.length c0_1] 30 (0, 0)) (zb BK368.out)) : gb369 ≠ gb368)); clear BK368; clear HB; have BK368 := n0_; have HB := n1_; have BK369 := n2_; have GW369 := n3_; have GE369 := n4_; have NB368_369 := n5_; have NB369_368 := n6_; clear n0_ n1_ n2_ n3_ n4_ n5_ n6_; clear hb hbox hg; have hnb14 := NB368_369.out; have hnc14 := NB369_368.out; have hcz15_0 : w13.cell? ⟨gb368, 0, none⟩ = some (.int .i64 a0_0) := (blk_cell BK368.out 0).trans rfl; have hcz15_1 : w13.cell? ⟨gb368, 1, none⟩ = some (.slice A0_1 l0_1.length c0_1) := (blk_cell BK368.out 1).trans rfl; have hfz15_0 := blk_frozen BK368.out 0; have hfz15_1 := blk_frozen BK368.out 1; have hcz16_0 : w13.cell? ⟨gb369, 0, none⟩ = some (.int .i64 a1_0) := (blk_cell BK369.out 0).trans rfl; have hcz16_1 : w13.cell? ⟨gb369, 1, none⟩ = some (.slice A1_1 l1_1.length c1_1) := (blk_cell BK369.out 1).trans rfl; have hfz16_0 := blk_frozen BK369.out 0; have hfz16_1 := blk_frozen BK369.out 1) | ((with_reducible refine gate_callee (f := 54) rfl ?_); refine goesL_ (some 14) rfl rfl Tryz.func54 (by kernel_rfl) rfl #[.slice A0_1 l0_1.length c0_1, .slice A1_1 l1_1.length c1_1] rfl (by (try simp only [List.map_toArray, List.map_cons, List.map_nil]); first | done | rfl | (simp only [List.length_drop, List.length_take]; rfl)) ?_; (with_reducible refine (laws_eqClueS.calls k _ _ l0_1 _ _ l1_1 false _ ?side1 ?side2 ?side3 ?side4 A4.out).mono ?_); (case side1 => repeat (first | exact (Kd.C_below HR0_1.out HB.out) | (with_reducible refine Kd.C_alloc ?_ _) | (with_reducible refine Kd.C_drewN ?_ _) | (with_reducible refine Kd.C_drew ?_))); (case side2 => exact HC0_1.out); (case side3 => repeat (first | exact (Kd.C_below HR1_1.out HB.out) | (with_reducible refine Kd.C_alloc ?_ _) | (with_reducible refine Kd.C_drewN ?_ _) | (with_reducible refine Kd.C_drew ?_))); (case side4 => exact HC1_1.out); rintro e w17 ⟨rfl, hb⟩; refine ⟨_, rfl, ?_⟩; have n0_ := Aside0.mk (blk_below (g := gb368) (o := .cells #[.int .i64 a0_0, .slice A0_1 l0_1.length c0_1] 30 (0, 0)) (zb BK368.out) hb); have n1_ := Aside0.mk (blk_below (g := gb369) (o := .cells #[.int .i64 a1_0, .slice A1_1 l1_1.length c1_1] 30 (0, 0)) (zb BK369.out) hb); have n2_ := Aside0.mk (below_step (zh HB.out) hb); clear BK368; clear BK369; clear HB; have BK368 := n0_; have BK369 := n1_; have HB := n2_; clear n0_ n1_ n2_; (try clear hb); (try clear hb2); (try clear hk); (try clear hi)))
 go_ret
 exact ⟨by first | rfl | (simp [*, errW_none, errW_some] <;> rfl), zh HB.out⟩
end Go.Proofs.YtgjakcpbfbfejaaGreat.Q
end

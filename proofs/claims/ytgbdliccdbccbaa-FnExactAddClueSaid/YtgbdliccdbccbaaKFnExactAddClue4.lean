/- Part 4 of the proof of FnExactAddClue: what it leans on (no condition). -/
import Derived.Test.YtgbdliccdbccbaaKFnExactAddClue3
section
namespace Go.Proofs.Ytgbdliccdbccbaa.Q
open Go.RowKit Go.Proofs.YtgbdliccdbccbaaW.PrintWords Go.Proofs.YtgbdliccdbccbaaW.PrintLast Go.Proofs.YtgbdliccdbccbaaW.PrintMore
attribute [local go_sem] max2_int min2_int max_two min_two max_three min_three max_four min_four
set_option linter.unusedVariables false
set_option linter.unusedSimpArgs false
def impl_AddClue.f (a0_0 : Int) (l0_1 : List (S25)) (a1_0 : Int) (a1_1 : Int) (a1_2 : Int) : Option (Int × (List (S25)) × Bool) := (impl_Clue_49.f l0_1).bind fun t282 => ((some (([(⟨a1_0, a1_1, a1_2⟩ : S25)] : List (S25)) : List (S25))).bind fun y285 => (if t282.length + y285.length < 5864062014805 then ((some (t282 ++ y285 : List (S25))).bind fun y288 => ((impl_IsPuzzle.f a0_0 l0_1).bind fun t292 => (if t292 = true then ((impl_IsPuzzle.f a0_0 y288).bind fun t293 => (if t293 = true then (some (a0_0, y288, true)) else (some (0, ([] : List (S25)), false)))) else (some (0, ([] : List (S25)), false))))) else (none)))
def impl_AddClue.T1 : Bool × List (List Nat × List Nat) := (true, [([], []), ([0], [0]), ([], []), ([2], [2]), ([3], [3]), ([], []), ([5], [5]), ([4, 6, 4], [4, 6]), ([1, 7], [1, 7]), ([], []), ([9, 8, 7, 0, 1, 2, 3, 4, 5, 6, 7, 8, 9], [8, 9])])
def impl_AddClue.B1 : List Nat := [0, 1, 0, 4, 12, 0, 32, 124, 255, 0, 1023]
theorem impl_AddClue.tab1 : rtab .any (opsOf Try.f26 1) = impl_AddClue.T1 := by kernel_rfl
theorem impl_AddClue.bits1 : waitsOk impl_AddClue.T1.2 impl_AddClue.B1 = true := by kernel_rfl
set_option maxHeartbeats 8000000 in
set_option maxRecDepth 100000 in
theorem impl_AddClue.calls (a0_0 : Int) (A0_1 : Option Addr) (c0_1 : Nat) (l0_1 : List (S25)) (a1_0 : Int) (a1_1 : Int) (a1_2 : Int) (r1 : Int) (r2 : List (S25)) (r3 : Bool) (w : World) (hr0_1 : Kd.C k25 w A0_1 l0_1.length l0_1) (hc0_1 : l0_1.length ≤ c0_1) (h : impl_AddClue.f a0_0 l0_1 a1_0 a1_1 a1_2 = some (r1, r2, r3)) :
  Calls Try.prog 26 #[.agg #[.int .i64 a0_0, .slice A0_1 l0_1.length c0_1], .agg #[.int .i64 a1_0, .int .i64 a1_1, .int .i64 a1_2]] w fun e w' => ∃ v1_ : Value, e = .returned (.tuple #[.agg #[.int .i64 r1, v1_], .bool r3]) ∧ Kd.R k25 25 w' w.heap.size (fun _ => True) v1_ r2 ∧ Below w.heap.size w w' := by
 have hu45 := Try.underlying45
 have hu25 := Try.underlying25
 have HR0_1 := Aside0.mk hr0_1
 have HC0_1 := Aside0.mk hc0_1
 clear hr0_1 hc0_1
 have HB := Aside0.mk (Below.refl w.heap.size w)
 have H : ((impl_Clue_49.f l0_1).bind fun t282 => ((some (([(⟨a1_0, a1_1, a1_2⟩ : S25)] : List (S25)) : List (S25))).bind fun y285 => (if t282.length + y285.length < 5864062014805 then ((some (t282 ++ y285 : List (S25))).bind fun y288 => ((impl_IsPuzzle.f a0_0 l0_1).bind fun t292 => (if t292 = true then ((impl_IsPuzzle.f a0_0 y288).bind fun t293 => (if t293 = true then (some (a0_0, y288, true)) else (some (0, ([] : List (S25)), false)))) else (some (0, ([] : List (S25)), false))))) else (none)))) = some (r1, r2, r3) := h
 clear h
 replace H := Option.bind_eq_some_iff.mp H
 obtain ⟨t282, A30, H⟩ := H
 replace H : ((some (([(⟨a1_0, a1_1, a1_2⟩ : S25)] : List (S25)) : List (S25))).bind fun y285 => (if t282.length + y285.length < 5864062014805 then ((some (t282 ++ y285 : List (S25))).bind fun y288 => ((impl_IsPuzzle.f a0_0 l0_1).bind fun t292 => (if t292 = true then ((impl_IsPuzzle.f a0_0 y288).bind fun t293 => (if t293 = true then (some (a0_0, y288, true)) else (some (0, ([] : List (S25)), false)))) else (some (0, ([] : List (S25)), false))))) else (none))) = some (r1, r2, r3) := H
 have A3 := Aside0.mk A30
 clear A30
 obtain ⟨y285, hy285⟩ : ∃ y_ : List (S25), y_ = (([(⟨a1_0, a1_1, a1_2⟩ : S25)] : List (S25))) := ⟨_, rfl⟩
 replace H : (if t282.length + y285.length < 5864062014805 then ((some (t282 ++ y285 : List (S25))).bind fun y288 => ((impl_IsPuzzle.f a0_0 l0_1).bind fun t292 => (if t292 = true then ((impl_IsPuzzle.f a0_0 y288).bind fun t293 => (if t293 = true then (some (a0_0, y288, true)) else (some (0, ([] : List (S25)), false)))) else (some (0, ([] : List (S25)), false))))) else (none)) = some (r1, r2, r3) := by first | (rw [hy285]; with_reducible exact H) | (have H2_ := (Option.bind_some _ _).symm.trans H; rw [hy285]; with_reducible exact H2_) | (have H2_ := (Option.bind_some _ _).symm.trans H; with_reducible exact H2_) | with_reducible exact H | (rw [hy285]; exact H) | exact H
 have Ny285 := Aside0.mk hy285
 clear hy285
 by_cases c4 : t282.length + y285.length < 5864062014805
 rotate_left
 ·rw [if_neg c4] at H
  exact absurd H (by simp)
 rw [if_pos c4] at H
 have LMc4 := Aside0.mk c4
 clear c4
 obtain ⟨y288, hy288⟩ : ∃ y_ : List (S25), y_ = (t282 ++ y285) := ⟨_, rfl⟩
 replace H : ((impl_IsPuzzle.f a0_0 l0_1).bind fun t292 => (if t292 = true then ((impl_IsPuzzle.f a0_0 y288).bind fun t293 => (if t293 = true then (some (a0_0, y288, true)) else (some (0, ([] : List (S25)), false)))) else (some (0, ([] : List (S25)), false)))) = some (r1, r2, r3) := by first | (rw [hy288]; with_reducible exact H) | (have H2_ := (Option.bind_some _ _).symm.trans H; rw [hy288]; with_reducible exact H2_) | (have H2_ := (Option.bind_some _ _).symm.trans H; with_reducible exact H2_) | with_reducible exact H | (rw [hy288]; exact H) | exact H
 have Ny288 := Aside0.mk hy288
 clear hy288
 replace H := Option.bind_eq_some_iff.mp H
 obtain ⟨t292, A50, H⟩ := H
 replace H : (if t292 = true then ((impl_IsPuzzle.f a0_0 y288).bind fun t293 => (if t293 = true then (some (a0_0, y288, true)) else (some (0, ([] : List (S25)), false)))) else (some (0, ([] : List (S25)), false))) = some (r1, r2, r3) := H
 have A5 := Aside0.mk A50
 clear A50
 by_cases c6 : t292 = true
 rotate_left
 ·replace c6 := Bool.eq_false_iff.mpr c6
  subst c6
  have H1 : (some (0, ([] : List (S25)), false)) = some (r1, r2, r3) := by rw [if_neg (show ¬ (false = true) by decide)] at H; exact H
  clear H
  have H := H1
  clear H1
  simp only [Option.some.injEq, Prod.mk.injEq] at H
  obtain ⟨rfl, rfl, rfl⟩ := H
  go_enter Try.func26, Try.ntmps26
  try go_wp2_with (first | ((with_reducible refine gate_dst (N := 2) rfl ?_); refine box_event ?hg (N := 2) ?hd (cs := #[.int .i64 a0_0, .slice A0_1 l0_1.length c0_1]) (t := 45) ?hr ?_; (case hd => rfl); (case hg => rfl); (case hr => first | (go_simp; done) | (go_simp; rfl)); intro gb279 hg w62 hbox hb; have n0_ := Aside0.mk (below_step (zh HB.out) hb); have n1_ := Aside0.mk (hbox); have n2_ := Aside0.mk ((by rw [hg]; exact (below_size (zh HB.out)) : w.heap.size ≤ gb279)); have n3_ := Aside0.mk ((by rw [hg]; exact (below_size (zh HB.out)) : w.heap.size ≤ gb279)); clear HB; have HB := n0_; have BK279 := n1_; have GW279 := n2_; have GE279 := n3_; clear n0_ n1_ n2_ n3_; clear hb hbox hg) | ((with_reducible refine gate_dst (N := 3) rfl ?_); refine box_event ?hg (N := 3) ?hd (cs := #[.int .i64 a1_0, .int .i64 a1_1, .int .i64 a1_2]) (t := 25) ?hr ?_; (case hd => rfl); (case hg => rfl); (case hr => first | (go_simp; done) | (go_simp; rfl)); intro gb280 hg w63 hbox hb; have n0_ := Aside0.mk (blk_below (g := gb279) (o := .cells #[.int .i64 a0_0, .slice A0_1 l0_1.length c0_1] 45 (0, 0)) (zb BK279.out) hb); have n1_ := Aside0.mk (below_step (zh HB.out) hb); have n2_ := Aside0.mk (hbox); have n3_ := Aside0.mk ((by rw [hg]; exact (below_size (zh HB.out)) : w.heap.size ≤ gb280)); have n4_ := Aside0.mk ((by rw [hg]; exact (below_size (zh HB.out)) : w.heap.size ≤ gb280)); have n5_ := Aside0.mk ((by rw [hg]; exact Nat.ne_of_lt (blk_lt (g := gb279) (o := .cells #[.int .i64 a0_0, .slice A0_1 l0_1.length c0_1] 45 (0, 0)) (zb BK279.out)) : gb279 ≠ gb280)); have n6_ := Aside0.mk ((by rw [hg]; exact Nat.ne_of_gt (blk_lt (g := gb279) (o := .cells #[.int .i64 a0_0, .slice A0_1 l0_1.length c0_1] 45 (0, 0)) (zb BK279.out)) : gb280 ≠ gb279)); clear BK279; clear HB; have BK279 := n0_; have HB := n1_; have BK280 := n2_; have GW280 := n3_; have GE280 := n4_; have NB279_280 := n5_; have NB280_279 := n6_; clear n0_ n1_ n2_ n3_ n4_ n5_ n6_; clear hb hbox hg) | ((with_reducible refine gate_dst (N := 4) rfl ?_); refine box_event ?hg (N := 4) ?hd (cs := #[.int .i64 0, .slice none 0 0]) (t := 45) ?hr ?_; (case hd => rfl); (case hg => rfl); (case hr => first | (go_simp; done) | (go_simp; rfl)); intro gb281 hg w64 hbox hb; have n0_ := Aside0.mk (blk_below (g := gb279) (o := .cells #[.int .i64 a0_0, .slice A0_1 l0_1.length c0_1] 45 (0, 0)) (zb BK279.out) hb); have n1_ := Aside0.mk (blk_below (g := gb280) (o := .cells #[.int .i64 a1_0, .int .i64 a1_1, .int .i64 a1_2] 25 (0, 0)) (zb BK280.out) hb); have n2_ := Aside0.mk (below_step (zh HB.out) hb); have n3_ := Aside0.mk (hbox); have n4_ := Aside0.mk ((by rw [hg]; exact (below_size (zh HB.out)) : w.heap.size ≤ gb281)); have n5_ := Aside0.mk ((by rw [hg]; exact (below_size (zh HB.out)) : w.heap.size ≤ gb281)); have n6_ := Aside0.mk ((by rw [hg]; exact Nat.ne_of_lt (blk_lt (g := gb279) (o := .cells #[.int .i64 a0_0, .slice A0_1 l0_1.length c0_1] 45 (0, 0)) (zb BK279.out)) : gb279 ≠ gb281)); have n7_ := Aside0.mk ((by rw [hg]; exact Nat.ne_of_gt (blk_lt (g := gb279) (o := .cells #[.int .i64 a0_0, .slice A0_1 l0_1.length c0_1] 45 (0, 0)) (zb BK279.out)) : gb281 ≠ gb279)); have n8_ := Aside0.mk ((by rw [hg]; exact Nat.ne_of_lt (blk_lt (g := gb280) (o := .cells #[.int .i64 a1_0, .int .i64 a1_1, .int .i64 a1_2] 25 (0, 0)) (zb BK280.out)) : gb280 ≠ gb281)); have n9_ := Aside0.mk ((by rw [hg]; exact Nat.ne_of_gt (blk_lt (g := gb280) (o := .cells #[.int .i64 a1_0, .int .i64 a1_1, .int .i64 a1_2] 25 (0, 0)) (zb BK280.out)) : gb281 ≠ gb280)); clear BK279; clear BK280; clear HB; have BK279 := n0_; have BK280 := n1_; have HB := n2_; have BK281 := n3_; have GW281 := n4_; have GE281 := n5_; have NB279_281 := n6_; have NB281_279 := n7_; have NB280_281 := n8_; have NB281_280 := n9_; clear n0_ n1_ n2_ n3_ n4_ n5_ n6_ n7_ n8_ n9_; clear hb hbox hg))
  have n0_ := Aside0.mk (blk_drew BK279.out)
  have n1_ := Aside0.mk (blk_drew BK280.out)
  have n2_ := Aside0.mk (blk_drew BK281.out)
  have n3_ := Aside0.mk (below_drew1 HB.out)
  clear BK279
  clear BK280
  clear BK281
  clear HB
  have BK279 := n0_
  have BK280 := n1_
  have BK281 := n2_
  have HB := n3_
  clear n0_ n1_ n2_ n3_
  refine start_ (n := 11) (S := fun w' => True) (ds := []) #[false, false, false, false, false, false, false, false, false, false, false] (by kernel_rfl) rfl rfl trivial (fun hHeld => ?_); refine with_tabW impl_AddClue.tab1 impl_AddClue.bits1 (fun HT_ HW_ => ?_)
  generalize w64.drew = w65 at BK279 BK280 BK281 HB hHeld ⊢
  refine pure_ (i := 0) (N := some 7) (v := ?_) (a' := ?_) #[true, false, false, false, false, false, false, false, false, false, false] rfl rfl (any_of HT_.out (by kernel_rfl)) (fun _ _ _ h => h) (Or.inl ⟨by rfl, ?_⟩) ?_ ?_
  rotate_left
  ·intro w'
   go_simp
   with_reducible rfl
  rotate_left
  ·simp only [Act.put, List.setIfInBounds_toArray, List.set_cons_zero, List.set_cons_succ, i64_w, i32_w]
   rfl
  refine pure_ (i := 2) (N := some 9) (v := ?_) (a' := ?_) #[true, false, true, false, false, false, false, false, false, false, false] rfl rfl (any_of HT_.out (by kernel_rfl)) (fun _ _ _ h => h) (Or.inl ⟨by rfl, ?_⟩) ?_ ?_
  rotate_left
  ·intro w'
   go_simp
   with_reducible rfl
  rotate_left
  ·simp only [Act.put, List.setIfInBounds_toArray, List.set_cons_zero, List.set_cons_succ, i64_w, i32_w]
   rfl
  refine inv_at [1, 3, 4, 5, 6, 7, 8, 9, 10] (fun a0_ b a w' => ∃ (v283 : Value) (v286 : Value) (v289 : Value) (gb291 : Nat) (m8_ : Value) (m9_ : Value), a = putSel a0_ b [(1, 8, .int .i64 a0_0), (3, 10, .slice A0_1 l0_1.length c0_1), (4, 11, v283), (5, 12, .agg #[.int .i64 a1_0, .int .i64 a1_1, .int .i64 a1_2]), (6, 13, v286), (7, 14, v289), (8, 15, m8_), (9, 6, m9_)] ∧ (w'.heap[gb279]? = some (.cells #[.int .i64 a0_0, .slice A0_1 l0_1.length c0_1] 45 (0, 0))) ∧ (w'.heap[gb280]? = some (.cells #[.int .i64 a1_0, .int .i64 a1_1, .int .i64 a1_2] 25 (0, 0))) ∧ (w'.heap[gb281]? = some (.cells #[.int .i64 0, .slice none 0 0] 45 (0, 0))) ∧ (Below w.heap.size w w') ∧ (b 4 = true → b 7 = false → Kd.R k25 25 w' w.heap.size (fun k_ => k_ ≠ gb280) v283 t282) ∧ (b 6 = true → b 7 = false → Kd.R k25 25 w' w.heap.size (fun k_ => k_ ≠ gb280) v286 y285) ∧ (b 7 = true → Kd.R k25 25 w' w.heap.size (fun k_ => k_ ≠ gb280) v289 y288) ∧ (b 9 = true → b 10 = false → w'.heap[gb291]? = some (.cells #[.int .i64 0, .slice none 0 0] 45 (0, 0))) ∧ (b 9 = true → w.heap.size ≤ gb291) ∧ (b 9 = true → w.heap.size ≤ gb291) ∧ (b 9 = true → gb279 ≠ gb291) ∧ (b 9 = true → gb291 ≠ gb279) ∧ (b 9 = true → gb280 ≠ gb291) ∧ (b 9 = true → gb291 ≠ gb280) ∧ (b 9 = true → gb281 ≠ gb291) ∧ (b 9 = true → gb291 ≠ gb281) ∧ (b 10 = true → w'.heap[gb291]? = some (.cells #[.int .i64 a0_0, v289] 45 (0, 0))) ∧ (b 8 = true → (m8_ : Value) = .agg #[.int .i64 a0_0, v289]) ∧ (b 9 = true → (m9_ : Value) = .pointer (some ⟨gb291, 0, none⟩))) HT_.out HW_.out (by kernel_rfl) (by kernel_rfl) ?_ ?_ ?_
  ·exact ⟨.bool false, .bool false, .bool false, 0, .bool false, .bool false, by simp only [putSel, Bool.false_eq_true, if_false], BK279.out, BK280.out, BK281.out, HB.out, fun h_ => absurd h_ (by decide), fun h_ => absurd h_ (by decide), fun h_ => absurd h_ (by decide), fun h_ => absurd h_ (by decide), fun h_ => absurd h_ (by decide), fun h_ => absurd h_ (by decide), fun h_ => absurd h_ (by decide), fun h_ => absurd h_ (by decide), fun h_ => absurd h_ (by decide), fun h_ => absurd h_ (by decide), fun h_ => absurd h_ (by decide), fun h_ => absurd h_ (by decide), fun h_ => absurd h_ (by decide), fun h_ => absurd h_ (by decide), fun h_ => absurd h_ (by decide)⟩
  ·skip
   clear BK279 BK280 BK281 HB
   refine steps_cons ?_ ?_
   ·rintro b a w' ⟨v283, v286, v289, gb291, m8_, m9_, ha, Q_BK279, Q_BK280, Q_BK281, Q_HB, Q_HO284, Q_HO287, Q_HO290, Q_BK291, Q_GW291, Q_GE291, Q_NB279_291, Q_NB291_279, Q_NB280_291, Q_NB291_280, Q_NB281_291, Q_NB291_281, Q_BK291_e10, Q_X8_, Q_X9_⟩ hb_ hon hoff
    refine ⟨_, rfl, fun K hK => ?_⟩
    have e7 : a.tmps[7]? = some (.pointer (some ⟨gb279, 0, none⟩)) := by rw [ha]; exact (putSel_off rfl).trans rfl
    replace ha := Aside0.mk ha
    have BK279 := Aside0.mk Q_BK279
    have BK280 := Aside0.mk Q_BK280
    have BK281 := Aside0.mk Q_BK281
    have HB := Aside0.mk Q_HB
    have hc0_ : w'.cell? ⟨gb279, 0, none⟩ = some (.int .i64 a0_0) := (blk_cell BK279.out 0).trans rfl
    have hc1_ : w'.cell? ⟨gb279, 1, none⟩ = some (.slice A0_1 l0_1.length c0_1) := (blk_cell BK279.out 1).trans rfl
    refine value_ (w1 := w') (v := .int .i64 a0_0) (by rfl) rfl ?_ ?_
    ·go_simp
     (try simp only [i64_w])
     try rfl
    refine hK.out _ _ ⟨v283, v286, v289, gb291, m8_, m9_, (by rw [ha.out]; exact putSel_upk 0 hb_ rfl rfl rfl), Q_BK279, Q_BK280, Q_BK281, Q_HB, Q_HO284, Q_HO287, Q_HO290, Q_BK291, Q_GW291, Q_GE291, Q_NB279_291, Q_NB291_279, Q_NB280_291, Q_NB291_280, Q_NB281_291, Q_NB291_281, fun h0_ => absurd ((hoff 10 (by kernel_rfl)).symm.trans h0_) (by decide), fun h0_ => absurd ((hoff 8 (by kernel_rfl)).symm.trans h0_) (by decide), Q_X9_⟩
   refine steps_cons ?_ ?_
   ·rintro b a w' ⟨v283, v286, v289, gb291, m8_, m9_, ha, Q_BK279, Q_BK280, Q_BK281, Q_HB, Q_HO284, Q_HO287, Q_HO290, Q_BK291, Q_GW291, Q_GE291, Q_NB279_291, Q_NB291_279, Q_NB280_291, Q_NB291_280, Q_NB281_291, Q_NB291_281, Q_BK291_e10, Q_X8_, Q_X9_⟩ hb_ hon hoff
    refine ⟨_, rfl, fun K hK => ?_⟩
    have e9 : a.tmps[9]? = some (.pointer (some ⟨gb279, 1, none⟩)) := by rw [ha]; exact (putSel_off rfl).trans rfl
    replace ha := Aside0.mk ha
    have BK279 := Aside0.mk Q_BK279
    have BK280 := Aside0.mk Q_BK280
    have BK281 := Aside0.mk Q_BK281
    have HB := Aside0.mk Q_HB
    have hc0_ : w'.cell? ⟨gb279, 0, none⟩ = some (.int .i64 a0_0) := (blk_cell BK279.out 0).trans rfl
    have hc1_ : w'.cell? ⟨gb279, 1, none⟩ = some (.slice A0_1 l0_1.length c0_1) := (blk_cell BK279.out 1).trans rfl
    refine value_ (w1 := w') (v := .slice A0_1 l0_1.length c0_1) (by rfl) rfl ?_ ?_
    ·go_simp
     (try simp only [i64_w])
     try rfl
    refine hK.out _ _ ⟨v283, v286, v289, gb291, m8_, m9_, (by rw [ha.out]; exact putSel_upk 1 hb_ rfl rfl rfl), Q_BK279, Q_BK280, Q_BK281, Q_HB, fun h0_ _ => absurd ((hoff 4 (by kernel_rfl)).symm.trans h0_) (by decide), Q_HO287, fun h0_ => absurd ((hoff 7 (by kernel_rfl)).symm.trans h0_) (by decide), Q_BK291, Q_GW291, Q_GE291, Q_NB279_291, Q_NB291_279, Q_NB280_291, Q_NB291_280, Q_NB281_291, Q_NB291_281, fun h0_ => absurd ((hoff 10 (by kernel_rfl)).symm.trans h0_) (by decide), fun h0_ => absurd ((hoff 8 (by kernel_rfl)).symm.trans h0_) (by decide), Q_X9_⟩
   refine steps_cons ?_ ?_
   ·rintro b a w' ⟨v283, v286, v289, gb291, m8_, m9_, ha, Q_BK279, Q_BK280, Q_BK281, Q_HB, Q_HO284, Q_HO287, Q_HO290, Q_BK291, Q_GW291, Q_GE291, Q_NB279_291, Q_NB291_279, Q_NB280_291, Q_NB291_280, Q_NB281_291, Q_NB291_281, Q_BK291_e10, Q_X8_, Q_X9_⟩ hb_ hon hoff
    refine ⟨_, rfl, fun K hK => ?_⟩
    have e10 : a.tmps[10]? = some (.slice A0_1 l0_1.length c0_1) := by rw [ha]; exact putSel_on (e := (3, 10, .slice A0_1 l0_1.length c0_1)) 1 rfl rfl (hon 3 (by kernel_rfl)) rfl
    replace ha := Aside0.mk ha
    have BK279 := Aside0.mk Q_BK279
    have BK280 := Aside0.mk Q_BK280
    have BK281 := Aside0.mk Q_BK281
    have HB := Aside0.mk Q_HB
    refine goes_ Try.func49 (by kernel_rfl) rfl #[.slice A0_1 l0_1.length c0_1] (by rfl) rfl rfl (by first | (simp only [List.map_toArray, List.map_cons, List.map_nil, Act.eval, Array.getD_eq_getD_getElem?, Option.getD_some, e10]; done) | (simp only [List.map_toArray, List.map_cons, List.map_nil, Act.eval, Array.getD_eq_getD_getElem?, Option.getD_some, e10]; rfl)) ?_
    with_reducible refine (impl_Clue_49.calls _ _ l0_1 t282 _ ?side1 ?side2 A3.out).mono ?_
    (case side1 => repeat (first | exact (Kd.C_below HR0_1.out HB.out) | (with_reducible refine Kd.C_alloc ?_ _) | (with_reducible refine Kd.C_drewN ?_ _) | (with_reducible refine Kd.C_drew ?_)))
    (case side2 => exact HC0_1.out)
    rintro e w66 ⟨v283, rfl, ho0, hb⟩
    refine ⟨_, rfl, ?_⟩
    have n0_ := Aside0.mk (Kd.R_lower (Kd.R_newB ho0 (g := gb280) (o := .cells #[.int .i64 a1_0, .int .i64 a1_1, .int .i64 a1_2] 25 (0, 0)) (zb BK280.out)) (below_size (zh HB.out)))
    have n1_ := Aside0.mk (blk_below (g := gb279) (o := .cells #[.int .i64 a0_0, .slice A0_1 l0_1.length c0_1] 45 (0, 0)) (zb BK279.out) hb)
    have n2_ := Aside0.mk (blk_below (g := gb280) (o := .cells #[.int .i64 a1_0, .int .i64 a1_1, .int .i64 a1_2] 25 (0, 0)) (zb BK280.out) hb)
    have n3_ := Aside0.mk (blk_below (g := gb281) (o := .cells #[.int .i64 0, .slice none 0 0] 45 (0, 0)) (zb BK281.out) hb)
    have n4_ := Aside0.mk (below_step (zh HB.out) hb)
    have z_HO287 := fun (h0_ : b 6 = true) (h1_ : b 7 = false) => (show Kd.R k25 25 w66 w.heap.size (fun k_ => k_ ≠ gb280) v286 y285 from by first | exact (Kd.R_elder' (zr (Q_HO287 h0_ h1_)) (Kd.R_base ho0) hb) | exact Kd.R_mono (Kd.R_elder' (zr (Q_HO287 h0_ h1_)) (Kd.R_base ho0) hb) (fun _ h_ => by first | trivial | exact h_ | exact h_.1))
    have z_BK291 := fun (h0_ : b 9 = true) (h1_ : b 10 = false) => (show w66.heap[gb291]? = some (.cells #[.int .i64 0, .slice none 0 0] 45 (0, 0)) from by first | exact (blk_below (g := gb291) (o := .cells #[.int .i64 0, .slice none 0 0] 45 (0, 0)) (zb (Q_BK291 h0_ h1_)) hb))
    clear BK279
    clear BK280
    clear BK281
    clear HB
    have HO284 := n0_
    have BK279 := n1_
    have BK280 := n2_
    have BK281 := n3_
    have HB := n4_
    clear n0_ n1_ n2_ n3_ n4_
    (try clear hb)
    (try clear hb2)
    (try clear hk)
    (try clear hi)
    (try clear ho0)
    refine hK.out _ _ ⟨v283, v286, v289, gb291, m8_, m9_, (by rw [ha.out]; exact putSel_upk 2 hb_ rfl rfl rfl), (zb BK279.out), (zb BK280.out), (zb BK281.out), (zh HB.out), fun _ _ => (zr (Kd.R_mono HO284.out (fun _ hk => hk.2))), z_HO287, fun h0_ => absurd ((hoff 7 (by kernel_rfl)).symm.trans h0_) (by decide), z_BK291, Q_GW291, Q_GE291, Q_NB279_291, Q_NB291_279, Q_NB280_291, Q_NB291_280, Q_NB281_291, Q_NB291_281, fun h0_ => absurd ((hoff 10 (by kernel_rfl)).symm.trans h0_) (by decide), fun h0_ => absurd ((hoff 8 (by kernel_rfl)).symm.trans h0_) (by decide), Q_X9_⟩
   refine steps_cons ?_ ?_
   ·rintro b a w' ⟨v283, v286, v289, gb291, m8_, m9_, ha, Q_BK279, Q_BK280, Q_BK281, Q_HB, Q_HO284, Q_HO287, Q_HO290, Q_BK291, Q_GW291, Q_GE291, Q_NB279_291, Q_NB291_279, Q_NB280_291, Q_NB291_280, Q_NB281_291, Q_NB291_281, Q_BK291_e10, Q_X8_, Q_X9_⟩ hb_ hon hoff
    refine ⟨_, rfl, fun K hK => ?_⟩
    have e3 : a.tmps[3]? = some (.pointer (some ⟨gb280, 0, none⟩)) := by rw [ha]; exact (putSel_off rfl).trans rfl
    replace ha := Aside0.mk ha
    have BK279 := Aside0.mk Q_BK279
    have BK280 := Aside0.mk Q_BK280
    have BK281 := Aside0.mk Q_BK281
    have HB := Aside0.mk Q_HB
    have hc0_ : w'.cell? ⟨gb280, 0, none⟩ = some (.int .i64 a1_0) := (blk_cell BK280.out 0).trans rfl
    have hc1_ : w'.cell? ⟨gb280, 1, none⟩ = some (.int .i64 a1_1) := (blk_cell BK280.out 1).trans rfl
    have hc2_ : w'.cell? ⟨gb280, 2, none⟩ = some (.int .i64 a1_2) := (blk_cell BK280.out 2).trans rfl
    refine value_ (w1 := w') (v := .agg #[.int .i64 a1_0, .int .i64 a1_1, .int .i64 a1_2]) (by rfl) rfl ?_ ?_
    ·go_simp
     (try simp only [i64_w])
     try rfl
    refine hK.out _ _ ⟨v283, v286, v289, gb291, m8_, m9_, (by rw [ha.out]; exact putSel_upk 3 hb_ rfl rfl rfl), Q_BK279, Q_BK280, Q_BK281, Q_HB, Q_HO284, fun h0_ _ => absurd ((hoff 6 (by kernel_rfl)).symm.trans h0_) (by decide), fun h0_ => absurd ((hoff 7 (by kernel_rfl)).symm.trans h0_) (by decide), Q_BK291, Q_GW291, Q_GE291, Q_NB279_291, Q_NB291_279, Q_NB280_291, Q_NB291_280, Q_NB281_291, Q_NB291_281, fun h0_ => absurd ((hoff 10 (by kernel_rfl)).symm.trans h0_) (by decide), fun h0_ => absurd ((hoff 8 (by kernel_rfl)).symm.trans h0_) (by decide), Q_X9_⟩
   refine steps_cons ?_ ?_
   ·rintro b a w' ⟨v283, v286, v289, gb291, m8_, m9_, ha, Q_BK279, Q_BK280, Q_BK281, Q_HB, Q_HO284, Q_HO287, Q_HO290, Q_BK291, Q_GW291, Q_GE291, Q_NB279_291, Q_NB291_279, Q_NB280_291, Q_NB291_280, Q_NB281_291, Q_NB291_281, Q_BK291_e10, Q_X8_, Q_X9_⟩ hb_ hon hoff
    refine ⟨_, rfl, fun K hK => ?_⟩
    have e12 : a.tmps[12]? = some (.agg #[.int .i64 a1_0, .int .i64 a1_1, .int .i64 a1_2]) := by rw [ha]; exact putSel_on (e := (5, 12, .agg #[.int .i64 a1_0, .int .i64 a1_1, .int .i64 a1_2])) 3 rfl rfl (hon 5 (by kernel_rfl)) rfl
    replace ha := Aside0.mk ha
    have BK279 := Aside0.mk Q_BK279
    have BK280 := Aside0.mk Q_BK280
    have BK281 := Aside0.mk Q_BK281
    have HB := Aside0.mk Q_HB
    refine Kd.R_lit_step k25 _ 25 ?hg (N := 13) ?hd (xs := ([(⟨a1_0, a1_1, a1_2⟩ : S25)] : List (S25))) (inner := [.int .i64 a1_0, .int .i64 a1_1, .int .i64 a1_2]) (ok := fun _ => True) (okp := fun _ => True) ?hr ?hp (fun _ hk => hk) trivial (Below.refl _ _) (Nat.le_refl _) (by simp) ?_; (case hd => rfl); (case hg => rfl); (case hr => first | (go_simp; done) | (go_simp; rfl)); (case hp => exact (Reps.c3 (show Kd.M k25 _ _ _ (⟨a1_0, a1_1, a1_2⟩ : S25) [.int .i64 a1_0, .int .i64 a1_1, .int .i64 a1_2] from (k25_mkM _ _ _ (⟨a1_0, a1_1, a1_2⟩ : S25) )) (Reps.none _ _)))
    intro v286 w66 ho67 hb hg_ hnew_
    clear hg_ hnew_
    (first | rw [← Ny285.out] at ho67 | (simp only [Int.reduceToNat] at ho67; rw [← Ny285.out] at ho67))
    have n0_ := Aside0.mk (Kd.R_lower (Kd.R_newB ho67 (g := gb280) (o := .cells #[.int .i64 a1_0, .int .i64 a1_1, .int .i64 a1_2] 25 (0, 0)) (zb BK280.out)) (below_size (zh HB.out)))
    have n1_ := Aside0.mk (blk_below (g := gb279) (o := .cells #[.int .i64 a0_0, .slice A0_1 l0_1.length c0_1] 45 (0, 0)) (zb BK279.out) hb)
    have n2_ := Aside0.mk (blk_below (g := gb280) (o := .cells #[.int .i64 a1_0, .int .i64 a1_1, .int .i64 a1_2] 25 (0, 0)) (zb BK280.out) hb)
    have n3_ := Aside0.mk (blk_below (g := gb281) (o := .cells #[.int .i64 0, .slice none 0 0] 45 (0, 0)) (zb BK281.out) hb)
    have n4_ := Aside0.mk (below_step (zh HB.out) hb)
    have z_HO284 := fun (h0_ : b 4 = true) (h1_ : b 7 = false) => (show Kd.R k25 25 w66 w.heap.size (fun k_ => k_ ≠ gb280) v283 t282 from by first | exact (Kd.R_elder' (zr (Q_HO284 h0_ h1_)) (Kd.R_base ho67) hb) | exact Kd.R_mono (Kd.R_elder' (zr (Q_HO284 h0_ h1_)) (Kd.R_base ho67) hb) (fun _ h_ => by first | trivial | exact h_ | exact h_.1))
    have z_BK291 := fun (h0_ : b 9 = true) (h1_ : b 10 = false) => (show w66.heap[gb291]? = some (.cells #[.int .i64 0, .slice none 0 0] 45 (0, 0)) from by first | exact (blk_below (g := gb291) (o := .cells #[.int .i64 0, .slice none 0 0] 45 (0, 0)) (zb (Q_BK291 h0_ h1_)) hb))
    clear BK279
    clear BK280
    clear BK281
    clear HB
    have HO287 := n0_
    have BK279 := n1_
    have BK280 := n2_
    have BK281 := n3_
    have HB := n4_
    clear n0_ n1_ n2_ n3_ n4_
    clear hb ho67
    refine hK.out _ _ ⟨v283, v286, v289, gb291, m8_, m9_, (by rw [ha.out]; exact putSel_upk 4 hb_ rfl rfl rfl), (zb BK279.out), (zb BK280.out), (zb BK281.out), (zh HB.out), z_HO284, fun _ _ => (zr (Kd.R_mono HO287.out (fun _ hk => hk.2))), fun h0_ => absurd ((hoff 7 (by kernel_rfl)).symm.trans h0_) (by decide), z_BK291, Q_GW291, Q_GE291, Q_NB279_291, Q_NB291_279, Q_NB280_291, Q_NB291_280, Q_NB281_291, Q_NB291_281, fun h0_ => absurd ((hoff 10 (by kernel_rfl)).symm.trans h0_) (by decide), fun h0_ => absurd ((hoff 8 (by kernel_rfl)).symm.trans h0_) (by decide), Q_X9_⟩
   refine steps_cons ?_ ?_
   ·rintro b a w' ⟨v283, v286, v289, gb291, m8_, m9_, ha, Q_BK279, Q_BK280, Q_BK281, Q_HB, Q_HO284, Q_HO287, Q_HO290, Q_BK291, Q_GW291, Q_GE291, Q_NB279_291, Q_NB291_279, Q_NB280_291, Q_NB291_280, Q_NB281_291, Q_NB291_281, Q_BK291_e10, Q_X8_, Q_X9_⟩ hb_ hon hoff
    refine ⟨_, rfl, fun K hK => ?_⟩
    have e11 : a.tmps[11]? = some (v283) := by rw [ha]; exact putSel_on (e := (4, 11, v283)) 2 rfl rfl (hon 4 (by kernel_rfl)) rfl
    have e13 : a.tmps[13]? = some (v286) := by rw [ha]; exact putSel_on (e := (6, 13, v286)) 4 rfl rfl (hon 6 (by kernel_rfl)) rfl
    replace ha := Aside0.mk ha
    have BK279 := Aside0.mk Q_BK279
    have BK280 := Aside0.mk Q_BK280
    have BK281 := Aside0.mk Q_BK281
    have HB := Aside0.mk Q_HB
    have HO284 := Aside0.mk (Q_HO284 (hon 4 (by kernel_rfl)) hb_)
    have HO287 := Aside0.mk (Q_HO287 (hon 6 (by kernel_rfl)) hb_)
    obtain ⟨Ao71, co71, eo71⟩ := Kd.R_slice HO287.out
    (first | subst eo71 | (injection eo71 with f1_ f2_ f3_; have f4_ := f1_.symm; have f5_ := f3_.symm; clear f1_ f2_ f3_; subst f4_; subst f5_))
    refine Kd.R_append_rows_step k25 (w0 := w) w.heap.size (by rfl) (.tmp 11) (.tmp 13) 43 25 (.agg #[(.int .i64 0), (.int .i64 0), (.int .i64 0)]) 24 rfl Try.underlying43 info25 rfl (by decide) (by omega) v283 t282 y285 _ _ _ (fun k_ => k_ ≠ gb280) (fun _ => False) (eval_of e11) (eval_of e13) ?aO ?aR (fun _ _ h => h) (fun _ h => h.elim) ?aF ?aB ?aS ?aL ?_
    (case aR => repeat (first | exact (Kd.R_reads' HO287.out).2.2 | (with_reducible refine Kd.C_alloc ?_ _) | (with_reducible refine Kd.C_drewN ?_ _) | (with_reducible refine Kd.C_drew ?_)))
    (case aB => exact (zh HB.out))
    (case aF => exact (fun k_ hk => Kd.freshB (g := gb280) (o := .cells #[.int .i64 a1_0, .int .i64 a1_1, .int .i64 a1_2] 25 (0, 0)) (zb BK280.out) k_ hk))
    (case aO => exact (zr (by first | exact Kd.R_mono HO284.out (fun _ hk => hk.2) | exact HO284.out)))
    (case aS => exact (below_size (zh HB.out)))
    (case aL => have := LMc4.out; omega)
    intro v289 w70 ho hb hg hat
    rw [← Ny288.out] at ho
    have n0_ := Aside0.mk (blk_grown (g := gb279) (o := .cells #[.int .i64 a0_0, .slice A0_1 l0_1.length c0_1] 45 (0, 0)) (zb BK279.out) hg (Kd.R_ne HO284.out BK279.out (by decide)))
    have n1_ := Aside0.mk (blk_grown (g := gb280) (o := .cells #[.int .i64 a1_0, .int .i64 a1_1, .int .i64 a1_2] 25 (0, 0)) (zb BK280.out) hg (by first | exact Kd.R_away HO284.out (fun _ hk => hk.2) | exact Kd.R_away HO284.out (fun _ hk => hk)))
    have n2_ := Aside0.mk (blk_grown (g := gb281) (o := .cells #[.int .i64 0, .slice none 0 0] 45 (0, 0)) (zb BK281.out) hg (Kd.R_ne HO284.out BK281.out (by decide)))
    have n3_ := Aside0.mk (hb)
    have n4_ := Aside0.mk (ho)
    have z_BK291 := fun (h0_ : b 9 = true) (h1_ : b 10 = false) => (show w70.heap[gb291]? = some (.cells #[.int .i64 0, .slice none 0 0] 45 (0, 0)) from by first | exact (blk_grown (g := gb291) (o := .cells #[.int .i64 0, .slice none 0 0] 45 (0, 0)) (zb (Q_BK291 h0_ h1_)) hg (Kd.R_ne HO284.out (Q_BK291 h0_ h1_) (by decide))))
    clear BK279
    clear BK280
    clear BK281
    clear HB
    clear HO284
    clear HO287
    have BK279 := n0_
    have BK280 := n1_
    have BK281 := n2_
    have HB := n3_
    have HO290 := n4_
    clear n0_ n1_ n2_ n3_ n4_
    clear ho hb hg hat
    obtain ⟨Ao72, co72, eo72⟩ := Kd.R_slice HO290.out
    (first | subst eo72 | (injection eo72 with f1_ f2_ f3_; have f4_ := f1_.symm; have f5_ := f3_.symm; clear f1_ f2_ f3_; subst f4_; subst f5_))
    refine hK.out _ _ ⟨v283, .slice Ao71 y285.length co71, .slice Ao72 y288.length co72, gb291, m8_, m9_, (by rw [ha.out]; exact putSel_upk 5 hb_ rfl rfl rfl), (zb BK279.out), (zb BK280.out), (zb BK281.out), (zh HB.out), fun _ h1_ => absurd ((up_self b 7).symm.trans h1_) (by decide), fun _ h1_ => absurd ((up_self b 7).symm.trans h1_) (by decide), fun _ => (zr HO290.out), z_BK291, Q_GW291, Q_GE291, Q_NB279_291, Q_NB291_279, Q_NB280_291, Q_NB291_280, Q_NB281_291, Q_NB291_281, fun h0_ => absurd ((hoff 10 (by kernel_rfl)).symm.trans h0_) (by decide), fun h0_ => absurd ((hoff 8 (by kernel_rfl)).symm.trans h0_) (by decide), Q_X9_⟩
   refine steps_cons ?_ ?_
   ·rintro b a w' ⟨v283, v286, v289, gb291, m8_, m9_, ha, Q_BK279, Q_BK280, Q_BK281, Q_HB, Q_HO284, Q_HO287, Q_HO290, Q_BK291, Q_GW291, Q_GE291, Q_NB279_291, Q_NB291_279, Q_NB280_291, Q_NB291_280, Q_NB281_291, Q_NB291_281, Q_BK291_e10, Q_X8_, Q_X9_⟩ hb_ hon hoff
    refine ⟨_, rfl, fun K hK => ?_⟩
    have e8 : a.tmps[8]? = some (.int .i64 a0_0) := by rw [ha]; exact putSel_on (e := (1, 8, .int .i64 a0_0)) 0 rfl rfl (hon 1 (by kernel_rfl)) rfl
    have e14 : a.tmps[14]? = some (v289) := by rw [ha]; exact putSel_on (e := (7, 14, v289)) 5 rfl rfl (hon 7 (by kernel_rfl)) rfl
    replace ha := Aside0.mk ha
    have BK279 := Aside0.mk Q_BK279
    have BK280 := Aside0.mk Q_BK280
    have BK281 := Aside0.mk Q_BK281
    have HB := Aside0.mk Q_HB
    have HO290 := Aside0.mk (Q_HO290 (hon 7 (by kernel_rfl)))
    obtain ⟨Ao8_0, co8_0, eo_⟩ := Kd.R_slice HO290.out
    subst eo_
    refine value_ (w1 := w') (v := .agg #[.int .i64 a0_0, .slice Ao8_0 y288.length co8_0]) (by rfl) rfl ?_ ?_
    ·go_simp
     (try simp only [i64_w])
     try rfl
    refine hK.out _ _ ⟨v283, v286, .slice Ao8_0 y288.length co8_0, gb291, (.agg #[.int .i64 a0_0, .slice Ao8_0 y288.length co8_0]), m9_, (by rw [ha.out]; exact putSel_upk 6 hb_ rfl rfl rfl), Q_BK279, Q_BK280, Q_BK281, Q_HB, fun _ h1_ => absurd ((hon 7 (by kernel_rfl)).symm.trans h1_) (by decide), fun _ h1_ => absurd ((hon 7 (by kernel_rfl)).symm.trans h1_) (by decide), Q_HO290, Q_BK291, Q_GW291, Q_GE291, Q_NB279_291, Q_NB291_279, Q_NB280_291, Q_NB291_280, Q_NB281_291, Q_NB291_281, fun h0_ => absurd ((hoff 10 (by kernel_rfl)).symm.trans h0_) (by decide), fun _ => rfl, Q_X9_⟩
   refine steps_cons ?_ ?_
   ·rintro b a w' ⟨v283, v286, v289, gb291, m8_, m9_, ha, Q_BK279, Q_BK280, Q_BK281, Q_HB, Q_HO284, Q_HO287, Q_HO290, Q_BK291, Q_GW291, Q_GE291, Q_NB279_291, Q_NB291_279, Q_NB280_291, Q_NB291_280, Q_NB281_291, Q_NB291_281, Q_BK291_e10, Q_X8_, Q_X9_⟩ hb_ hon hoff
    refine ⟨_, rfl, fun K hK => ?_⟩
    replace ha := Aside0.mk ha
    have BK279 := Aside0.mk Q_BK279
    have BK280 := Aside0.mk Q_BK280
    have BK281 := Aside0.mk Q_BK281
    have HB := Aside0.mk Q_HB
    refine box_step ?hg (N := 6) ?hd (cs := #[.int .i64 0, .slice none 0 0]) (t := 45) ?hr ?_; (case hd => rfl); (case hg => rfl); (case hr => first | (go_simp; done) | (go_simp; rfl))
    intro gb291 hg w66 hbox hb
    have n0_ := Aside0.mk (blk_below (g := gb279) (o := .cells #[.int .i64 a0_0, .slice A0_1 l0_1.length c0_1] 45 (0, 0)) (zb BK279.out) hb)
    have n1_ := Aside0.mk (blk_below (g := gb280) (o := .cells #[.int .i64 a1_0, .int .i64 a1_1, .int .i64 a1_2] 25 (0, 0)) (zb BK280.out) hb)
    have n2_ := Aside0.mk (blk_below (g := gb281) (o := .cells #[.int .i64 0, .slice none 0 0] 45 (0, 0)) (zb BK281.out) hb)
    have n3_ := Aside0.mk (below_step (zh HB.out) hb)
    have n4_ := Aside0.mk (hbox)
    have n5_ := Aside0.mk ((by rw [hg]; exact (below_size (zh HB.out)) : w.heap.size ≤ gb291))
    have n6_ := Aside0.mk ((by rw [hg]; exact (below_size (zh HB.out)) : w.heap.size ≤ gb291))
    have n7_ := Aside0.mk ((by rw [hg]; exact Nat.ne_of_lt (blk_lt (g := gb279) (o := .cells #[.int .i64 a0_0, .slice A0_1 l0_1.length c0_1] 45 (0, 0)) (zb BK279.out)) : gb279 ≠ gb291))
    have n8_ := Aside0.mk ((by rw [hg]; exact Nat.ne_of_gt (blk_lt (g := gb279) (o := .cells #[.int .i64 a0_0, .slice A0_1 l0_1.length c0_1] 45 (0, 0)) (zb BK279.out)) : gb291 ≠ gb279))
    have n9_ := Aside0.mk ((by rw [hg]; exact Nat.ne_of_lt (blk_lt (g := gb280) (o := .cells #[.int .i64 a1_0, .int .i64 a1_1, .int .i64 a1_2] 25 (0, 0)) (zb BK280.out)) : gb280 ≠ gb291))
    have n10_ := Aside0.mk ((by rw [hg]; exact Nat.ne_of_gt (blk_lt (g := gb280) (o := .cells #[.int .i64 a1_0, .int .i64 a1_1, .int .i64 a1_2] 25 (0, 0)) (zb BK280.out)) : gb291 ≠ gb280))
    have n11_ := Aside0.mk ((by rw [hg]; exact Nat.ne_of_lt (blk_lt (g := gb281) (o := .cells #[.int .i64 0, .slice none 0 0] 45 (0, 0)) (zb BK281.out)) : gb281 ≠ gb291))
    have n12_ := Aside0.mk ((by rw [hg]; exact Nat.ne_of_gt (blk_lt (g := gb281) (o := .cells #[.int .i64 0, .slice none 0 0] 45 (0, 0)) (zb BK281.out)) : gb291 ≠ gb281))
    have z_HO284 := fun (h0_ : b 4 = true) (h1_ : b 7 = false) => (show Kd.R k25 25 w66 w.heap.size (fun k_ => k_ ≠ gb280) v283 t282 from by first | exact (Kd.R_below (zr (Q_HO284 h0_ h1_)) hb) | exact Kd.R_mono (Kd.R_below (zr (Q_HO284 h0_ h1_)) hb) (fun _ h_ => by first | trivial | exact h_ | exact h_.1))
    have z_HO287 := fun (h0_ : b 6 = true) (h1_ : b 7 = false) => (show Kd.R k25 25 w66 w.heap.size (fun k_ => k_ ≠ gb280) v286 y285 from by first | exact (Kd.R_below (zr (Q_HO287 h0_ h1_)) hb) | exact Kd.R_mono (Kd.R_below (zr (Q_HO287 h0_ h1_)) hb) (fun _ h_ => by first | trivial | exact h_ | exact h_.1))
    have z_HO290 := fun (h0_ : b 7 = true) => (show Kd.R k25 25 w66 w.heap.size (fun k_ => k_ ≠ gb280) v289 y288 from by first | exact (Kd.R_below (zr (Q_HO290 h0_)) hb) | exact Kd.R_mono (Kd.R_below (zr (Q_HO290 h0_)) hb) (fun _ h_ => by first | trivial | exact h_ | exact h_.1))
    clear BK279
    clear BK280
    clear BK281
    clear HB
    have BK279 := n0_
    have BK280 := n1_
    have BK281 := n2_
    have HB := n3_
    have BK291 := n4_
    have GW291 := n5_
    have GE291 := n6_
    have NB279_291 := n7_
    have NB291_279 := n8_
    have NB280_291 := n9_
    have NB291_280 := n10_
    have NB281_291 := n11_
    have NB291_281 := n12_
    clear n0_ n1_ n2_ n3_ n4_ n5_ n6_ n7_ n8_ n9_ n10_ n11_ n12_
    clear hb hbox hg
    refine hK.out _ _ ⟨v283, v286, v289, gb291, m8_, (.pointer (some ⟨gb291, 0, none⟩)), (by rw [ha.out]; exact putSel_upk 7 hb_ rfl rfl rfl), (zb BK279.out), (zb BK280.out), (zb BK281.out), (zh HB.out), z_HO284, z_HO287, z_HO290, fun _ _ => (zb BK291.out), fun _ => GW291.out, fun _ => GE291.out, fun _ => NB279_291.out, fun _ => NB291_279.out, fun _ => NB280_291.out, fun _ => NB291_280.out, fun _ => NB281_291.out, fun _ => NB291_281.out, fun h0_ => absurd ((hoff 10 (by kernel_rfl)).symm.trans h0_) (by decide), Q_X8_, fun _ => rfl⟩
   refine steps_cons ?_ ?_
   ·rintro b a w' ⟨v283, v286, v289, gb291, m8_, m9_, ha, Q_BK279, Q_BK280, Q_BK281, Q_HB, Q_HO284, Q_HO287, Q_HO290, Q_BK291, Q_GW291, Q_GE291, Q_NB279_291, Q_NB291_279, Q_NB280_291, Q_NB291_280, Q_NB281_291, Q_NB291_281, Q_BK291_e10, Q_X8_, Q_X9_⟩ hb_ hon hoff
    refine ⟨_, rfl, fun K hK => ?_⟩
    have e6 : a.tmps[6]? = some (m9_) := by rw [ha]; exact putSel_on (e := (9, 6, m9_)) 7 rfl rfl (hon 9 (by kernel_rfl)) rfl
    rw [Q_X9_ (hon 9 (by kernel_rfl))] at e6
    have e15 : a.tmps[15]? = some (m8_) := by rw [ha]; exact putSel_on (e := (8, 15, m8_)) 6 rfl rfl (hon 8 (by kernel_rfl)) rfl
    rw [Q_X8_ (hon 8 (by kernel_rfl))] at e15
    replace ha := Aside0.mk ha
    have BK279 := Aside0.mk Q_BK279
    have BK280 := Aside0.mk Q_BK280
    have BK281 := Aside0.mk Q_BK281
    have HB := Aside0.mk Q_HB
    have HO290 := Aside0.mk (Q_HO290 (hon 7 (by kernel_rfl)))
    have BK291 := Aside0.mk (Q_BK291 (hon 9 (by kernel_rfl)) hb_)
    have GW291 := Aside0.mk (Q_GW291 (hon 9 (by kernel_rfl)))
    have GE291 := Aside0.mk (Q_GE291 (hon 9 (by kernel_rfl)))
    have NB279_291 := Aside0.mk (Q_NB279_291 (hon 9 (by kernel_rfl)))
    have NB291_279 := Aside0.mk (Q_NB291_279 (hon 9 (by kernel_rfl)))
    have NB280_291 := Aside0.mk (Q_NB280_291 (hon 9 (by kernel_rfl)))
    have NB291_280 := Aside0.mk (Q_NB291_280 (hon 9 (by kernel_rfl)))
    have NB281_291 := Aside0.mk (Q_NB281_291 (hon 9 (by kernel_rfl)))
    have NB291_281 := Aside0.mk (Q_NB291_281 (hon 9 (by kernel_rfl)))
    obtain ⟨Ao74, co74, eo74⟩ := Kd.R_slice HO290.out
    (first | subst eo74 | (injection eo74 with f1_ f2_ f3_; have f4_ := f1_.symm; have f5_ := f3_.symm; clear f1_ f2_ f3_; subst f4_; subst f5_))
    have hs75 : w'.cell? ⟨gb291, 0, none⟩ = some (.int .i64 0) := (blk_cell BK291.out 0).trans rfl
    have hfs75 := blk_frozen BK291.out 0
    have hns75_0 := NB279_291.out
    have hns75_1 := NB280_291.out
    have hns75_2 := NB281_291.out
    have hms75_0 := NB291_279.out
    have hms75_1 := NB291_280.out
    have hms75_2 := NB291_281.out
    have hs76 : w'.cell? ⟨gb291, 1, none⟩ = some (.slice none 0 0) := (blk_cell BK291.out 1).trans rfl
    have hfs76 := blk_frozen BK291.out 1
    have hns76_0 := NB279_291.out
    have hns76_1 := NB280_291.out
    have hns76_2 := NB281_291.out
    have hms76_0 := NB291_279.out
    have hms76_1 := NB291_280.out
    have hms76_2 := NB291_281.out
    refine skip_ (w1 := ?_) (by rfl) rfl ?_ ?_
    rotate_left
    ·go_simp
     rfl
    refine hK.out _ _ ⟨v283, v286, .slice Ao74 y288.length co74, gb291, m8_, m9_, (by rw [ha.out]; exact putSel_none (v := undef) rfl), (by (with_reducible repeat (first | refine blk_drewN ?_ _ | refine blk_drew ?_ | refine blk_alloc ?_ _)); refine blk_far ?_ NB279_291.out _; (with_reducible repeat (first | refine blk_drewN ?_ _ | refine blk_drew ?_ | refine blk_alloc ?_ _)); refine blk_far ?_ NB279_291.out _; (with_reducible repeat (first | refine blk_drewN ?_ _ | refine blk_drew ?_ | refine blk_alloc ?_ _)); exact BK279.out), (by (with_reducible repeat (first | refine blk_drewN ?_ _ | refine blk_drew ?_ | refine blk_alloc ?_ _)); refine blk_far ?_ NB280_291.out _; (with_reducible repeat (first | refine blk_drewN ?_ _ | refine blk_drew ?_ | refine blk_alloc ?_ _)); refine blk_far ?_ NB280_291.out _; (with_reducible repeat (first | refine blk_drewN ?_ _ | refine blk_drew ?_ | refine blk_alloc ?_ _)); exact BK280.out), (by (with_reducible repeat (first | refine blk_drewN ?_ _ | refine blk_drew ?_ | refine blk_alloc ?_ _)); refine blk_far ?_ NB281_291.out _; (with_reducible repeat (first | refine blk_drewN ?_ _ | refine blk_drew ?_ | refine blk_alloc ?_ _)); refine blk_far ?_ NB281_291.out _; (with_reducible repeat (first | refine blk_drewN ?_ _ | refine blk_drew ?_ | refine blk_alloc ?_ _)); exact BK281.out), (zh HB.out), fun _ h1_ => absurd ((hon 7 (by kernel_rfl)).symm.trans h1_) (by decide), fun _ h1_ => absurd ((hon 7 (by kernel_rfl)).symm.trans h1_) (by decide), fun _ => (by (with_reducible repeat (first | apply Kd.R_alloc | apply Kd.R_drewN | apply Kd.R_drew)); exact Kd.R_mono (Kd.R_far (p := ⟨gb291, 1, none⟩) (Kd.R_far (p := ⟨gb291, 0, none⟩) (Kd.R_types HO290.out BK291.out (by decide)) (fun _ hk => hk.2) (.int .i64 a0_0)) (fun _ hk => hk.2) (.slice Ao74 y288.length co74)) (fun _ hk => hk.1)), fun _ h1_ => absurd ((up_self b 10).symm.trans h1_) (by decide), fun _ => GW291.out, fun _ => GE291.out, fun _ => NB279_291.out, fun _ => NB291_279.out, fun _ => NB280_291.out, fun _ => NB291_280.out, fun _ => NB281_291.out, fun _ => NB291_281.out, fun _ => (by (with_reducible repeat (first | refine blk_drewN ?_ _ | refine blk_drew ?_ | refine blk_alloc ?_ _)); refine blk_put (cs := #[.int .i64 a0_0, .slice none 0 0]) ?_ 1 _ rfl; (with_reducible repeat (first | refine blk_drewN ?_ _ | refine blk_drew ?_ | refine blk_alloc ?_ _)); refine blk_put (cs := #[.int .i64 0, .slice none 0 0]) ?_ 0 _ rfl; (with_reducible repeat (first | refine blk_drewN ?_ _ | refine blk_drew ?_ | refine blk_alloc ?_ _)); exact BK291.out), Q_X8_, Q_X9_⟩
   exact steps_nil
  rintro b a w75 hall ⟨v283, v286, v289, gb291, m8_, m9_, ha, Q_BK279, Q_BK280, Q_BK281, Q_HB, Q_HO284, Q_HO287, Q_HO290, Q_BK291, Q_GW291, Q_GE291, Q_NB279_291, Q_NB291_279, Q_NB280_291, Q_NB291_280, Q_NB281_291, Q_NB291_281, Q_BK291_e10, Q_X8_, Q_X9_⟩
  clear BK279 BK280 BK281 HB
  have hb1_ := hall 1 (by kernel_rfl)
  have hb3_ := hall 3 (by kernel_rfl)
  have hb4_ := hall 4 (by kernel_rfl)
  have hb5_ := hall 5 (by kernel_rfl)
  have hb6_ := hall 6 (by kernel_rfl)
  have hb7_ := hall 7 (by kernel_rfl)
  have hb8_ := hall 8 (by kernel_rfl)
  have hb9_ := hall 9 (by kernel_rfl)
  have hb10_ := hall 10 (by kernel_rfl)
  subst ha
  obtain rfl := Q_X8_ hb8_
  obtain rfl := Q_X9_ hb9_
  simp only [putSel, hb1_, hb3_, hb4_, hb5_, hb6_, hb7_, hb8_, hb9_, hb10_, if_true, Act.put, List.setIfInBounds_toArray, List.set_cons_zero, List.set_cons_succ]
  have BK279 := Aside0.mk Q_BK279
  clear Q_BK279
  have BK280 := Aside0.mk Q_BK280
  clear Q_BK280
  have BK281 := Aside0.mk Q_BK281
  clear Q_BK281
  have HB := Aside0.mk Q_HB
  clear Q_HB
  clear Q_HO284
  clear Q_HO287
  have HO290 := Aside0.mk (Q_HO290 hb7_)
  clear Q_HO290
  clear Q_BK291
  have GW291 := Aside0.mk (Q_GW291 hb9_)
  clear Q_GW291
  have GE291 := Aside0.mk (Q_GE291 hb9_)
  clear Q_GE291
  have NB279_291 := Aside0.mk (Q_NB279_291 hb9_)
  clear Q_NB279_291
  have NB291_279 := Aside0.mk (Q_NB291_279 hb9_)
  clear Q_NB291_279
  have NB280_291 := Aside0.mk (Q_NB280_291 hb9_)
  clear Q_NB280_291
  have NB291_280 := Aside0.mk (Q_NB291_280 hb9_)
  clear Q_NB291_280
  have NB281_291 := Aside0.mk (Q_NB281_291 hb9_)
  clear Q_NB281_291
  have NB291_281 := Aside0.mk (Q_NB291_281 hb9_)
  clear Q_NB291_281
  have BK291 := Aside0.mk (Q_BK291_e10 hb10_)
  clear Q_BK291_e10
  clear hall hb1_ hb3_ hb4_ hb5_ hb6_ hb7_ hb8_ hb9_ hb10_
  obtain ⟨Ao76, co76, eo76⟩ := Kd.R_slice HO290.out
  (first | subst eo76 | (injection eo76 with f1_ f2_ f3_; have f4_ := f1_.symm; have f5_ := f3_.symm; clear f1_ f2_ f3_; subst f4_; subst f5_))
  have hnb77 := NB279_280.out
  have hnc77 := NB280_279.out
  have hnb78 := NB279_281.out
  have hnc78 := NB281_279.out
  have hnb79 := NB279_291.out
  have hnc79 := NB291_279.out
  have hcz80_0 : w75.cell? ⟨gb279, 0, none⟩ = some (.int .i64 a0_0) := (blk_cell BK279.out 0).trans rfl
  have hcz80_1 : w75.cell? ⟨gb279, 1, none⟩ = some (.slice A0_1 l0_1.length c0_1) := (blk_cell BK279.out 1).trans rfl
  have hfz80_0 := blk_frozen BK279.out 0
  have hfz80_1 := blk_frozen BK279.out 1
  try go_wp2_with (first | ((with_reducible refine gate_callee (f := 23) rfl ?_); refine goesL_ (some 17) rfl rfl Try.func23 (by kernel_rfl) rfl #[.agg #[.int .i64 a0_0, .slice A0_1 l0_1.length c0_1]] rfl (by (try simp only [List.map_toArray, List.map_cons, List.map_nil]); first | done | rfl | (simp only [List.length_drop, List.length_take]; rfl)) ?_; (with_reducible refine (impl_IsPuzzle.calls a0_0 _ _ l0_1 false _ ?side1 ?side2 A5.out).mono ?_); (case side1 => repeat (first | exact (Kd.C_below HR0_1.out HB.out) | (with_reducible refine Kd.C_alloc ?_ _) | (with_reducible refine Kd.C_drewN ?_ _) | (with_reducible refine Kd.C_drew ?_))); (case side2 => exact HC0_1.out); rintro e w81 ⟨rfl, hb⟩; refine ⟨_, rfl, ?_⟩; have n0_ := Aside0.mk (Kd.R_below (zr HO290.out) hb); have n1_ := Aside0.mk (blk_below (g := gb279) (o := .cells #[.int .i64 a0_0, .slice A0_1 l0_1.length c0_1] 45 (0, 0)) (zb BK279.out) hb); have n2_ := Aside0.mk (blk_below (g := gb280) (o := .cells #[.int .i64 a1_0, .int .i64 a1_1, .int .i64 a1_2] 25 (0, 0)) (zb BK280.out) hb); have n3_ := Aside0.mk (blk_below (g := gb281) (o := .cells #[.int .i64 0, .slice none 0 0] 45 (0, 0)) (zb BK281.out) hb); have n4_ := Aside0.mk (blk_below (g := gb291) (o := .cells #[.int .i64 a0_0, .slice Ao76 y288.length co76] 45 (0, 0)) (zb BK291.out) hb); have n5_ := Aside0.mk (below_step (zh HB.out) hb); clear HO290; clear BK279; clear BK280; clear BK281; clear BK291; clear HB; have HO290 := n0_; have BK279 := n1_; have BK280 := n2_; have BK281 := n3_; have BK291 := n4_; have HB := n5_; clear n0_ n1_ n2_ n3_ n4_ n5_; (try clear hb); (try clear hb2); (try clear hk); (try clear hi); have hnb82 := NB281_280.out; have hnc82 := NB280_281.out; have hnb83 := NB281_291.out; have hnc83 := NB291_281.out; have hcz84_0 : w81.cell? ⟨gb281, 0, none⟩ = some (.int .i64 0) := (blk_cell BK281.out 0).trans rfl; have hcz84_1 : w81.cell? ⟨gb281, 1, none⟩ = some (.slice none 0 0) := (blk_cell BK281.out 1).trans rfl; have hfz84_0 := blk_frozen BK281.out 0; have hfz84_1 := blk_frozen BK281.out 1))
  refine bodyPost_ret (results_ct rfl _ _ gb281 45 #[.int .i64 0, .slice none 0 0] (0, 0) _ rfl (by (with_reducible repeat (first | refine blk_drewN ?_ _ | refine blk_drew ?_ | refine blk_alloc ?_ _)); refine blk_put (cs := #[.int .i64 0, .slice none 0 0]) ?_ 1 _ rfl; (with_reducible repeat (first | refine blk_drewN ?_ _ | refine blk_drew ?_ | refine blk_alloc ?_ _)); refine blk_put (cs := #[.int .i64 0, .slice none 0 0]) ?_ 0 _ rfl; (with_reducible repeat (first | refine blk_drewN ?_ _ | refine blk_drew ?_ | refine blk_alloc ?_ _)); exact BK281.out) Try.underlying45 rfl (by kernel_rfl)) rfl ?_
  exact ⟨_, by first | rfl | (simp [errW_none, errW_some] <;> rfl) | (simp [*, errW_none, errW_some] <;> rfl), by first | exact Kd.R_nil _ _ _ _ _ | exact Kd.N_nil _ _ _ _ _ | exact Kd.V_nil _ _ _ _ _ | exact Kd.Q_nil _ _ _ _ _ | exact Kd.S_nil _ _ _ _ _, by repeat (first | (with_reducible first | exact HB.out | apply below_alloc | apply pw_below_drewN | apply below_drew1 | refine below_set ?_ GE279.out | refine below_set ?_ GE280.out | refine below_set ?_ GE281.out | refine below_set ?_ GE291.out) | exact HB.out)⟩
 subst c6
 have H1 : ((impl_IsPuzzle.f a0_0 y288).bind fun t293 => (if t293 = true then (some (a0_0, y288, true)) else (some (0, ([] : List (S25)), false)))) = some (r1, r2, r3) := by rw [if_pos rfl] at H; exact H
 clear H
 have H := H1
 clear H1
 replace H := Option.bind_eq_some_iff.mp H
 obtain ⟨t293, A70, H⟩ := H
 replace H : (if t293 = true then (some (a0_0, y288, true)) else (some (0, ([] : List (S25)), false))) = some (r1, r2, r3) := H
 have A7 := Aside0.mk A70
 clear A70
 by_cases c8 : t293 = true
 rotate_left
 ·replace c8 := Bool.eq_false_iff.mpr c8
  subst c8
  have H1 : (some (0, ([] : List (S25)), false)) = some (r1, r2, r3) := by rw [if_neg (show ¬ (false = true) by decide)] at H; exact H
  clear H
  have H := H1
  clear H1
  simp only [Option.some.injEq, Prod.mk.injEq] at H
  obtain ⟨rfl, rfl, rfl⟩ := H
  go_enter Try.func26, Try.ntmps26
  try go_wp2_with (first | ((with_reducible refine gate_dst (N := 2) rfl ?_); refine box_event ?hg (N := 2) ?hd (cs := #[.int .i64 a0_0, .slice A0_1 l0_1.length c0_1]) (t := 45) ?hr ?_; (case hd => rfl); (case hg => rfl); (case hr => first | (go_simp; done) | (go_simp; rfl)); intro gb279 hg w36 hbox hb; have n0_ := Aside0.mk (below_step (zh HB.out) hb); have n1_ := Aside0.mk (hbox); have n2_ := Aside0.mk ((by rw [hg]; exact (below_size (zh HB.out)) : w.heap.size ≤ gb279)); have n3_ := Aside0.mk ((by rw [hg]; exact (below_size (zh HB.out)) : w.heap.size ≤ gb279)); clear HB; have HB := n0_; have BK279 := n1_; have GW279 := n2_; have GE279 := n3_; clear n0_ n1_ n2_ n3_; clear hb hbox hg) | ((with_reducible refine gate_dst (N := 3) rfl ?_); refine box_event ?hg (N := 3) ?hd (cs := #[.int .i64 a1_0, .int .i64 a1_1, .int .i64 a1_2]) (t := 25) ?hr ?_; (case hd => rfl); (case hg => rfl); (case hr => first | (go_simp; done) | (go_simp; rfl)); intro gb280 hg w37 hbox hb; have n0_ := Aside0.mk (blk_below (g := gb279) (o := .cells #[.int .i64 a0_0, .slice A0_1 l0_1.length c0_1] 45 (0, 0)) (zb BK279.out) hb); have n1_ := Aside0.mk (below_step (zh HB.out) hb); have n2_ := Aside0.mk (hbox); have n3_ := Aside0.mk ((by rw [hg]; exact (below_size (zh HB.out)) : w.heap.size ≤ gb280)); have n4_ := Aside0.mk ((by rw [hg]; exact (below_size (zh HB.out)) : w.heap.size ≤ gb280)); have n5_ := Aside0.mk ((by rw [hg]; exact Nat.ne_of_lt (blk_lt (g := gb279) (o := .cells #[.int .i64 a0_0, .slice A0_1 l0_1.length c0_1] 45 (0, 0)) (zb BK279.out)) : gb279 ≠ gb280)); have n6_ := Aside0.mk ((by rw [hg]; exact Nat.ne_of_gt (blk_lt (g := gb279) (o := .cells #[.int .i64 a0_0, .slice A0_1 l0_1.length c0_1] 45 (0, 0)) (zb BK279.out)) : gb280 ≠ gb279)); clear BK279; clear HB; have BK279 := n0_; have HB := n1_; have BK280 := n2_; have GW280 := n3_; have GE280 := n4_; have NB279_280 := n5_; have NB280_279 := n6_; clear n0_ n1_ n2_ n3_ n4_ n5_ n6_; clear hb hbox hg) | ((with_reducible refine gate_dst (N := 4) rfl ?_); refine box_event ?hg (N := 4) ?hd (cs := #[.int .i64 0, .slice none 0 0]) (t := 45) ?hr ?_; (case hd => rfl); (case hg => rfl); (case hr => first | (go_simp; done) | (go_simp; rfl)); intro gb281 hg w38 hbox hb; have n0_ := Aside0.mk (blk_below (g := gb279) (o := .cells #[.int .i64 a0_0, .slice A0_1 l0_1.length c0_1] 45 (0, 0)) (zb BK279.out) hb); have n1_ := Aside0.mk (blk_below (g := gb280) (o := .cells #[.int .i64 a1_0, .int .i64 a1_1, .int .i64 a1_2] 25 (0, 0)) (zb BK280.out) hb); have n2_ := Aside0.mk (below_step (zh HB.out) hb); have n3_ := Aside0.mk (hbox); have n4_ := Aside0.mk ((by rw [hg]; exact (below_size (zh HB.out)) : w.heap.size ≤ gb281)); have n5_ := Aside0.mk ((by rw [hg]; exact (below_size (zh HB.out)) : w.heap.size ≤ gb281)); have n6_ := Aside0.mk ((by rw [hg]; exact Nat.ne_of_lt (blk_lt (g := gb279) (o := .cells #[.int .i64 a0_0, .slice A0_1 l0_1.length c0_1] 45 (0, 0)) (zb BK279.out)) : gb279 ≠ gb281)); have n7_ := Aside0.mk ((by rw [hg]; exact Nat.ne_of_gt (blk_lt (g := gb279) (o := .cells #[.int .i64 a0_0, .slice A0_1 l0_1.length c0_1] 45 (0, 0)) (zb BK279.out)) : gb281 ≠ gb279)); have n8_ := Aside0.mk ((by rw [hg]; exact Nat.ne_of_lt (blk_lt (g := gb280) (o := .cells #[.int .i64 a1_0, .int .i64 a1_1, .int .i64 a1_2] 25 (0, 0)) (zb BK280.out)) : gb280 ≠ gb281)); have n9_ := Aside0.mk ((by rw [hg]; exact Nat.ne_of_gt (blk_lt (g := gb280) (o := .cells #[.int .i64 a1_0, .int .i64 a1_1, .int .i64 a1_2] 25 (0, 0)) (zb BK280.out)) : gb281 ≠ gb280)); clear BK279; clear BK280; clear HB; have BK279 := n0_; have BK280 := n1_; have HB := n2_; have BK281 := n3_; have GW281 := n4_; have GE281 := n5_; have NB279_281 := n6_; have NB281_279 := n7_; have NB280_281 := n8_; have NB281_280 := n9_; clear n0_ n1_ n2_ n3_ n4_ n5_ n6_ n7_ n8_ n9_; clear hb hbox hg))
  have n0_ := Aside0.mk (blk_drew BK279.out)
  have n1_ := Aside0.mk (blk_drew BK280.out)
  have n2_ := Aside0.mk (blk_drew BK281.out)
  have n3_ := Aside0.mk (below_drew1 HB.out)
  clear BK279
  clear BK280
  clear BK281
  clear HB
  have BK279 := n0_
  have BK280 := n1_
  have BK281 := n2_
  have HB := n3_
  clear n0_ n1_ n2_ n3_
  refine start_ (n := 11) (S := fun w' => True) (ds := []) #[false, false, false, false, false, false, false, false, false, false, false] (by kernel_rfl) rfl rfl trivial (fun hHeld => ?_); refine with_tabW impl_AddClue.tab1 impl_AddClue.bits1 (fun HT_ HW_ => ?_)
  generalize w38.drew = w39 at BK279 BK280 BK281 HB hHeld ⊢
  refine pure_ (i := 0) (N := some 7) (v := ?_) (a' := ?_) #[true, false, false, false, false, false, false, false, false, false, false] rfl rfl (any_of HT_.out (by kernel_rfl)) (fun _ _ _ h => h) (Or.inl ⟨by rfl, ?_⟩) ?_ ?_
  rotate_left
  ·intro w'
   go_simp
   with_reducible rfl
  rotate_left
  ·simp only [Act.put, List.setIfInBounds_toArray, List.set_cons_zero, List.set_cons_succ, i64_w, i32_w]
   rfl
  refine pure_ (i := 2) (N := some 9) (v := ?_) (a' := ?_) #[true, false, true, false, false, false, false, false, false, false, false] rfl rfl (any_of HT_.out (by kernel_rfl)) (fun _ _ _ h => h) (Or.inl ⟨by rfl, ?_⟩) ?_ ?_
  rotate_left
  ·intro w'
   go_simp
   with_reducible rfl
  rotate_left
  ·simp only [Act.put, List.setIfInBounds_toArray, List.set_cons_zero, List.set_cons_succ, i64_w, i32_w]
   rfl
  refine inv_at [1, 3, 4, 5, 6, 7, 8, 9, 10] (fun a0_ b a w' => ∃ (v283 : Value) (v286 : Value) (v289 : Value) (gb291 : Nat) (m8_ : Value) (m9_ : Value), a = putSel a0_ b [(1, 8, .int .i64 a0_0), (3, 10, .slice A0_1 l0_1.length c0_1), (4, 11, v283), (5, 12, .agg #[.int .i64 a1_0, .int .i64 a1_1, .int .i64 a1_2]), (6, 13, v286), (7, 14, v289), (8, 15, m8_), (9, 6, m9_)] ∧ (w'.heap[gb279]? = some (.cells #[.int .i64 a0_0, .slice A0_1 l0_1.length c0_1] 45 (0, 0))) ∧ (w'.heap[gb280]? = some (.cells #[.int .i64 a1_0, .int .i64 a1_1, .int .i64 a1_2] 25 (0, 0))) ∧ (w'.heap[gb281]? = some (.cells #[.int .i64 0, .slice none 0 0] 45 (0, 0))) ∧ (Below w.heap.size w w') ∧ (b 4 = true → b 7 = false → Kd.R k25 25 w' w.heap.size (fun k_ => k_ ≠ gb280) v283 t282) ∧ (b 6 = true → b 7 = false → Kd.R k25 25 w' w.heap.size (fun k_ => k_ ≠ gb280) v286 y285) ∧ (b 7 = true → Kd.R k25 25 w' w.heap.size (fun k_ => k_ ≠ gb280) v289 y288) ∧ (b 9 = true → b 10 = false → w'.heap[gb291]? = some (.cells #[.int .i64 0, .slice none 0 0] 45 (0, 0))) ∧ (b 9 = true → w.heap.size ≤ gb291) ∧ (b 9 = true → w.heap.size ≤ gb291) ∧ (b 9 = true → gb279 ≠ gb291) ∧ (b 9 = true → gb291 ≠ gb279) ∧ (b 9 = true → gb280 ≠ gb291) ∧ (b 9 = true → gb291 ≠ gb280) ∧ (b 9 = true → gb281 ≠ gb291) ∧ (b 9 = true → gb291 ≠ gb281) ∧ (b 10 = true → w'.heap[gb291]? = some (.cells #[.int .i64 a0_0, v289] 45 (0, 0))) ∧ (b 8 = true → (m8_ : Value) = .agg #[.int .i64 a0_0, v289]) ∧ (b 9 = true → (m9_ : Value) = .pointer (some ⟨gb291, 0, none⟩))) HT_.out HW_.out (by kernel_rfl) (by kernel_rfl) ?_ ?_ ?_
  ·exact ⟨.bool false, .bool false, .bool false, 0, .bool false, .bool false, by simp only [putSel, Bool.false_eq_true, if_false], BK279.out, BK280.out, BK281.out, HB.out, fun h_ => absurd h_ (by decide), fun h_ => absurd h_ (by decide), fun h_ => absurd h_ (by decide), fun h_ => absurd h_ (by decide), fun h_ => absurd h_ (by decide), fun h_ => absurd h_ (by decide), fun h_ => absurd h_ (by decide), fun h_ => absurd h_ (by decide), fun h_ => absurd h_ (by decide), fun h_ => absurd h_ (by decide), fun h_ => absurd h_ (by decide), fun h_ => absurd h_ (by decide), fun h_ => absurd h_ (by decide), fun h_ => absurd h_ (by decide), fun h_ => absurd h_ (by decide)⟩
  ·skip
   clear BK279 BK280 BK281 HB
   refine steps_cons ?_ ?_
   ·rintro b a w' ⟨v283, v286, v289, gb291, m8_, m9_, ha, Q_BK279, Q_BK280, Q_BK281, Q_HB, Q_HO284, Q_HO287, Q_HO290, Q_BK291, Q_GW291, Q_GE291, Q_NB279_291, Q_NB291_279, Q_NB280_291, Q_NB291_280, Q_NB281_291, Q_NB291_281, Q_BK291_e10, Q_X8_, Q_X9_⟩ hb_ hon hoff
    refine ⟨_, rfl, fun K hK => ?_⟩
    have e7 : a.tmps[7]? = some (.pointer (some ⟨gb279, 0, none⟩)) := by rw [ha]; exact (putSel_off rfl).trans rfl
    replace ha := Aside0.mk ha
    have BK279 := Aside0.mk Q_BK279
    have BK280 := Aside0.mk Q_BK280
    have BK281 := Aside0.mk Q_BK281
    have HB := Aside0.mk Q_HB
    have hc0_ : w'.cell? ⟨gb279, 0, none⟩ = some (.int .i64 a0_0) := (blk_cell BK279.out 0).trans rfl
    have hc1_ : w'.cell? ⟨gb279, 1, none⟩ = some (.slice A0_1 l0_1.length c0_1) := (blk_cell BK279.out 1).trans rfl
    refine value_ (w1 := w') (v := .int .i64 a0_0) (by rfl) rfl ?_ ?_
    ·go_simp
     (try simp only [i64_w])
     try rfl
    refine hK.out _ _ ⟨v283, v286, v289, gb291, m8_, m9_, (by rw [ha.out]; exact putSel_upk 0 hb_ rfl rfl rfl), Q_BK279, Q_BK280, Q_BK281, Q_HB, Q_HO284, Q_HO287, Q_HO290, Q_BK291, Q_GW291, Q_GE291, Q_NB279_291, Q_NB291_279, Q_NB280_291, Q_NB291_280, Q_NB281_291, Q_NB291_281, fun h0_ => absurd ((hoff 10 (by kernel_rfl)).symm.trans h0_) (by decide), fun h0_ => absurd ((hoff 8 (by kernel_rfl)).symm.trans h0_) (by decide), Q_X9_⟩
   refine steps_cons ?_ ?_
   ·rintro b a w' ⟨v283, v286, v289, gb291, m8_, m9_, ha, Q_BK279, Q_BK280, Q_BK281, Q_HB, Q_HO284, Q_HO287, Q_HO290, Q_BK291, Q_GW291, Q_GE291, Q_NB279_291, Q_NB291_279, Q_NB280_291, Q_NB291_280, Q_NB281_291, Q_NB291_281, Q_BK291_e10, Q_X8_, Q_X9_⟩ hb_ hon hoff
    refine ⟨_, rfl, fun K hK => ?_⟩
    have e9 : a.tmps[9]? = some (.pointer (some ⟨gb279, 1, none⟩)) := by rw [ha]; exact (putSel_off rfl).trans rfl
    replace ha := Aside0.mk ha
    have BK279 := Aside0.mk Q_BK279
    have BK280 := Aside0.mk Q_BK280
    have BK281 := Aside0.mk Q_BK281
    have HB := Aside0.mk Q_HB
    have hc0_ : w'.cell? ⟨gb279, 0, none⟩ = some (.int .i64 a0_0) := (blk_cell BK279.out 0).trans rfl
    have hc1_ : w'.cell? ⟨gb279, 1, none⟩ = some (.slice A0_1 l0_1.length c0_1) := (blk_cell BK279.out 1).trans rfl
    refine value_ (w1 := w') (v := .slice A0_1 l0_1.length c0_1) (by rfl) rfl ?_ ?_
    ·go_simp
     (try simp only [i64_w])
     try rfl
    refine hK.out _ _ ⟨v283, v286, v289, gb291, m8_, m9_, (by rw [ha.out]; exact putSel_upk 1 hb_ rfl rfl rfl), Q_BK279, Q_BK280, Q_BK281, Q_HB, fun h0_ _ => absurd ((hoff 4 (by kernel_rfl)).symm.trans h0_) (by decide), Q_HO287, fun h0_ => absurd ((hoff 7 (by kernel_rfl)).symm.trans h0_) (by decide), Q_BK291, Q_GW291, Q_GE291, Q_NB279_291, Q_NB291_279, Q_NB280_291, Q_NB291_280, Q_NB281_291, Q_NB291_281, fun h0_ => absurd ((hoff 10 (by kernel_rfl)).symm.trans h0_) (by decide), fun h0_ => absurd ((hoff 8 (by kernel_rfl)).symm.trans h0_) (by decide), Q_X9_⟩
   refine steps_cons ?_ ?_
   ·rintro b a w' ⟨v283, v286, v289, gb291, m8_, m9_, ha, Q_BK279, Q_BK280, Q_BK281, Q_HB, Q_HO284, Q_HO287, Q_HO290, Q_BK291, Q_GW291, Q_GE291, Q_NB279_291, Q_NB291_279, Q_NB280_291, Q_NB291_280, Q_NB281_291, Q_NB291_281, Q_BK291_e10, Q_X8_, Q_X9_⟩ hb_ hon hoff
    refine ⟨_, rfl, fun K hK => ?_⟩
    have e10 : a.tmps[10]? = some (.slice A0_1 l0_1.length c0_1) := by rw [ha]; exact putSel_on (e := (3, 10, .slice A0_1 l0_1.length c0_1)) 1 rfl rfl (hon 3 (by kernel_rfl)) rfl
    replace ha := Aside0.mk ha
    have BK279 := Aside0.mk Q_BK279
    have BK280 := Aside0.mk Q_BK280
    have BK281 := Aside0.mk Q_BK281
    have HB := Aside0.mk Q_HB
    refine goes_ Try.func49 (by kernel_rfl) rfl #[.slice A0_1 l0_1.length c0_1] (by rfl) rfl rfl (by first | (simp only [List.map_toArray, List.map_cons, List.map_nil, Act.eval, Array.getD_eq_getD_getElem?, Option.getD_some, e10]; done) | (simp only [List.map_toArray, List.map_cons, List.map_nil, Act.eval, Array.getD_eq_getD_getElem?, Option.getD_some, e10]; rfl)) ?_
    with_reducible refine (impl_Clue_49.calls _ _ l0_1 t282 _ ?side1 ?side2 A3.out).mono ?_
    (case side1 => repeat (first | exact (Kd.C_below HR0_1.out HB.out) | (with_reducible refine Kd.C_alloc ?_ _) | (with_reducible refine Kd.C_drewN ?_ _) | (with_reducible refine Kd.C_drew ?_)))
    (case side2 => exact HC0_1.out)
    rintro e w40 ⟨v283, rfl, ho0, hb⟩
    refine ⟨_, rfl, ?_⟩
    have n0_ := Aside0.mk (Kd.R_lower (Kd.R_newB ho0 (g := gb280) (o := .cells #[.int .i64 a1_0, .int .i64 a1_1, .int .i64 a1_2] 25 (0, 0)) (zb BK280.out)) (below_size (zh HB.out)))
    have n1_ := Aside0.mk (blk_below (g := gb279) (o := .cells #[.int .i64 a0_0, .slice A0_1 l0_1.length c0_1] 45 (0, 0)) (zb BK279.out) hb)
    have n2_ := Aside0.mk (blk_below (g := gb280) (o := .cells #[.int .i64 a1_0, .int .i64 a1_1, .int .i64 a1_2] 25 (0, 0)) (zb BK280.out) hb)
    have n3_ := Aside0.mk (blk_below (g := gb281) (o := .cells #[.int .i64 0, .slice none 0 0] 45 (0, 0)) (zb BK281.out) hb)
    have n4_ := Aside0.mk (below_step (zh HB.out) hb)
    have z_HO287 := fun (h0_ : b 6 = true) (h1_ : b 7 = false) => (show Kd.R k25 25 w40 w.heap.size (fun k_ => k_ ≠ gb280) v286 y285 from by first | exact (Kd.R_elder' (zr (Q_HO287 h0_ h1_)) (Kd.R_base ho0) hb) | exact Kd.R_mono (Kd.R_elder' (zr (Q_HO287 h0_ h1_)) (Kd.R_base ho0) hb) (fun _ h_ => by first | trivial | exact h_ | exact h_.1))
    have z_BK291 := fun (h0_ : b 9 = true) (h1_ : b 10 = false) => (show w40.heap[gb291]? = some (.cells #[.int .i64 0, .slice none 0 0] 45 (0, 0)) from by first | exact (blk_below (g := gb291) (o := .cells #[.int .i64 0, .slice none 0 0] 45 (0, 0)) (zb (Q_BK291 h0_ h1_)) hb))
    clear BK279
    clear BK280
    clear BK281
    clear HB
    have HO284 := n0_
    have BK279 := n1_
    have BK280 := n2_
    have BK281 := n3_
    have HB := n4_
    clear n0_ n1_ n2_ n3_ n4_
    (try clear hb)
    (try clear hb2)
    (try clear hk)
    (try clear hi)
    (try clear ho0)
    refine hK.out _ _ ⟨v283, v286, v289, gb291, m8_, m9_, (by rw [ha.out]; exact putSel_upk 2 hb_ rfl rfl rfl), (zb BK279.out), (zb BK280.out), (zb BK281.out), (zh HB.out), fun _ _ => (zr (Kd.R_mono HO284.out (fun _ hk => hk.2))), z_HO287, fun h0_ => absurd ((hoff 7 (by kernel_rfl)).symm.trans h0_) (by decide), z_BK291, Q_GW291, Q_GE291, Q_NB279_291, Q_NB291_279, Q_NB280_291, Q_NB291_280, Q_NB281_291, Q_NB291_281, fun h0_ => absurd ((hoff 10 (by kernel_rfl)).symm.trans h0_) (by decide), fun h0_ => absurd ((hoff 8 (by kernel_rfl)).symm.trans h0_) (by decide), Q_X9_⟩
   refine steps_cons ?_ ?_
   ·rintro b a w' ⟨v283, v286, v289, gb291, m8_, m9_, ha, Q_BK279, Q_BK280, Q_BK281, Q_HB, Q_HO284, Q_HO287, Q_HO290, Q_BK291, Q_GW291, Q_GE291, Q_NB279_291, Q_NB291_279, Q_NB280_291, Q_NB291_280, Q_NB281_291, Q_NB291_281, Q_BK291_e10, Q_X8_, Q_X9_⟩ hb_ hon hoff
    refine ⟨_, rfl, fun K hK => ?_⟩
    have e3 : a.tmps[3]? = some (.pointer (some ⟨gb280, 0, none⟩)) := by rw [ha]; exact (putSel_off rfl).trans rfl
    replace ha := Aside0.mk ha
    have BK279 := Aside0.mk Q_BK279
    have BK280 := Aside0.mk Q_BK280
    have BK281 := Aside0.mk Q_BK281
    have HB := Aside0.mk Q_HB
    have hc0_ : w'.cell? ⟨gb280, 0, none⟩ = some (.int .i64 a1_0) := (blk_cell BK280.out 0).trans rfl
    have hc1_ : w'.cell? ⟨gb280, 1, none⟩ = some (.int .i64 a1_1) := (blk_cell BK280.out 1).trans rfl
    have hc2_ : w'.cell? ⟨gb280, 2, none⟩ = some (.int .i64 a1_2) := (blk_cell BK280.out 2).trans rfl
    refine value_ (w1 := w') (v := .agg #[.int .i64 a1_0, .int .i64 a1_1, .int .i64 a1_2]) (by rfl) rfl ?_ ?_
    ·go_simp
     (try simp only [i64_w])
     try rfl
    refine hK.out _ _ ⟨v283, v286, v289, gb291, m8_, m9_, (by rw [ha.out]; exact putSel_upk 3 hb_ rfl rfl rfl), Q_BK279, Q_BK280, Q_BK281, Q_HB, Q_HO284, fun h0_ _ => absurd ((hoff 6 (by kernel_rfl)).symm.trans h0_) (by decide), fun h0_ => absurd ((hoff 7 (by kernel_rfl)).symm.trans h0_) (by decide), Q_BK291, Q_GW291, Q_GE291, Q_NB279_291, Q_NB291_279, Q_NB280_291, Q_NB291_280, Q_NB281_291, Q_NB291_281, fun h0_ => absurd ((hoff 10 (by kernel_rfl)).symm.trans h0_) (by decide), fun h0_ => absurd ((hoff 8 (by kernel_rfl)).symm.trans h0_) (by decide), Q_X9_⟩
   refine steps_cons ?_ ?_
   ·rintro b a w' ⟨v283, v286, v289, gb291, m8_, m9_, ha, Q_BK279, Q_BK280, Q_BK281, Q_HB, Q_HO284, Q_HO287, Q_HO290, Q_BK291, Q_GW291, Q_GE291, Q_NB279_291, Q_NB291_279, Q_NB280_291, Q_NB291_280, Q_NB281_291, Q_NB291_281, Q_BK291_e10, Q_X8_, Q_X9_⟩ hb_ hon hoff
    refine ⟨_, rfl, fun K hK => ?_⟩
    have e12 : a.tmps[12]? = some (.agg #[.int .i64 a1_0, .int .i64 a1_1, .int .i64 a1_2]) := by rw [ha]; exact putSel_on (e := (5, 12, .agg #[.int .i64 a1_0, .int .i64 a1_1, .int .i64 a1_2])) 3 rfl rfl (hon 5 (by kernel_rfl)) rfl
    replace ha := Aside0.mk ha
    have BK279 := Aside0.mk Q_BK279
    have BK280 := Aside0.mk Q_BK280
    have BK281 := Aside0.mk Q_BK281
    have HB := Aside0.mk Q_HB
    refine Kd.R_lit_step k25 _ 25 ?hg (N := 13) ?hd (xs := ([(⟨a1_0, a1_1, a1_2⟩ : S25)] : List (S25))) (inner := [.int .i64 a1_0, .int .i64 a1_1, .int .i64 a1_2]) (ok := fun _ => True) (okp := fun _ => True) ?hr ?hp (fun _ hk => hk) trivial (Below.refl _ _) (Nat.le_refl _) (by simp) ?_; (case hd => rfl); (case hg => rfl); (case hr => first | (go_simp; done) | (go_simp; rfl)); (case hp => exact (Reps.c3 (show Kd.M k25 _ _ _ (⟨a1_0, a1_1, a1_2⟩ : S25) [.int .i64 a1_0, .int .i64 a1_1, .int .i64 a1_2] from (k25_mkM _ _ _ (⟨a1_0, a1_1, a1_2⟩ : S25) )) (Reps.none _ _)))
    intro v286 w40 ho41 hb hg_ hnew_
    clear hg_ hnew_
    (first | rw [← Ny285.out] at ho41 | (simp only [Int.reduceToNat] at ho41; rw [← Ny285.out] at ho41))
    have n0_ := Aside0.mk (Kd.R_lower (Kd.R_newB ho41 (g := gb280) (o := .cells #[.int .i64 a1_0, .int .i64 a1_1, .int .i64 a1_2] 25 (0, 0)) (zb BK280.out)) (below_size (zh HB.out)))
    have n1_ := Aside0.mk (blk_below (g := gb279) (o := .cells #[.int .i64 a0_0, .slice A0_1 l0_1.length c0_1] 45 (0, 0)) (zb BK279.out) hb)
    have n2_ := Aside0.mk (blk_below (g := gb280) (o := .cells #[.int .i64 a1_0, .int .i64 a1_1, .int .i64 a1_2] 25 (0, 0)) (zb BK280.out) hb)
    have n3_ := Aside0.mk (blk_below (g := gb281) (o := .cells #[.int .i64 0, .slice none 0 0] 45 (0, 0)) (zb BK281.out) hb)
    have n4_ := Aside0.mk (below_step (zh HB.out) hb)
    have z_HO284 := fun (h0_ : b 4 = true) (h1_ : b 7 = false) => (show Kd.R k25 25 w40 w.heap.size (fun k_ => k_ ≠ gb280) v283 t282 from by first | exact (Kd.R_elder' (zr (Q_HO284 h0_ h1_)) (Kd.R_base ho41) hb) | exact Kd.R_mono (Kd.R_elder' (zr (Q_HO284 h0_ h1_)) (Kd.R_base ho41) hb) (fun _ h_ => by first | trivial | exact h_ | exact h_.1))
    have z_BK291 := fun (h0_ : b 9 = true) (h1_ : b 10 = false) => (show w40.heap[gb291]? = some (.cells #[.int .i64 0, .slice none 0 0] 45 (0, 0)) from by first | exact (blk_below (g := gb291) (o := .cells #[.int .i64 0, .slice none 0 0] 45 (0, 0)) (zb (Q_BK291 h0_ h1_)) hb))
    clear BK279
    clear BK280
    clear BK281
    clear HB
    have HO287 := n0_
    have BK279 := n1_
    have BK280 := n2_
    have BK281 := n3_
    have HB := n4_
    clear n0_ n1_ n2_ n3_ n4_
    clear hb ho41
    refine hK.out _ _ ⟨v283, v286, v289, gb291, m8_, m9_, (by rw [ha.out]; exact putSel_upk 4 hb_ rfl rfl rfl), (zb BK279.out), (zb BK280.out), (zb BK281.out), (zh HB.out), z_HO284, fun _ _ => (zr (Kd.R_mono HO287.out (fun _ hk => hk.2))), fun h0_ => absurd ((hoff 7 (by kernel_rfl)).symm.trans h0_) (by decide), z_BK291, Q_GW291, Q_GE291, Q_NB279_291, Q_NB291_279, Q_NB280_291, Q_NB291_280, Q_NB281_291, Q_NB291_281, fun h0_ => absurd ((hoff 10 (by kernel_rfl)).symm.trans h0_) (by decide), fun h0_ => absurd ((hoff 8 (by kernel_rfl)).symm.trans h0_) (by decide), Q_X9_⟩
   refine steps_cons ?_ ?_
   ·rintro b a w' ⟨v283, v286, v289, gb291, m8_, m9_, ha, Q_BK279, Q_BK280, Q_BK281, Q_HB, Q_HO284, Q_HO287, Q_HO290, Q_BK291, Q_GW291, Q_GE291, Q_NB279_291, Q_NB291_279, Q_NB280_291, Q_NB291_280, Q_NB281_291, Q_NB291_281, Q_BK291_e10, Q_X8_, Q_X9_⟩ hb_ hon hoff
    refine ⟨_, rfl, fun K hK => ?_⟩
    have e11 : a.tmps[11]? = some (v283) := by rw [ha]; exact putSel_on (e := (4, 11, v283)) 2 rfl rfl (hon 4 (by kernel_rfl)) rfl
    have e13 : a.tmps[13]? = some (v286) := by rw [ha]; exact putSel_on (e := (6, 13, v286)) 4 rfl rfl (hon 6 (by kernel_rfl)) rfl
    replace ha := Aside0.mk ha
    have BK279 := Aside0.mk Q_BK279
    have BK280 := Aside0.mk Q_BK280
    have BK281 := Aside0.mk Q_BK281
    have HB := Aside0.mk Q_HB
    have HO284 := Aside0.mk (Q_HO284 (hon 4 (by kernel_rfl)) hb_)
    have HO287 := Aside0.mk (Q_HO287 (hon 6 (by kernel_rfl)) hb_)
    obtain ⟨Ao45, co45, eo45⟩ := Kd.R_slice HO287.out
    (first | subst eo45 | (injection eo45 with f1_ f2_ f3_; have f4_ := f1_.symm; have f5_ := f3_.symm; clear f1_ f2_ f3_; subst f4_; subst f5_))
    refine Kd.R_append_rows_step k25 (w0 := w) w.heap.size (by rfl) (.tmp 11) (.tmp 13) 43 25 (.agg #[(.int .i64 0), (.int .i64 0), (.int .i64 0)]) 24 rfl Try.underlying43 info25 rfl (by decide) (by omega) v283 t282 y285 _ _ _ (fun k_ => k_ ≠ gb280) (fun _ => False) (eval_of e11) (eval_of e13) ?aO ?aR (fun _ _ h => h) (fun _ h => h.elim) ?aF ?aB ?aS ?aL ?_
    (case aR => repeat (first | exact (Kd.R_reads' HO287.out).2.2 | (with_reducible refine Kd.C_alloc ?_ _) | (with_reducible refine Kd.C_drewN ?_ _) | (with_reducible refine Kd.C_drew ?_)))
    (case aB => exact (zh HB.out))
    (case aF => exact (fun k_ hk => Kd.freshB (g := gb280) (o := .cells #[.int .i64 a1_0, .int .i64 a1_1, .int .i64 a1_2] 25 (0, 0)) (zb BK280.out) k_ hk))
    (case aO => exact (zr (by first | exact Kd.R_mono HO284.out (fun _ hk => hk.2) | exact HO284.out)))
    (case aS => exact (below_size (zh HB.out)))
    (case aL => have := LMc4.out; omega)
    intro v289 w44 ho hb hg hat
    rw [← Ny288.out] at ho
    have n0_ := Aside0.mk (blk_grown (g := gb279) (o := .cells #[.int .i64 a0_0, .slice A0_1 l0_1.length c0_1] 45 (0, 0)) (zb BK279.out) hg (Kd.R_ne HO284.out BK279.out (by decide)))
    have n1_ := Aside0.mk (blk_grown (g := gb280) (o := .cells #[.int .i64 a1_0, .int .i64 a1_1, .int .i64 a1_2] 25 (0, 0)) (zb BK280.out) hg (by first | exact Kd.R_away HO284.out (fun _ hk => hk.2) | exact Kd.R_away HO284.out (fun _ hk => hk)))
    have n2_ := Aside0.mk (blk_grown (g := gb281) (o := .cells #[.int .i64 0, .slice none 0 0] 45 (0, 0)) (zb BK281.out) hg (Kd.R_ne HO284.out BK281.out (by decide)))
    have n3_ := Aside0.mk (hb)
    have n4_ := Aside0.mk (ho)
    have z_BK291 := fun (h0_ : b 9 = true) (h1_ : b 10 = false) => (show w44.heap[gb291]? = some (.cells #[.int .i64 0, .slice none 0 0] 45 (0, 0)) from by first | exact (blk_grown (g := gb291) (o := .cells #[.int .i64 0, .slice none 0 0] 45 (0, 0)) (zb (Q_BK291 h0_ h1_)) hg (Kd.R_ne HO284.out (Q_BK291 h0_ h1_) (by decide))))
    clear BK279
    clear BK280
    clear BK281
    clear HB
    clear HO284
    clear HO287
    have BK279 := n0_
    have BK280 := n1_
    have BK281 := n2_
    have HB := n3_
    have HO290 := n4_
    clear n0_ n1_ n2_ n3_ n4_
    clear ho hb hg hat
    obtain ⟨Ao46, co46, eo46⟩ := Kd.R_slice HO290.out
    (first | subst eo46 | (injection eo46 with f1_ f2_ f3_; have f4_ := f1_.symm; have f5_ := f3_.symm; clear f1_ f2_ f3_; subst f4_; subst f5_))
    refine hK.out _ _ ⟨v283, .slice Ao45 y285.length co45, .slice Ao46 y288.length co46, gb291, m8_, m9_, (by rw [ha.out]; exact putSel_upk 5 hb_ rfl rfl rfl), (zb BK279.out), (zb BK280.out), (zb BK281.out), (zh HB.out), fun _ h1_ => absurd ((up_self b 7).symm.trans h1_) (by decide), fun _ h1_ => absurd ((up_self b 7).symm.trans h1_) (by decide), fun _ => (zr HO290.out), z_BK291, Q_GW291, Q_GE291, Q_NB279_291, Q_NB291_279, Q_NB280_291, Q_NB291_280, Q_NB281_291, Q_NB291_281, fun h0_ => absurd ((hoff 10 (by kernel_rfl)).symm.trans h0_) (by decide), fun h0_ => absurd ((hoff 8 (by kernel_rfl)).symm.trans h0_) (by decide), Q_X9_⟩
   refine steps_cons ?_ ?_
   ·rintro b a w' ⟨v283, v286, v289, gb291, m8_, m9_, ha, Q_BK279, Q_BK280, Q_BK281, Q_HB, Q_HO284, Q_HO287, Q_HO290, Q_BK291, Q_GW291, Q_GE291, Q_NB279_291, Q_NB291_279, Q_NB280_291, Q_NB291_280, Q_NB281_291, Q_NB291_281, Q_BK291_e10, Q_X8_, Q_X9_⟩ hb_ hon hoff
    refine ⟨_, rfl, fun K hK => ?_⟩
    have e8 : a.tmps[8]? = some (.int .i64 a0_0) := by rw [ha]; exact putSel_on (e := (1, 8, .int .i64 a0_0)) 0 rfl rfl (hon 1 (by kernel_rfl)) rfl
    have e14 : a.tmps[14]? = some (v289) := by rw [ha]; exact putSel_on (e := (7, 14, v289)) 5 rfl rfl (hon 7 (by kernel_rfl)) rfl
    replace ha := Aside0.mk ha
    have BK279 := Aside0.mk Q_BK279
    have BK280 := Aside0.mk Q_BK280
    have BK281 := Aside0.mk Q_BK281
    have HB := Aside0.mk Q_HB
    have HO290 := Aside0.mk (Q_HO290 (hon 7 (by kernel_rfl)))
    obtain ⟨Ao8_0, co8_0, eo_⟩ := Kd.R_slice HO290.out
    subst eo_
    refine value_ (w1 := w') (v := .agg #[.int .i64 a0_0, .slice Ao8_0 y288.length co8_0]) (by rfl) rfl ?_ ?_
    ·go_simp
     (try simp only [i64_w])
     try rfl
    refine hK.out _ _ ⟨v283, v286, .slice Ao8_0 y288.length co8_0, gb291, (.agg #[.int .i64 a0_0, .slice Ao8_0 y288.length co8_0]), m9_, (by rw [ha.out]; exact putSel_upk 6 hb_ rfl rfl rfl), Q_BK279, Q_BK280, Q_BK281, Q_HB, fun _ h1_ => absurd ((hon 7 (by kernel_rfl)).symm.trans h1_) (by decide), fun _ h1_ => absurd ((hon 7 (by kernel_rfl)).symm.trans h1_) (by decide), Q_HO290, Q_BK291, Q_GW291, Q_GE291, Q_NB279_291, Q_NB291_279, Q_NB280_291, Q_NB291_280, Q_NB281_291, Q_NB291_281, fun h0_ => absurd ((hoff 10 (by kernel_rfl)).symm.trans h0_) (by decide), fun _ => rfl, Q_X9_⟩
   refine steps_cons ?_ ?_
   ·rintro b a w' ⟨v283, v286, v289, gb291, m8_, m9_, ha, Q_BK279, Q_BK280, Q_BK281, Q_HB, Q_HO284, Q_HO287, Q_HO290, Q_BK291, Q_GW291, Q_GE291, Q_NB279_291, Q_NB291_279, Q_NB280_291, Q_NB291_280, Q_NB281_291, Q_NB291_281, Q_BK291_e10, Q_X8_, Q_X9_⟩ hb_ hon hoff
    refine ⟨_, rfl, fun K hK => ?_⟩
    replace ha := Aside0.mk ha
    have BK279 := Aside0.mk Q_BK279
    have BK280 := Aside0.mk Q_BK280
    have BK281 := Aside0.mk Q_BK281
    have HB := Aside0.mk Q_HB
    refine box_step ?hg (N := 6) ?hd (cs := #[.int .i64 0, .slice none 0 0]) (t := 45) ?hr ?_; (case hd => rfl); (case hg => rfl); (case hr => first | (go_simp; done) | (go_simp; rfl))
    intro gb291 hg w40 hbox hb
    have n0_ := Aside0.mk (blk_below (g := gb279) (o := .cells #[.int .i64 a0_0, .slice A0_1 l0_1.length c0_1] 45 (0, 0)) (zb BK279.out) hb)
    have n1_ := Aside0.mk (blk_below (g := gb280) (o := .cells #[.int .i64 a1_0, .int .i64 a1_1, .int .i64 a1_2] 25 (0, 0)) (zb BK280.out) hb)
    have n2_ := Aside0.mk (blk_below (g := gb281) (o := .cells #[.int .i64 0, .slice none 0 0] 45 (0, 0)) (zb BK281.out) hb)
    have n3_ := Aside0.mk (below_step (zh HB.out) hb)
    have n4_ := Aside0.mk (hbox)
    have n5_ := Aside0.mk ((by rw [hg]; exact (below_size (zh HB.out)) : w.heap.size ≤ gb291))
    have n6_ := Aside0.mk ((by rw [hg]; exact (below_size (zh HB.out)) : w.heap.size ≤ gb291))
    have n7_ := Aside0.mk ((by rw [hg]; exact Nat.ne_of_lt (blk_lt (g := gb279) (o := .cells #[.int .i64 a0_0, .slice A0_1 l0_1.length c0_1] 45 (0, 0)) (zb BK279.out)) : gb279 ≠ gb291))
    have n8_ := Aside0.mk ((by rw [hg]; exact Nat.ne_of_gt (blk_lt (g := gb279) (o := .cells #[.int .i64 a0_0, .slice A0_1 l0_1.length c0_1] 45 (0, 0)) (zb BK279.out)) : gb291 ≠ gb279))
    have n9_ := Aside0.mk ((by rw [hg]; exact Nat.ne_of_lt (blk_lt (g := gb280) (o := .cells #[.int .i64 a1_0, .int .i64 a1_1, .int .i64 a1_2] 25 (0, 0)) (zb BK280.out)) : gb280 ≠ gb291))
    have n10_ := Aside0.mk ((by rw [hg]; exact Nat.ne_of_gt (blk_lt (g := gb280) (o := .cells #[.int .i64 a1_0, .int .i64 a1_1, .int .i64 a1_2] 25 (0, 0)) (zb BK280.out)) : gb291 ≠ gb280))
    have n11_ := Aside0.mk ((by rw [hg]; exact Nat.ne_of_lt (blk_lt (g := gb281) (o := .cells #[.int .i64 0, .slice none 0 0] 45 (0, 0)) (zb BK281.out)) : gb281 ≠ gb291))
    have n12_ := Aside0.mk ((by rw [hg]; exact Nat.ne_of_gt (blk_lt (g := gb281) (o := .cells #[.int .i64 0, .slice none 0 0] 45 (0, 0)) (zb BK281.out)) : gb291 ≠ gb281))
    have z_HO284 := fun (h0_ : b 4 = true) (h1_ : b 7 = false) => (show Kd.R k25 25 w40 w.heap.size (fun k_ => k_ ≠ gb280) v283 t282 from by first | exact (Kd.R_below (zr (Q_HO284 h0_ h1_)) hb) | exact Kd.R_mono (Kd.R_below (zr (Q_HO284 h0_ h1_)) hb) (fun _ h_ => by first | trivial | exact h_ | exact h_.1))
    have z_HO287 := fun (h0_ : b 6 = true) (h1_ : b 7 = false) => (show Kd.R k25 25 w40 w.heap.size (fun k_ => k_ ≠ gb280) v286 y285 from by first | exact (Kd.R_below (zr (Q_HO287 h0_ h1_)) hb) | exact Kd.R_mono (Kd.R_below (zr (Q_HO287 h0_ h1_)) hb) (fun _ h_ => by first | trivial | exact h_ | exact h_.1))
    have z_HO290 := fun (h0_ : b 7 = true) => (show Kd.R k25 25 w40 w.heap.size (fun k_ => k_ ≠ gb280) v289 y288 from by first | exact (Kd.R_below (zr (Q_HO290 h0_)) hb) | exact Kd.R_mono (Kd.R_below (zr (Q_HO290 h0_)) hb) (fun _ h_ => by first | trivial | exact h_ | exact h_.1))
    clear BK279
    clear BK280
    clear BK281
    clear HB
    have BK279 := n0_
    have BK280 := n1_
    have BK281 := n2_
    have HB := n3_
    have BK291 := n4_
    have GW291 := n5_
    have GE291 := n6_
    have NB279_291 := n7_
    have NB291_279 := n8_
    have NB280_291 := n9_
    have NB291_280 := n10_
    have NB281_291 := n11_
    have NB291_281 := n12_
    clear n0_ n1_ n2_ n3_ n4_ n5_ n6_ n7_ n8_ n9_ n10_ n11_ n12_
    clear hb hbox hg
    refine hK.out _ _ ⟨v283, v286, v289, gb291, m8_, (.pointer (some ⟨gb291, 0, none⟩)), (by rw [ha.out]; exact putSel_upk 7 hb_ rfl rfl rfl), (zb BK279.out), (zb BK280.out), (zb BK281.out), (zh HB.out), z_HO284, z_HO287, z_HO290, fun _ _ => (zb BK291.out), fun _ => GW291.out, fun _ => GE291.out, fun _ => NB279_291.out, fun _ => NB291_279.out, fun _ => NB280_291.out, fun _ => NB291_280.out, fun _ => NB281_291.out, fun _ => NB291_281.out, fun h0_ => absurd ((hoff 10 (by kernel_rfl)).symm.trans h0_) (by decide), Q_X8_, fun _ => rfl⟩
   refine steps_cons ?_ ?_
   ·rintro b a w' ⟨v283, v286, v289, gb291, m8_, m9_, ha, Q_BK279, Q_BK280, Q_BK281, Q_HB, Q_HO284, Q_HO287, Q_HO290, Q_BK291, Q_GW291, Q_GE291, Q_NB279_291, Q_NB291_279, Q_NB280_291, Q_NB291_280, Q_NB281_291, Q_NB291_281, Q_BK291_e10, Q_X8_, Q_X9_⟩ hb_ hon hoff
    refine ⟨_, rfl, fun K hK => ?_⟩
    have e6 : a.tmps[6]? = some (m9_) := by rw [ha]; exact putSel_on (e := (9, 6, m9_)) 7 rfl rfl (hon 9 (by kernel_rfl)) rfl
    rw [Q_X9_ (hon 9 (by kernel_rfl))] at e6
    have e15 : a.tmps[15]? = some (m8_) := by rw [ha]; exact putSel_on (e := (8, 15, m8_)) 6 rfl rfl (hon 8 (by kernel_rfl)) rfl
    rw [Q_X8_ (hon 8 (by kernel_rfl))] at e15
    replace ha := Aside0.mk ha
    have BK279 := Aside0.mk Q_BK279
    have BK280 := Aside0.mk Q_BK280
    have BK281 := Aside0.mk Q_BK281
    have HB := Aside0.mk Q_HB
    have HO290 := Aside0.mk (Q_HO290 (hon 7 (by kernel_rfl)))
    have BK291 := Aside0.mk (Q_BK291 (hon 9 (by kernel_rfl)) hb_)
    have GW291 := Aside0.mk (Q_GW291 (hon 9 (by kernel_rfl)))
    have GE291 := Aside0.mk (Q_GE291 (hon 9 (by kernel_rfl)))
    have NB279_291 := Aside0.mk (Q_NB279_291 (hon 9 (by kernel_rfl)))
    have NB291_279 := Aside0.mk (Q_NB291_279 (hon 9 (by kernel_rfl)))
    have NB280_291 := Aside0.mk (Q_NB280_291 (hon 9 (by kernel_rfl)))
    have NB291_280 := Aside0.mk (Q_NB291_280 (hon 9 (by kernel_rfl)))
    have NB281_291 := Aside0.mk (Q_NB281_291 (hon 9 (by kernel_rfl)))
    have NB291_281 := Aside0.mk (Q_NB291_281 (hon 9 (by kernel_rfl)))
    obtain ⟨Ao48, co48, eo48⟩ := Kd.R_slice HO290.out
    (first | subst eo48 | (injection eo48 with f1_ f2_ f3_; have f4_ := f1_.symm; have f5_ := f3_.symm; clear f1_ f2_ f3_; subst f4_; subst f5_))
    have hs49 : w'.cell? ⟨gb291, 0, none⟩ = some (.int .i64 0) := (blk_cell BK291.out 0).trans rfl
    have hfs49 := blk_frozen BK291.out 0
    have hns49_0 := NB279_291.out
    have hns49_1 := NB280_291.out
    have hns49_2 := NB281_291.out
    have hms49_0 := NB291_279.out
    have hms49_1 := NB291_280.out
    have hms49_2 := NB291_281.out
    have hs50 : w'.cell? ⟨gb291, 1, none⟩ = some (.slice none 0 0) := (blk_cell BK291.out 1).trans rfl
    have hfs50 := blk_frozen BK291.out 1
    have hns50_0 := NB279_291.out
    have hns50_1 := NB280_291.out
    have hns50_2 := NB281_291.out
    have hms50_0 := NB291_279.out
    have hms50_1 := NB291_280.out
    have hms50_2 := NB291_281.out
    refine skip_ (w1 := ?_) (by rfl) rfl ?_ ?_
    rotate_left
    ·go_simp
     rfl
    refine hK.out _ _ ⟨v283, v286, .slice Ao48 y288.length co48, gb291, m8_, m9_, (by rw [ha.out]; exact putSel_none (v := undef) rfl), (by (with_reducible repeat (first | refine blk_drewN ?_ _ | refine blk_drew ?_ | refine blk_alloc ?_ _)); refine blk_far ?_ NB279_291.out _; (with_reducible repeat (first | refine blk_drewN ?_ _ | refine blk_drew ?_ | refine blk_alloc ?_ _)); refine blk_far ?_ NB279_291.out _; (with_reducible repeat (first | refine blk_drewN ?_ _ | refine blk_drew ?_ | refine blk_alloc ?_ _)); exact BK279.out), (by (with_reducible repeat (first | refine blk_drewN ?_ _ | refine blk_drew ?_ | refine blk_alloc ?_ _)); refine blk_far ?_ NB280_291.out _; (with_reducible repeat (first | refine blk_drewN ?_ _ | refine blk_drew ?_ | refine blk_alloc ?_ _)); refine blk_far ?_ NB280_291.out _; (with_reducible repeat (first | refine blk_drewN ?_ _ | refine blk_drew ?_ | refine blk_alloc ?_ _)); exact BK280.out), (by (with_reducible repeat (first | refine blk_drewN ?_ _ | refine blk_drew ?_ | refine blk_alloc ?_ _)); refine blk_far ?_ NB281_291.out _; (with_reducible repeat (first | refine blk_drewN ?_ _ | refine blk_drew ?_ | refine blk_alloc ?_ _)); refine blk_far ?_ NB281_291.out _; (with_reducible repeat (first | refine blk_drewN ?_ _ | refine blk_drew ?_ | refine blk_alloc ?_ _)); exact BK281.out), (zh HB.out), fun _ h1_ => absurd ((hon 7 (by kernel_rfl)).symm.trans h1_) (by decide), fun _ h1_ => absurd ((hon 7 (by kernel_rfl)).symm.trans h1_) (by decide), fun _ => (by (with_reducible repeat (first | apply Kd.R_alloc | apply Kd.R_drewN | apply Kd.R_drew)); exact Kd.R_mono (Kd.R_far (p := ⟨gb291, 1, none⟩) (Kd.R_far (p := ⟨gb291, 0, none⟩) (Kd.R_types HO290.out BK291.out (by decide)) (fun _ hk => hk.2) (.int .i64 a0_0)) (fun _ hk => hk.2) (.slice Ao48 y288.length co48)) (fun _ hk => hk.1)), fun _ h1_ => absurd ((up_self b 10).symm.trans h1_) (by decide), fun _ => GW291.out, fun _ => GE291.out, fun _ => NB279_291.out, fun _ => NB291_279.out, fun _ => NB280_291.out, fun _ => NB291_280.out, fun _ => NB281_291.out, fun _ => NB291_281.out, fun _ => (by (with_reducible repeat (first | refine blk_drewN ?_ _ | refine blk_drew ?_ | refine blk_alloc ?_ _)); refine blk_put (cs := #[.int .i64 a0_0, .slice none 0 0]) ?_ 1 _ rfl; (with_reducible repeat (first | refine blk_drewN ?_ _ | refine blk_drew ?_ | refine blk_alloc ?_ _)); refine blk_put (cs := #[.int .i64 0, .slice none 0 0]) ?_ 0 _ rfl; (with_reducible repeat (first | refine blk_drewN ?_ _ | refine blk_drew ?_ | refine blk_alloc ?_ _)); exact BK291.out), Q_X8_, Q_X9_⟩
   exact steps_nil
  rintro b a w49 hall ⟨v283, v286, v289, gb291, m8_, m9_, ha, Q_BK279, Q_BK280, Q_BK281, Q_HB, Q_HO284, Q_HO287, Q_HO290, Q_BK291, Q_GW291, Q_GE291, Q_NB279_291, Q_NB291_279, Q_NB280_291, Q_NB291_280, Q_NB281_291, Q_NB291_281, Q_BK291_e10, Q_X8_, Q_X9_⟩
  clear BK279 BK280 BK281 HB
  have hb1_ := hall 1 (by kernel_rfl)
  have hb3_ := hall 3 (by kernel_rfl)
  have hb4_ := hall 4 (by kernel_rfl)
  have hb5_ := hall 5 (by kernel_rfl)
  have hb6_ := hall 6 (by kernel_rfl)
  have hb7_ := hall 7 (by kernel_rfl)
  have hb8_ := hall 8 (by kernel_rfl)
  have hb9_ := hall 9 (by kernel_rfl)
  have hb10_ := hall 10 (by kernel_rfl)
  subst ha
  obtain rfl := Q_X8_ hb8_
  obtain rfl := Q_X9_ hb9_
  simp only [putSel, hb1_, hb3_, hb4_, hb5_, hb6_, hb7_, hb8_, hb9_, hb10_, if_true, Act.put, List.setIfInBounds_toArray, List.set_cons_zero, List.set_cons_succ]
  have BK279 := Aside0.mk Q_BK279
  clear Q_BK279
  have BK280 := Aside0.mk Q_BK280
  clear Q_BK280
  have BK281 := Aside0.mk Q_BK281
  clear Q_BK281
  have HB := Aside0.mk Q_HB
  clear Q_HB
  clear Q_HO284
  clear Q_HO287
  have HO290 := Aside0.mk (Q_HO290 hb7_)
  clear Q_HO290
  clear Q_BK291
  have GW291 := Aside0.mk (Q_GW291 hb9_)
  clear Q_GW291
  have GE291 := Aside0.mk (Q_GE291 hb9_)
  clear Q_GE291
  have NB279_291 := Aside0.mk (Q_NB279_291 hb9_)
  clear Q_NB279_291
  have NB291_279 := Aside0.mk (Q_NB291_279 hb9_)
  clear Q_NB291_279
  have NB280_291 := Aside0.mk (Q_NB280_291 hb9_)
  clear Q_NB280_291
  have NB291_280 := Aside0.mk (Q_NB291_280 hb9_)
  clear Q_NB291_280
  have NB281_291 := Aside0.mk (Q_NB281_291 hb9_)
  clear Q_NB281_291
  have NB291_281 := Aside0.mk (Q_NB291_281 hb9_)
  clear Q_NB291_281
  have BK291 := Aside0.mk (Q_BK291_e10 hb10_)
  clear Q_BK291_e10
  clear hall hb1_ hb3_ hb4_ hb5_ hb6_ hb7_ hb8_ hb9_ hb10_
  obtain ⟨Ao50, co50, eo50⟩ := Kd.R_slice HO290.out
  (first | subst eo50 | (injection eo50 with f1_ f2_ f3_; have f4_ := f1_.symm; have f5_ := f3_.symm; clear f1_ f2_ f3_; subst f4_; subst f5_))
  have hnb51 := NB279_280.out
  have hnc51 := NB280_279.out
  have hnb52 := NB279_281.out
  have hnc52 := NB281_279.out
  have hnb53 := NB279_291.out
  have hnc53 := NB291_279.out
  have hcz54_0 : w49.cell? ⟨gb279, 0, none⟩ = some (.int .i64 a0_0) := (blk_cell BK279.out 0).trans rfl
  have hcz54_1 : w49.cell? ⟨gb279, 1, none⟩ = some (.slice A0_1 l0_1.length c0_1) := (blk_cell BK279.out 1).trans rfl
  have hfz54_0 := blk_frozen BK279.out 0
  have hfz54_1 := blk_frozen BK279.out 1
  try go_wp2_with (first | ((with_reducible refine gate_callee (f := 23) rfl ?_); refine goesL_ (some 17) rfl rfl Try.func23 (by kernel_rfl) rfl #[.agg #[.int .i64 a0_0, .slice A0_1 l0_1.length c0_1]] rfl (by (try simp only [List.map_toArray, List.map_cons, List.map_nil]); first | done | rfl | (simp only [List.length_drop, List.length_take]; rfl)) ?_; (with_reducible refine (impl_IsPuzzle.calls a0_0 _ _ l0_1 true _ ?side1 ?side2 A5.out).mono ?_); (case side1 => repeat (first | exact (Kd.C_below HR0_1.out HB.out) | (with_reducible refine Kd.C_alloc ?_ _) | (with_reducible refine Kd.C_drewN ?_ _) | (with_reducible refine Kd.C_drew ?_))); (case side2 => exact HC0_1.out); rintro e w55 ⟨rfl, hb⟩; refine ⟨_, rfl, ?_⟩; have n0_ := Aside0.mk (Kd.R_below (zr HO290.out) hb); have n1_ := Aside0.mk (blk_below (g := gb279) (o := .cells #[.int .i64 a0_0, .slice A0_1 l0_1.length c0_1] 45 (0, 0)) (zb BK279.out) hb); have n2_ := Aside0.mk (blk_below (g := gb280) (o := .cells #[.int .i64 a1_0, .int .i64 a1_1, .int .i64 a1_2] 25 (0, 0)) (zb BK280.out) hb); have n3_ := Aside0.mk (blk_below (g := gb281) (o := .cells #[.int .i64 0, .slice none 0 0] 45 (0, 0)) (zb BK281.out) hb); have n4_ := Aside0.mk (blk_below (g := gb291) (o := .cells #[.int .i64 a0_0, .slice Ao50 y288.length co50] 45 (0, 0)) (zb BK291.out) hb); have n5_ := Aside0.mk (below_step (zh HB.out) hb); clear HO290; clear BK279; clear BK280; clear BK281; clear BK291; clear HB; have HO290 := n0_; have BK279 := n1_; have BK280 := n2_; have BK281 := n3_; have BK291 := n4_; have HB := n5_; clear n0_ n1_ n2_ n3_ n4_ n5_; (try clear hb); (try clear hb2); (try clear hk); (try clear hi); have hnb56 := NB291_280.out; have hnc56 := NB280_291.out; have hnb57 := NB291_281.out; have hnc57 := NB281_291.out; have hcz58_0 : w55.cell? ⟨gb291, 0, none⟩ = some (.int .i64 a0_0) := (blk_cell BK291.out 0).trans rfl; have hcz58_1 : w55.cell? ⟨gb291, 1, none⟩ = some (.slice Ao50 y288.length co50) := (blk_cell BK291.out 1).trans rfl; have hfz58_0 := blk_frozen BK291.out 0; have hfz58_1 := blk_frozen BK291.out 1) | (go_at_call 23; (with_reducible refine (impl_IsPuzzle.calls a0_0 _ _ y288 false _ ?side1 ?side2 A7.out).mono ?_); (case side1 => repeat (first | exact (Kd.R_reads' HO290.out).2.2 | (with_reducible refine Kd.C_alloc ?_ _) | (with_reducible refine Kd.C_drewN ?_ _) | (with_reducible refine Kd.C_drew ?_))); (case side2 => exact (Kd.R_reads' HO290.out).2.1); rintro e w59 ⟨rfl, hb⟩; have n0_ := Aside0.mk (Kd.R_below (zr HO290.out) hb); have n1_ := Aside0.mk (blk_below (g := gb279) (o := .cells #[.int .i64 a0_0, .slice A0_1 l0_1.length c0_1] 45 (0, 0)) (zb BK279.out) hb); have n2_ := Aside0.mk (blk_below (g := gb280) (o := .cells #[.int .i64 a1_0, .int .i64 a1_1, .int .i64 a1_2] 25 (0, 0)) (zb BK280.out) hb); have n3_ := Aside0.mk (blk_below (g := gb281) (o := .cells #[.int .i64 0, .slice none 0 0] 45 (0, 0)) (zb BK281.out) hb); have n4_ := Aside0.mk (blk_below (g := gb291) (o := .cells #[.int .i64 a0_0, .slice Ao50 y288.length co50] 45 (0, 0)) (zb BK291.out) hb); have n5_ := Aside0.mk (below_step (zh HB.out) hb); clear HO290; clear BK279; clear BK280; clear BK281; clear BK291; clear HB; have HO290 := n0_; have BK279 := n1_; have BK280 := n2_; have BK281 := n3_; have BK291 := n4_; have HB := n5_; clear n0_ n1_ n2_ n3_ n4_ n5_; (try clear hb); (try clear hb2); (try clear hk); (try clear hi); have hnb60 := NB281_280.out; have hnc60 := NB280_281.out; have hcz61_0 : w59.cell? ⟨gb281, 0, none⟩ = some (.int .i64 0) := (blk_cell BK281.out 0).trans rfl; have hcz61_1 : w59.cell? ⟨gb281, 1, none⟩ = some (.slice none 0 0) := (blk_cell BK281.out 1).trans rfl; have hfz61_0 := blk_frozen BK281.out 0; have hfz61_1 := blk_frozen BK281.out 1))
  refine bodyPost_ret (results_ct rfl _ _ gb281 45 #[.int .i64 0, .slice none 0 0] (0, 0) _ rfl (by (with_reducible repeat (first | refine blk_drewN ?_ _ | refine blk_drew ?_ | refine blk_alloc ?_ _)); refine blk_put (cs := #[.int .i64 0, .slice none 0 0]) ?_ 1 _ rfl; (with_reducible repeat (first | refine blk_drewN ?_ _ | refine blk_drew ?_ | refine blk_alloc ?_ _)); refine blk_put (cs := #[.int .i64 0, .slice none 0 0]) ?_ 0 _ rfl; (with_reducible repeat (first | refine blk_drewN ?_ _ | refine blk_drew ?_ | refine blk_alloc ?_ _)); exact BK281.out) Try.underlying45 rfl (by kernel_rfl)) rfl ?_
  exact ⟨_, by first | rfl | (simp [errW_none, errW_some] <;> rfl) | (simp [*, errW_none, errW_some] <;> rfl), by first | exact Kd.R_nil _ _ _ _ _ | exact Kd.N_nil _ _ _ _ _ | exact Kd.V_nil _ _ _ _ _ | exact Kd.Q_nil _ _ _ _ _ | exact Kd.S_nil _ _ _ _ _, by repeat (first | (with_reducible first | exact HB.out | apply below_alloc | apply pw_below_drewN | apply below_drew1 | refine below_set ?_ GE279.out | refine below_set ?_ GE280.out | refine below_set ?_ GE281.out | refine below_set ?_ GE291.out) | exact HB.out)⟩
 subst c8
 have H1 : (some (a0_0, y288, true)) = some (r1, r2, r3) := by rw [if_pos rfl] at H; exact H
 clear H
 have H := H1
 clear H1
 simp only [Option.some.injEq, Prod.mk.injEq] at H
 obtain ⟨rfl, rfl, rfl⟩ := H
 go_enter Try.func26, Try.ntmps26
 try go_wp2_with (first | ((with_reducible refine gate_dst (N := 2) rfl ?_); refine box_event ?hg (N := 2) ?hd (cs := #[.int .i64 a0_0, .slice A0_1 l0_1.length c0_1]) (t := 45) ?hr ?_; (case hd => rfl); (case hg => rfl); (case hr => first | (go_simp; done) | (go_simp; rfl)); intro gb279 hg w9 hbox hb; have n0_ := Aside0.mk (below_step (zh HB.out) hb); have n1_ := Aside0.mk (hbox); have n2_ := Aside0.mk ((by rw [hg]; exact (below_size (zh HB.out)) : w.heap.size ≤ gb279)); have n3_ := Aside0.mk ((by rw [hg]; exact (below_size (zh HB.out)) : w.heap.size ≤ gb279)); clear HB; have HB := n0_; have BK279 := n1_; have GW279 := n2_; have GE279 := n3_; clear n0_ n1_ n2_ n3_; clear hb hbox hg) | ((with_reducible refine gate_dst (N := 3) rfl ?_); refine box_event ?hg (N := 3) ?hd (cs := #[.int .i64 a1_0, .int .i64 a1_1, .int .i64 a1_2]) (t := 25) ?hr ?_; (case hd => rfl); (case hg => rfl); (case hr => first | (go_simp; done) | (go_simp; rfl)); intro gb280 hg w10 hbox hb; have n0_ := Aside0.mk (blk_below (g := gb279) (o := .cells #[.int .i64 a0_0, .slice A0_1 l0_1.length c0_1] 45 (0, 0)) (zb BK279.out) hb); have n1_ := Aside0.mk (below_step (zh HB.out) hb); have n2_ := Aside0.mk (hbox); have n3_ := Aside0.mk ((by rw [hg]; exact (below_size (zh HB.out)) : w.heap.size ≤ gb280)); have n4_ := Aside0.mk ((by rw [hg]; exact (below_size (zh HB.out)) : w.heap.size ≤ gb280)); have n5_ := Aside0.mk ((by rw [hg]; exact Nat.ne_of_lt (blk_lt (g := gb279) (o := .cells #[.int .i64 a0_0, .slice A0_1 l0_1.length c0_1] 45 (0, 0)) (zb BK279.out)) : gb279 ≠ gb280)); have n6_ := Aside0.mk ((by rw [hg]; exact Nat.ne_of_gt (blk_lt (g := gb279) (o := .cells #[.int .i64 a0_0, .slice A0_1 l0_1.length c0_1] 45 (0, 0)) (zb BK279.out)) : gb280 ≠ gb279)); clear BK279; clear HB; have BK279 := n0_; have HB := n1_; have BK280 := n2_; have GW280 := n3_; have GE280 := n4_; have NB279_280 := n5_; have NB280_279 := n6_; clear n0_ n1_ n2_ n3_ n4_ n5_ n6_; clear hb hbox hg) | ((with_reducible refine gate_dst (N := 4) rfl ?_); refine box_event ?hg (N := 4) ?hd (cs := #[.int .i64 0, .slice none 0 0]) (t := 45) ?hr ?_; (case hd => rfl); (case hg => rfl); (case hr => first | (go_simp; done) | (go_simp; rfl)); intro gb281 hg w11 hbox hb; have n0_ := Aside0.mk (blk_below (g := gb279) (o := .cells #[.int .i64 a0_0, .slice A0_1 l0_1.length c0_1] 45 (0, 0)) (zb BK279.out) hb); have n1_ := Aside0.mk (blk_below (g := gb280) (o := .cells #[.int .i64 a1_0, .int .i64 a1_1, .int .i64 a1_2] 25 (0, 0)) (zb BK280.out) hb); have n2_ := Aside0.mk (below_step (zh HB.out) hb); have n3_ := Aside0.mk (hbox); have n4_ := Aside0.mk ((by rw [hg]; exact (below_size (zh HB.out)) : w.heap.size ≤ gb281)); have n5_ := Aside0.mk ((by rw [hg]; exact (below_size (zh HB.out)) : w.heap.size ≤ gb281)); have n6_ := Aside0.mk ((by rw [hg]; exact Nat.ne_of_lt (blk_lt (g := gb279) (o := .cells #[.int .i64 a0_0, .slice A0_1 l0_1.length c0_1] 45 (0, 0)) (zb BK279.out)) : gb279 ≠ gb281)); have n7_ := Aside0.mk ((by rw [hg]; exact Nat.ne_of_gt (blk_lt (g := gb279) (o := .cells #[.int .i64 a0_0, .slice A0_1 l0_1.length c0_1] 45 (0, 0)) (zb BK279.out)) : gb281 ≠ gb279)); have n8_ := Aside0.mk ((by rw [hg]; exact Nat.ne_of_lt (blk_lt (g := gb280) (o := .cells #[.int .i64 a1_0, .int .i64 a1_1, .int .i64 a1_2] 25 (0, 0)) (zb BK280.out)) : gb280 ≠ gb281)); have n9_ := Aside0.mk ((by rw [hg]; exact Nat.ne_of_gt (blk_lt (g := gb280) (o := .cells #[.int .i64 a1_0, .int .i64 a1_1, .int .i64 a1_2] 25 (0, 0)) (zb BK280.out)) : gb281 ≠ gb280)); clear BK279; clear BK280; clear HB; have BK279 := n0_; have BK280 := n1_; have HB := n2_; have BK281 := n3_; have GW281 := n4_; have GE281 := n5_; have NB279_281 := n6_; have NB281_279 := n7_; have NB280_281 := n8_; have NB281_280 := n9_; clear n0_ n1_ n2_ n3_ n4_ n5_ n6_ n7_ n8_ n9_; clear hb hbox hg))
 have n0_ := Aside0.mk (blk_drew BK279.out)
 have n1_ := Aside0.mk (blk_drew BK280.out)
 have n2_ := Aside0.mk (blk_drew BK281.out)
 have n3_ := Aside0.mk (below_drew1 HB.out)
 clear BK279
 clear BK280
 clear BK281
 clear HB
 have BK279 := n0_
 have BK280 := n1_
 have BK281 := n2_
 have HB := n3_
 clear n0_ n1_ n2_ n3_
 refine start_ (n := 11) (S := fun w' => True) (ds := []) #[false, false, false, false, false, false, false, false, false, false, false] (by kernel_rfl) rfl rfl trivial (fun hHeld => ?_); refine with_tabW impl_AddClue.tab1 impl_AddClue.bits1 (fun HT_ HW_ => ?_)
 generalize w11.drew = w12 at BK279 BK280 BK281 HB hHeld ⊢
 refine pure_ (i := 0) (N := some 7) (v := ?_) (a' := ?_) #[true, false, false, false, false, false, false, false, false, false, false] rfl rfl (any_of HT_.out (by kernel_rfl)) (fun _ _ _ h => h) (Or.inl ⟨by rfl, ?_⟩) ?_ ?_
 rotate_left
 ·intro w'
  go_simp
  with_reducible rfl
 rotate_left
 ·simp only [Act.put, List.setIfInBounds_toArray, List.set_cons_zero, List.set_cons_succ, i64_w, i32_w]
  rfl
 refine pure_ (i := 2) (N := some 9) (v := ?_) (a' := ?_) #[true, false, true, false, false, false, false, false, false, false, false] rfl rfl (any_of HT_.out (by kernel_rfl)) (fun _ _ _ h => h) (Or.inl ⟨by rfl, ?_⟩) ?_ ?_
 rotate_left
 ·intro w'
  go_simp
  with_reducible rfl
 rotate_left
 ·simp only [Act.put, List.setIfInBounds_toArray, List.set_cons_zero, List.set_cons_succ, i64_w, i32_w]
  rfl
 refine inv_at [1, 3, 4, 5, 6, 7, 8, 9, 10] (fun a0_ b a w' => ∃ (v283 : Value) (v286 : Value) (v289 : Value) (gb291 : Nat) (m8_ : Value) (m9_ : Value), a = putSel a0_ b [(1, 8, .int .i64 a0_0), (3, 10, .slice A0_1 l0_1.length c0_1), (4, 11, v283), (5, 12, .agg #[.int .i64 a1_0, .int .i64 a1_1, .int .i64 a1_2]), (6, 13, v286), (7, 14, v289), (8, 15, m8_), (9, 6, m9_)] ∧ (w'.heap[gb279]? = some (.cells #[.int .i64 a0_0, .slice A0_1 l0_1.length c0_1] 45 (0, 0))) ∧ (w'.heap[gb280]? = some (.cells #[.int .i64 a1_0, .int .i64 a1_1, .int .i64 a1_2] 25 (0, 0))) ∧ (w'.heap[gb281]? = some (.cells #[.int .i64 0, .slice none 0 0] 45 (0, 0))) ∧ (Below w.heap.size w w') ∧ (b 4 = true → b 7 = false → Kd.R k25 25 w' w.heap.size (fun k_ => k_ ≠ gb280) v283 t282) ∧ (b 6 = true → b 7 = false → Kd.R k25 25 w' w.heap.size (fun k_ => k_ ≠ gb280) v286 y285) ∧ (b 7 = true → Kd.R k25 25 w' w.heap.size (fun k_ => k_ ≠ gb280) v289 y288) ∧ (b 9 = true → b 10 = false → w'.heap[gb291]? = some (.cells #[.int .i64 0, .slice none 0 0] 45 (0, 0))) ∧ (b 9 = true → w.heap.size ≤ gb291) ∧ (b 9 = true → w.heap.size ≤ gb291) ∧ (b 9 = true → gb279 ≠ gb291) ∧ (b 9 = true → gb291 ≠ gb279) ∧ (b 9 = true → gb280 ≠ gb291) ∧ (b 9 = true → gb291 ≠ gb280) ∧ (b 9 = true → gb281 ≠ gb291) ∧ (b 9 = true → gb291 ≠ gb281) ∧ (b 10 = true → w'.heap[gb291]? = some (.cells #[.int .i64 a0_0, v289] 45 (0, 0))) ∧ (b 8 = true → (m8_ : Value) = .agg #[.int .i64 a0_0, v289]) ∧ (b 9 = true → (m9_ : Value) = .pointer (some ⟨gb291, 0, none⟩))) HT_.out HW_.out (by kernel_rfl) (by kernel_rfl) ?_ ?_ ?_
 ·exact ⟨.bool false, .bool false, .bool false, 0, .bool false, .bool false, by simp only [putSel, Bool.false_eq_true, if_false], BK279.out, BK280.out, BK281.out, HB.out, fun h_ => absurd h_ (by decide), fun h_ => absurd h_ (by decide), fun h_ => absurd h_ (by decide), fun h_ => absurd h_ (by decide), fun h_ => absurd h_ (by decide), fun h_ => absurd h_ (by decide), fun h_ => absurd h_ (by decide), fun h_ => absurd h_ (by decide), fun h_ => absurd h_ (by decide), fun h_ => absurd h_ (by decide), fun h_ => absurd h_ (by decide), fun h_ => absurd h_ (by decide), fun h_ => absurd h_ (by decide), fun h_ => absurd h_ (by decide), fun h_ => absurd h_ (by decide)⟩
 ·skip
  clear BK279 BK280 BK281 HB
  refine steps_cons ?_ ?_
  ·rintro b a w' ⟨v283, v286, v289, gb291, m8_, m9_, ha, Q_BK279, Q_BK280, Q_BK281, Q_HB, Q_HO284, Q_HO287, Q_HO290, Q_BK291, Q_GW291, Q_GE291, Q_NB279_291, Q_NB291_279, Q_NB280_291, Q_NB291_280, Q_NB281_291, Q_NB291_281, Q_BK291_e10, Q_X8_, Q_X9_⟩ hb_ hon hoff
   refine ⟨_, rfl, fun K hK => ?_⟩
   have e7 : a.tmps[7]? = some (.pointer (some ⟨gb279, 0, none⟩)) := by rw [ha]; exact (putSel_off rfl).trans rfl
   replace ha := Aside0.mk ha
   have BK279 := Aside0.mk Q_BK279
   have BK280 := Aside0.mk Q_BK280
   have BK281 := Aside0.mk Q_BK281
   have HB := Aside0.mk Q_HB
   have hc0_ : w'.cell? ⟨gb279, 0, none⟩ = some (.int .i64 a0_0) := (blk_cell BK279.out 0).trans rfl
   have hc1_ : w'.cell? ⟨gb279, 1, none⟩ = some (.slice A0_1 l0_1.length c0_1) := (blk_cell BK279.out 1).trans rfl
   refine value_ (w1 := w') (v := .int .i64 a0_0) (by rfl) rfl ?_ ?_
   ·go_simp
    (try simp only [i64_w])
    try rfl
   refine hK.out _ _ ⟨v283, v286, v289, gb291, m8_, m9_, (by rw [ha.out]; exact putSel_upk 0 hb_ rfl rfl rfl), Q_BK279, Q_BK280, Q_BK281, Q_HB, Q_HO284, Q_HO287, Q_HO290, Q_BK291, Q_GW291, Q_GE291, Q_NB279_291, Q_NB291_279, Q_NB280_291, Q_NB291_280, Q_NB281_291, Q_NB291_281, fun h0_ => absurd ((hoff 10 (by kernel_rfl)).symm.trans h0_) (by decide), fun h0_ => absurd ((hoff 8 (by kernel_rfl)).symm.trans h0_) (by decide), Q_X9_⟩
  refine steps_cons ?_ ?_
  ·rintro b a w' ⟨v283, v286, v289, gb291, m8_, m9_, ha, Q_BK279, Q_BK280, Q_BK281, Q_HB, Q_HO284, Q_HO287, Q_HO290, Q_BK291, Q_GW291, Q_GE291, Q_NB279_291, Q_NB291_279, Q_NB280_291, Q_NB291_280, Q_NB281_291, Q_NB291_281, Q_BK291_e10, Q_X8_, Q_X9_⟩ hb_ hon hoff
   refine ⟨_, rfl, fun K hK => ?_⟩
   have e9 : a.tmps[9]? = some (.pointer (some ⟨gb279, 1, none⟩)) := by rw [ha]; exact (putSel_off rfl).trans rfl
   replace ha := Aside0.mk ha
   have BK279 := Aside0.mk Q_BK279
   have BK280 := Aside0.mk Q_BK280
   have BK281 := Aside0.mk Q_BK281
   have HB := Aside0.mk Q_HB
   have hc0_ : w'.cell? ⟨gb279, 0, none⟩ = some (.int .i64 a0_0) := (blk_cell BK279.out 0).trans rfl
   have hc1_ : w'.cell? ⟨gb279, 1, none⟩ = some (.slice A0_1 l0_1.length c0_1) := (blk_cell BK279.out 1).trans rfl
   refine value_ (w1 := w') (v := .slice A0_1 l0_1.length c0_1) (by rfl) rfl ?_ ?_
   ·go_simp
    (try simp only [i64_w])
    try rfl
   refine hK.out _ _ ⟨v283, v286, v289, gb291, m8_, m9_, (by rw [ha.out]; exact putSel_upk 1 hb_ rfl rfl rfl), Q_BK279, Q_BK280, Q_BK281, Q_HB, fun h0_ _ => absurd ((hoff 4 (by kernel_rfl)).symm.trans h0_) (by decide), Q_HO287, fun h0_ => absurd ((hoff 7 (by kernel_rfl)).symm.trans h0_) (by decide), Q_BK291, Q_GW291, Q_GE291, Q_NB279_291, Q_NB291_279, Q_NB280_291, Q_NB291_280, Q_NB281_291, Q_NB291_281, fun h0_ => absurd ((hoff 10 (by kernel_rfl)).symm.trans h0_) (by decide), fun h0_ => absurd ((hoff 8 (by kernel_rfl)).symm.trans h0_) (by decide), Q_X9_⟩
  refine steps_cons ?_ ?_
  ·rintro b a w' ⟨v283, v286, v289, gb291, m8_, m9_, ha, Q_BK279, Q_BK280, Q_BK281, Q_HB, Q_HO284, Q_HO287, Q_HO290, Q_BK291, Q_GW291, Q_GE291, Q_NB279_291, Q_NB291_279, Q_NB280_291, Q_NB291_280, Q_NB281_291, Q_NB291_281, Q_BK291_e10, Q_X8_, Q_X9_⟩ hb_ hon hoff
   refine ⟨_, rfl, fun K hK => ?_⟩
   have e10 : a.tmps[10]? = some (.slice A0_1 l0_1.length c0_1) := by rw [ha]; exact putSel_on (e := (3, 10, .slice A0_1 l0_1.length c0_1)) 1 rfl rfl (hon 3 (by kernel_rfl)) rfl
   replace ha := Aside0.mk ha
   have BK279 := Aside0.mk Q_BK279
   have BK280 := Aside0.mk Q_BK280
   have BK281 := Aside0.mk Q_BK281
   have HB := Aside0.mk Q_HB
   refine goes_ Try.func49 (by kernel_rfl) rfl #[.slice A0_1 l0_1.length c0_1] (by rfl) rfl rfl (by first | (simp only [List.map_toArray, List.map_cons, List.map_nil, Act.eval, Array.getD_eq_getD_getElem?, Option.getD_some, e10]; done) | (simp only [List.map_toArray, List.map_cons, List.map_nil, Act.eval, Array.getD_eq_getD_getElem?, Option.getD_some, e10]; rfl)) ?_
   with_reducible refine (impl_Clue_49.calls _ _ l0_1 t282 _ ?side1 ?side2 A3.out).mono ?_
   (case side1 => repeat (first | exact (Kd.C_below HR0_1.out HB.out) | (with_reducible refine Kd.C_alloc ?_ _) | (with_reducible refine Kd.C_drewN ?_ _) | (with_reducible refine Kd.C_drew ?_)))
   (case side2 => exact HC0_1.out)
   rintro e w13 ⟨v283, rfl, ho0, hb⟩
   refine ⟨_, rfl, ?_⟩
   have n0_ := Aside0.mk (Kd.R_lower (Kd.R_newB ho0 (g := gb280) (o := .cells #[.int .i64 a1_0, .int .i64 a1_1, .int .i64 a1_2] 25 (0, 0)) (zb BK280.out)) (below_size (zh HB.out)))
   have n1_ := Aside0.mk (blk_below (g := gb279) (o := .cells #[.int .i64 a0_0, .slice A0_1 l0_1.length c0_1] 45 (0, 0)) (zb BK279.out) hb)
   have n2_ := Aside0.mk (blk_below (g := gb280) (o := .cells #[.int .i64 a1_0, .int .i64 a1_1, .int .i64 a1_2] 25 (0, 0)) (zb BK280.out) hb)
   have n3_ := Aside0.mk (blk_below (g := gb281) (o := .cells #[.int .i64 0, .slice none 0 0] 45 (0, 0)) (zb BK281.out) hb)
   have n4_ := Aside0.mk (below_step (zh HB.out) hb)
   have z_HO287 := fun (h0_ : b 6 = true) (h1_ : b 7 = false) => (show Kd.R k25 25 w13 w.heap.size (fun k_ => k_ ≠ gb280) v286 y285 from by first | exact (Kd.R_elder' (zr (Q_HO287 h0_ h1_)) (Kd.R_base ho0) hb) | exact Kd.R_mono (Kd.R_elder' (zr (Q_HO287 h0_ h1_)) (Kd.R_base ho0) hb) (fun _ h_ => by first | trivial | exact h_ | exact h_.1))
   have z_BK291 := fun (h0_ : b 9 = true) (h1_ : b 10 = false) => (show w13.heap[gb291]? = some (.cells #[.int .i64 0, .slice none 0 0] 45 (0, 0)) from by first | exact (blk_below (g := gb291) (o := .cells #[.int .i64 0, .slice none 0 0] 45 (0, 0)) (zb (Q_BK291 h0_ h1_)) hb))
   clear BK279
   clear BK280
   clear BK281
   clear HB
   have HO284 := n0_
   have BK279 := n1_
   have BK280 := n2_
   have BK281 := n3_
   have HB := n4_
   clear n0_ n1_ n2_ n3_ n4_
   (try clear hb)
   (try clear hb2)
   (try clear hk)
   (try clear hi)
   (try clear ho0)
   refine hK.out _ _ ⟨v283, v286, v289, gb291, m8_, m9_, (by rw [ha.out]; exact putSel_upk 2 hb_ rfl rfl rfl), (zb BK279.out), (zb BK280.out), (zb BK281.out), (zh HB.out), fun _ _ => (zr (Kd.R_mono HO284.out (fun _ hk => hk.2))), z_HO287, fun h0_ => absurd ((hoff 7 (by kernel_rfl)).symm.trans h0_) (by decide), z_BK291, Q_GW291, Q_GE291, Q_NB279_291, Q_NB291_279, Q_NB280_291, Q_NB291_280, Q_NB281_291, Q_NB291_281, fun h0_ => absurd ((hoff 10 (by kernel_rfl)).symm.trans h0_) (by decide), fun h0_ => absurd ((hoff 8 (by kernel_rfl)).symm.trans h0_) (by decide), Q_X9_⟩
  refine steps_cons ?_ ?_
  ·rintro b a w' ⟨v283, v286, v289, gb291, m8_, m9_, ha, Q_BK279, Q_BK280, Q_BK281, Q_HB, Q_HO284, Q_HO287, Q_HO290, Q_BK291, Q_GW291, Q_GE291, Q_NB279_291, Q_NB291_279, Q_NB280_291, Q_NB291_280, Q_NB281_291, Q_NB291_281, Q_BK291_e10, Q_X8_, Q_X9_⟩ hb_ hon hoff
   refine ⟨_, rfl, fun K hK => ?_⟩
   have e3 : a.tmps[3]? = some (.pointer (some ⟨gb280, 0, none⟩)) := by rw [ha]; exact (putSel_off rfl).trans rfl
   replace ha := Aside0.mk ha
   have BK279 := Aside0.mk Q_BK279
   have BK280 := Aside0.mk Q_BK280
   have BK281 := Aside0.mk Q_BK281
   have HB := Aside0.mk Q_HB
   have hc0_ : w'.cell? ⟨gb280, 0, none⟩ = some (.int .i64 a1_0) := (blk_cell BK280.out 0).trans rfl
   have hc1_ : w'.cell? ⟨gb280, 1, none⟩ = some (.int .i64 a1_1) := (blk_cell BK280.out 1).trans rfl
   have hc2_ : w'.cell? ⟨gb280, 2, none⟩ = some (.int .i64 a1_2) := (blk_cell BK280.out 2).trans rfl
   refine value_ (w1 := w') (v := .agg #[.int .i64 a1_0, .int .i64 a1_1, .int .i64 a1_2]) (by rfl) rfl ?_ ?_
   ·go_simp
    (try simp only [i64_w])
    try rfl
   refine hK.out _ _ ⟨v283, v286, v289, gb291, m8_, m9_, (by rw [ha.out]; exact putSel_upk 3 hb_ rfl rfl rfl), Q_BK279, Q_BK280, Q_BK281, Q_HB, Q_HO284, fun h0_ _ => absurd ((hoff 6 (by kernel_rfl)).symm.trans h0_) (by decide), fun h0_ => absurd ((hoff 7 (by kernel_rfl)).symm.trans h0_) (by decide), Q_BK291, Q_GW291, Q_GE291, Q_NB279_291, Q_NB291_279, Q_NB280_291, Q_NB291_280, Q_NB281_291, Q_NB291_281, fun h0_ => absurd ((hoff 10 (by kernel_rfl)).symm.trans h0_) (by decide), fun h0_ => absurd ((hoff 8 (by kernel_rfl)).symm.trans h0_) (by decide), Q_X9_⟩
  refine steps_cons ?_ ?_
  ·rintro b a w' ⟨v283, v286, v289, gb291, m8_, m9_, ha, Q_BK279, Q_BK280, Q_BK281, Q_HB, Q_HO284, Q_HO287, Q_HO290, Q_BK291, Q_GW291, Q_GE291, Q_NB279_291, Q_NB291_279, Q_NB280_291, Q_NB291_280, Q_NB281_291, Q_NB291_281, Q_BK291_e10, Q_X8_, Q_X9_⟩ hb_ hon hoff
   refine ⟨_, rfl, fun K hK => ?_⟩
   have e12 : a.tmps[12]? = some (.agg #[.int .i64 a1_0, .int .i64 a1_1, .int .i64 a1_2]) := by rw [ha]; exact putSel_on (e := (5, 12, .agg #[.int .i64 a1_0, .int .i64 a1_1, .int .i64 a1_2])) 3 rfl rfl (hon 5 (by kernel_rfl)) rfl
   replace ha := Aside0.mk ha
   have BK279 := Aside0.mk Q_BK279
   have BK280 := Aside0.mk Q_BK280
   have BK281 := Aside0.mk Q_BK281
   have HB := Aside0.mk Q_HB
   refine Kd.R_lit_step k25 _ 25 ?hg (N := 13) ?hd (xs := ([(⟨a1_0, a1_1, a1_2⟩ : S25)] : List (S25))) (inner := [.int .i64 a1_0, .int .i64 a1_1, .int .i64 a1_2]) (ok := fun _ => True) (okp := fun _ => True) ?hr ?hp (fun _ hk => hk) trivial (Below.refl _ _) (Nat.le_refl _) (by simp) ?_; (case hd => rfl); (case hg => rfl); (case hr => first | (go_simp; done) | (go_simp; rfl)); (case hp => exact (Reps.c3 (show Kd.M k25 _ _ _ (⟨a1_0, a1_1, a1_2⟩ : S25) [.int .i64 a1_0, .int .i64 a1_1, .int .i64 a1_2] from (k25_mkM _ _ _ (⟨a1_0, a1_1, a1_2⟩ : S25) )) (Reps.none _ _)))
   intro v286 w13 ho14 hb hg_ hnew_
   clear hg_ hnew_
   (first | rw [← Ny285.out] at ho14 | (simp only [Int.reduceToNat] at ho14; rw [← Ny285.out] at ho14))
   have n0_ := Aside0.mk (Kd.R_lower (Kd.R_newB ho14 (g := gb280) (o := .cells #[.int .i64 a1_0, .int .i64 a1_1, .int .i64 a1_2] 25 (0, 0)) (zb BK280.out)) (below_size (zh HB.out)))
   have n1_ := Aside0.mk (blk_below (g := gb279) (o := .cells #[.int .i64 a0_0, .slice A0_1 l0_1.length c0_1] 45 (0, 0)) (zb BK279.out) hb)
   have n2_ := Aside0.mk (blk_below (g := gb280) (o := .cells #[.int .i64 a1_0, .int .i64 a1_1, .int .i64 a1_2] 25 (0, 0)) (zb BK280.out) hb)
   have n3_ := Aside0.mk (blk_below (g := gb281) (o := .cells #[.int .i64 0, .slice none 0 0] 45 (0, 0)) (zb BK281.out) hb)
   have n4_ := Aside0.mk (below_step (zh HB.out) hb)
   have z_HO284 := fun (h0_ : b 4 = true) (h1_ : b 7 = false) => (show Kd.R k25 25 w13 w.heap.size (fun k_ => k_ ≠ gb280) v283 t282 from by first | exact (Kd.R_elder' (zr (Q_HO284 h0_ h1_)) (Kd.R_base ho14) hb) | exact Kd.R_mono (Kd.R_elder' (zr (Q_HO284 h0_ h1_)) (Kd.R_base ho14) hb) (fun _ h_ => by first | trivial | exact h_ | exact h_.1))
   have z_BK291 := fun (h0_ : b 9 = true) (h1_ : b 10 = false) => (show w13.heap[gb291]? = some (.cells #[.int .i64 0, .slice none 0 0] 45 (0, 0)) from by first | exact (blk_below (g := gb291) (o := .cells #[.int .i64 0, .slice none 0 0] 45 (0, 0)) (zb (Q_BK291 h0_ h1_)) hb))
   clear BK279
   clear BK280
   clear BK281
   clear HB
   have HO287 := n0_
   have BK279 := n1_
   have BK280 := n2_
   have BK281 := n3_
   have HB := n4_
   clear n0_ n1_ n2_ n3_ n4_
   clear hb ho14
   refine hK.out _ _ ⟨v283, v286, v289, gb291, m8_, m9_, (by rw [ha.out]; exact putSel_upk 4 hb_ rfl rfl rfl), (zb BK279.out), (zb BK280.out), (zb BK281.out), (zh HB.out), z_HO284, fun _ _ => (zr (Kd.R_mono HO287.out (fun _ hk => hk.2))), fun h0_ => absurd ((hoff 7 (by kernel_rfl)).symm.trans h0_) (by decide), z_BK291, Q_GW291, Q_GE291, Q_NB279_291, Q_NB291_279, Q_NB280_291, Q_NB291_280, Q_NB281_291, Q_NB291_281, fun h0_ => absurd ((hoff 10 (by kernel_rfl)).symm.trans h0_) (by decide), fun h0_ => absurd ((hoff 8 (by kernel_rfl)).symm.trans h0_) (by decide), Q_X9_⟩
  refine steps_cons ?_ ?_
  ·rintro b a w' ⟨v283, v286, v289, gb291, m8_, m9_, ha, Q_BK279, Q_BK280, Q_BK281, Q_HB, Q_HO284, Q_HO287, Q_HO290, Q_BK291, Q_GW291, Q_GE291, Q_NB279_291, Q_NB291_279, Q_NB280_291, Q_NB291_280, Q_NB281_291, Q_NB291_281, Q_BK291_e10, Q_X8_, Q_X9_⟩ hb_ hon hoff
   refine ⟨_, rfl, fun K hK => ?_⟩
   have e11 : a.tmps[11]? = some (v283) := by rw [ha]; exact putSel_on (e := (4, 11, v283)) 2 rfl rfl (hon 4 (by kernel_rfl)) rfl
   have e13 : a.tmps[13]? = some (v286) := by rw [ha]; exact putSel_on (e := (6, 13, v286)) 4 rfl rfl (hon 6 (by kernel_rfl)) rfl
   replace ha := Aside0.mk ha
   have BK279 := Aside0.mk Q_BK279
   have BK280 := Aside0.mk Q_BK280
   have BK281 := Aside0.mk Q_BK281
   have HB := Aside0.mk Q_HB
   have HO284 := Aside0.mk (Q_HO284 (hon 4 (by kernel_rfl)) hb_)
   have HO287 := Aside0.mk (Q_HO287 (hon 6 (by kernel_rfl)) hb_)
   obtain ⟨Ao18, co18, eo18⟩ := Kd.R_slice HO287.out
   (first | subst eo18 | (injection eo18 with f1_ f2_ f3_; have f4_ := f1_.symm; have f5_ := f3_.symm; clear f1_ f2_ f3_; subst f4_; subst f5_))
   refine Kd.R_append_rows_step k25 (w0 := w) w.heap.size (by rfl) (.tmp 11) (.tmp 13) 43 25 (.agg #[(.int .i64 0), (.int .i64 0), (.int .i64 0)]) 24 rfl Try.underlying43 info25 rfl (by decide) (by omega) v283 t282 y285 _ _ _ (fun k_ => k_ ≠ gb280) (fun _ => False) (eval_of e11) (eval_of e13) ?aO ?aR (fun _ _ h => h) (fun _ h => h.elim) ?aF ?aB ?aS ?aL ?_
   (case aR => repeat (first | exact (Kd.R_reads' HO287.out).2.2 | (with_reducible refine Kd.C_alloc ?_ _) | (with_reducible refine Kd.C_drewN ?_ _) | (with_reducible refine Kd.C_drew ?_)))
   (case aB => exact (zh HB.out))
   (case aF => exact (fun k_ hk => Kd.freshB (g := gb280) (o := .cells #[.int .i64 a1_0, .int .i64 a1_1, .int .i64 a1_2] 25 (0, 0)) (zb BK280.out) k_ hk))
   (case aO => exact (zr (by first | exact Kd.R_mono HO284.out (fun _ hk => hk.2) | exact HO284.out)))
   (case aS => exact (below_size (zh HB.out)))
   (case aL => have := LMc4.out; omega)
   intro v289 w17 ho hb hg hat
   rw [← Ny288.out] at ho
   have n0_ := Aside0.mk (blk_grown (g := gb279) (o := .cells #[.int .i64 a0_0, .slice A0_1 l0_1.length c0_1] 45 (0, 0)) (zb BK279.out) hg (Kd.R_ne HO284.out BK279.out (by decide)))
   have n1_ := Aside0.mk (blk_grown (g := gb280) (o := .cells #[.int .i64 a1_0, .int .i64 a1_1, .int .i64 a1_2] 25 (0, 0)) (zb BK280.out) hg (by first | exact Kd.R_away HO284.out (fun _ hk => hk.2) | exact Kd.R_away HO284.out (fun _ hk => hk)))
   have n2_ := Aside0.mk (blk_grown (g := gb281) (o := .cells #[.int .i64 0, .slice none 0 0] 45 (0, 0)) (zb BK281.out) hg (Kd.R_ne HO284.out BK281.out (by decide)))
   have n3_ := Aside0.mk (hb)
   have n4_ := Aside0.mk (ho)
   have z_BK291 := fun (h0_ : b 9 = true) (h1_ : b 10 = false) => (show w17.heap[gb291]? = some (.cells #[.int .i64 0, .slice none 0 0] 45 (0, 0)) from by first | exact (blk_grown (g := gb291) (o := .cells #[.int .i64 0, .slice none 0 0] 45 (0, 0)) (zb (Q_BK291 h0_ h1_)) hg (Kd.R_ne HO284.out (Q_BK291 h0_ h1_) (by decide))))
   clear BK279
   clear BK280
   clear BK281
   clear HB
   clear HO284
   clear HO287
   have BK279 := n0_
   have BK280 := n1_
   have BK281 := n2_
   have HB := n3_
   have HO290 := n4_
   clear n0_ n1_ n2_ n3_ n4_
   clear ho hb hg hat
   obtain ⟨Ao19, co19, eo19⟩ := Kd.R_slice HO290.out
   (first | subst eo19 | (injection eo19 with f1_ f2_ f3_; have f4_ := f1_.symm; have f5_ := f3_.symm; clear f1_ f2_ f3_; subst f4_; subst f5_))
   refine hK.out _ _ ⟨v283, .slice Ao18 y285.length co18, .slice Ao19 y288.length co19, gb291, m8_, m9_, (by rw [ha.out]; exact putSel_upk 5 hb_ rfl rfl rfl), (zb BK279.out), (zb BK280.out), (zb BK281.out), (zh HB.out), fun _ h1_ => absurd ((up_self b 7).symm.trans h1_) (by decide), fun _ h1_ => absurd ((up_self b 7).symm.trans h1_) (by decide), fun _ => (zr HO290.out), z_BK291, Q_GW291, Q_GE291, Q_NB279_291, Q_NB291_279, Q_NB280_291, Q_NB291_280, Q_NB281_291, Q_NB291_281, fun h0_ => absurd ((hoff 10 (by kernel_rfl)).symm.trans h0_) (by decide), fun h0_ => absurd ((hoff 8 (by kernel_rfl)).symm.trans h0_) (by decide), Q_X9_⟩
  refine steps_cons ?_ ?_
  ·rintro b a w' ⟨v283, v286, v289, gb291, m8_, m9_, ha, Q_BK279, Q_BK280, Q_BK281, Q_HB, Q_HO284, Q_HO287, Q_HO290, Q_BK291, Q_GW291, Q_GE291, Q_NB279_291, Q_NB291_279, Q_NB280_291, Q_NB291_280, Q_NB281_291, Q_NB291_281, Q_BK291_e10, Q_X8_, Q_X9_⟩ hb_ hon hoff
   refine ⟨_, rfl, fun K hK => ?_⟩
   have e8 : a.tmps[8]? = some (.int .i64 a0_0) := by rw [ha]; exact putSel_on (e := (1, 8, .int .i64 a0_0)) 0 rfl rfl (hon 1 (by kernel_rfl)) rfl
   have e14 : a.tmps[14]? = some (v289) := by rw [ha]; exact putSel_on (e := (7, 14, v289)) 5 rfl rfl (hon 7 (by kernel_rfl)) rfl
   replace ha := Aside0.mk ha
   have BK279 := Aside0.mk Q_BK279
   have BK280 := Aside0.mk Q_BK280
   have BK281 := Aside0.mk Q_BK281
   have HB := Aside0.mk Q_HB
   have HO290 := Aside0.mk (Q_HO290 (hon 7 (by kernel_rfl)))
   obtain ⟨Ao8_0, co8_0, eo_⟩ := Kd.R_slice HO290.out
   subst eo_
   refine value_ (w1 := w') (v := .agg #[.int .i64 a0_0, .slice Ao8_0 y288.length co8_0]) (by rfl) rfl ?_ ?_
   ·go_simp
    (try simp only [i64_w])
    try rfl
   refine hK.out _ _ ⟨v283, v286, .slice Ao8_0 y288.length co8_0, gb291, (.agg #[.int .i64 a0_0, .slice Ao8_0 y288.length co8_0]), m9_, (by rw [ha.out]; exact putSel_upk 6 hb_ rfl rfl rfl), Q_BK279, Q_BK280, Q_BK281, Q_HB, fun _ h1_ => absurd ((hon 7 (by kernel_rfl)).symm.trans h1_) (by decide), fun _ h1_ => absurd ((hon 7 (by kernel_rfl)).symm.trans h1_) (by decide), Q_HO290, Q_BK291, Q_GW291, Q_GE291, Q_NB279_291, Q_NB291_279, Q_NB280_291, Q_NB291_280, Q_NB281_291, Q_NB291_281, fun h0_ => absurd ((hoff 10 (by kernel_rfl)).symm.trans h0_) (by decide), fun _ => rfl, Q_X9_⟩
  refine steps_cons ?_ ?_
  ·rintro b a w' ⟨v283, v286, v289, gb291, m8_, m9_, ha, Q_BK279, Q_BK280, Q_BK281, Q_HB, Q_HO284, Q_HO287, Q_HO290, Q_BK291, Q_GW291, Q_GE291, Q_NB279_291, Q_NB291_279, Q_NB280_291, Q_NB291_280, Q_NB281_291, Q_NB291_281, Q_BK291_e10, Q_X8_, Q_X9_⟩ hb_ hon hoff
   refine ⟨_, rfl, fun K hK => ?_⟩
   replace ha := Aside0.mk ha
   have BK279 := Aside0.mk Q_BK279
   have BK280 := Aside0.mk Q_BK280
   have BK281 := Aside0.mk Q_BK281
   have HB := Aside0.mk Q_HB
   refine box_step ?hg (N := 6) ?hd (cs := #[.int .i64 0, .slice none 0 0]) (t := 45) ?hr ?_; (case hd => rfl); (case hg => rfl); (case hr => first | (go_simp; done) | (go_simp; rfl))
   intro gb291 hg w13 hbox hb
   have n0_ := Aside0.mk (blk_below (g := gb279) (o := .cells #[.int .i64 a0_0, .slice A0_1 l0_1.length c0_1] 45 (0, 0)) (zb BK279.out) hb)
   have n1_ := Aside0.mk (blk_below (g := gb280) (o := .cells #[.int .i64 a1_0, .int .i64 a1_1, .int .i64 a1_2] 25 (0, 0)) (zb BK280.out) hb)
   have n2_ := Aside0.mk (blk_below (g := gb281) (o := .cells #[.int .i64 0, .slice none 0 0] 45 (0, 0)) (zb BK281.out) hb)
   have n3_ := Aside0.mk (below_step (zh HB.out) hb)
   have n4_ := Aside0.mk (hbox)
   have n5_ := Aside0.mk ((by rw [hg]; exact (below_size (zh HB.out)) : w.heap.size ≤ gb291))
   have n6_ := Aside0.mk ((by rw [hg]; exact (below_size (zh HB.out)) : w.heap.size ≤ gb291))
   have n7_ := Aside0.mk ((by rw [hg]; exact Nat.ne_of_lt (blk_lt (g := gb279) (o := .cells #[.int .i64 a0_0, .slice A0_1 l0_1.length c0_1] 45 (0, 0)) (zb BK279.out)) : gb279 ≠ gb291))
   have n8_ := Aside0.mk ((by rw [hg]; exact Nat.ne_of_gt (blk_lt (g := gb279) (o := .cells #[.int .i64 a0_0, .slice A0_1 l0_1.length c0_1] 45 (0, 0)) (zb BK279.out)) : gb291 ≠ gb279))
   have n9_ := Aside0.mk ((by rw [hg]; exact Nat.ne_of_lt (blk_lt (g := gb280) (o := .cells #[.int .i64 a1_0, .int .i64 a1_1, .int .i64 a1_2] 25 (0, 0)) (zb BK280.out)) : gb280 ≠ gb291))
   have n10_ := Aside0.mk ((by rw [hg]; exact Nat.ne_of_gt (blk_lt (g := gb280) (o := .cells #[.int .i64 a1_0, .int .i64 a1_1, .int .i64 a1_2] 25 (0, 0)) (zb BK280.out)) : gb291 ≠ gb280))
   have n11_ := Aside0.mk ((by rw [hg]; exact Nat.ne_of_lt (blk_lt (g := gb281) (o := .cells #[.int .i64 0, .slice none 0 0] 45 (0, 0)) (zb BK281.out)) : gb281 ≠ gb291))
   have n12_ := Aside0.mk ((by rw [hg]; exact Nat.ne_of_gt (blk_lt (g := gb281) (o := .cells #[.int .i64 0, .slice none 0 0] 45 (0, 0)) (zb BK281.out)) : gb291 ≠ gb281))
   have z_HO284 := fun (h0_ : b 4 = true) (h1_ : b 7 = false) => (show Kd.R k25 25 w13 w.heap.size (fun k_ => k_ ≠ gb280) v283 t282 from by first | exact (Kd.R_below (zr (Q_HO284 h0_ h1_)) hb) | exact Kd.R_mono (Kd.R_below (zr (Q_HO284 h0_ h1_)) hb) (fun _ h_ => by first | trivial | exact h_ | exact h_.1))
   have z_HO287 := fun (h0_ : b 6 = true) (h1_ : b 7 = false) => (show Kd.R k25 25 w13 w.heap.size (fun k_ => k_ ≠ gb280) v286 y285 from by first | exact (Kd.R_below (zr (Q_HO287 h0_ h1_)) hb) | exact Kd.R_mono (Kd.R_below (zr (Q_HO287 h0_ h1_)) hb) (fun _ h_ => by first | trivial | exact h_ | exact h_.1))
   have z_HO290 := fun (h0_ : b 7 = true) => (show Kd.R k25 25 w13 w.heap.size (fun k_ => k_ ≠ gb280) v289 y288 from by first | exact (Kd.R_below (zr (Q_HO290 h0_)) hb) | exact Kd.R_mono (Kd.R_below (zr (Q_HO290 h0_)) hb) (fun _ h_ => by first | trivial | exact h_ | exact h_.1))
   clear BK279
   clear BK280
   clear BK281
   clear HB
   have BK279 := n0_
   have BK280 := n1_
   have BK281 := n2_
   have HB := n3_
   have BK291 := n4_
   have GW291 := n5_
   have GE291 := n6_
   have NB279_291 := n7_
   have NB291_279 := n8_
   have NB280_291 := n9_
   have NB291_280 := n10_
   have NB281_291 := n11_
   have NB291_281 := n12_
   clear n0_ n1_ n2_ n3_ n4_ n5_ n6_ n7_ n8_ n9_ n10_ n11_ n12_
   clear hb hbox hg
   refine hK.out _ _ ⟨v283, v286, v289, gb291, m8_, (.pointer (some ⟨gb291, 0, none⟩)), (by rw [ha.out]; exact putSel_upk 7 hb_ rfl rfl rfl), (zb BK279.out), (zb BK280.out), (zb BK281.out), (zh HB.out), z_HO284, z_HO287, z_HO290, fun _ _ => (zb BK291.out), fun _ => GW291.out, fun _ => GE291.out, fun _ => NB279_291.out, fun _ => NB291_279.out, fun _ => NB280_291.out, fun _ => NB291_280.out, fun _ => NB281_291.out, fun _ => NB291_281.out, fun h0_ => absurd ((hoff 10 (by kernel_rfl)).symm.trans h0_) (by decide), Q_X8_, fun _ => rfl⟩
  refine steps_cons ?_ ?_
  ·rintro b a w' ⟨v283, v286, v289, gb291, m8_, m9_, ha, Q_BK279, Q_BK280, Q_BK281, Q_HB, Q_HO284, Q_HO287, Q_HO290, Q_BK291, Q_GW291, Q_GE291, Q_NB279_291, Q_NB291_279, Q_NB280_291, Q_NB291_280, Q_NB281_291, Q_NB291_281, Q_BK291_e10, Q_X8_, Q_X9_⟩ hb_ hon hoff
   refine ⟨_, rfl, fun K hK => ?_⟩
   have e6 : a.tmps[6]? = some (m9_) := by rw [ha]; exact putSel_on (e := (9, 6, m9_)) 7 rfl rfl (hon 9 (by kernel_rfl)) rfl
   rw [Q_X9_ (hon 9 (by kernel_rfl))] at e6
   have e15 : a.tmps[15]? = some (m8_) := by rw [ha]; exact putSel_on (e := (8, 15, m8_)) 6 rfl rfl (hon 8 (by kernel_rfl)) rfl
   rw [Q_X8_ (hon 8 (by kernel_rfl))] at e15
   replace ha := Aside0.mk ha
   have BK279 := Aside0.mk Q_BK279
   have BK280 := Aside0.mk Q_BK280
   have BK281 := Aside0.mk Q_BK281
   have HB := Aside0.mk Q_HB
   have HO290 := Aside0.mk (Q_HO290 (hon 7 (by kernel_rfl)))
   have BK291 := Aside0.mk (Q_BK291 (hon 9 (by kernel_rfl)) hb_)
   have GW291 := Aside0.mk (Q_GW291 (hon 9 (by kernel_rfl)))
   have GE291 := Aside0.mk (Q_GE291 (hon 9 (by kernel_rfl)))
   have NB279_291 := Aside0.mk (Q_NB279_291 (hon 9 (by kernel_rfl)))
   have NB291_279 := Aside0.mk (Q_NB291_279 (hon 9 (by kernel_rfl)))
   have NB280_291 := Aside0.mk (Q_NB280_291 (hon 9 (by kernel_rfl)))
   have NB291_280 := Aside0.mk (Q_NB291_280 (hon 9 (by kernel_rfl)))
   have NB281_291 := Aside0.mk (Q_NB281_291 (hon 9 (by kernel_rfl)))
   have NB291_281 := Aside0.mk (Q_NB291_281 (hon 9 (by kernel_rfl)))
   obtain ⟨Ao21, co21, eo21⟩ := Kd.R_slice HO290.out
   (first | subst eo21 | (injection eo21 with f1_ f2_ f3_; have f4_ := f1_.symm; have f5_ := f3_.symm; clear f1_ f2_ f3_; subst f4_; subst f5_))
   have hs22 : w'.cell? ⟨gb291, 0, none⟩ = some (.int .i64 0) := (blk_cell BK291.out 0).trans rfl
   have hfs22 := blk_frozen BK291.out 0
   have hns22_0 := NB279_291.out
   have hns22_1 := NB280_291.out
   have hns22_2 := NB281_291.out
   have hms22_0 := NB291_279.out
   have hms22_1 := NB291_280.out
   have hms22_2 := NB291_281.out
   have hs23 : w'.cell? ⟨gb291, 1, none⟩ = some (.slice none 0 0) := (blk_cell BK291.out 1).trans rfl
   have hfs23 := blk_frozen BK291.out 1
   have hns23_0 := NB279_291.out
   have hns23_1 := NB280_291.out
   have hns23_2 := NB281_291.out
   have hms23_0 := NB291_279.out
   have hms23_1 := NB291_280.out
   have hms23_2 := NB291_281.out
   refine skip_ (w1 := ?_) (by rfl) rfl ?_ ?_
   rotate_left
   ·go_simp
    rfl
   refine hK.out _ _ ⟨v283, v286, .slice Ao21 y288.length co21, gb291, m8_, m9_, (by rw [ha.out]; exact putSel_none (v := undef) rfl), (by (with_reducible repeat (first | refine blk_drewN ?_ _ | refine blk_drew ?_ | refine blk_alloc ?_ _)); refine blk_far ?_ NB279_291.out _; (with_reducible repeat (first | refine blk_drewN ?_ _ | refine blk_drew ?_ | refine blk_alloc ?_ _)); refine blk_far ?_ NB279_291.out _; (with_reducible repeat (first | refine blk_drewN ?_ _ | refine blk_drew ?_ | refine blk_alloc ?_ _)); exact BK279.out), (by (with_reducible repeat (first | refine blk_drewN ?_ _ | refine blk_drew ?_ | refine blk_alloc ?_ _)); refine blk_far ?_ NB280_291.out _; (with_reducible repeat (first | refine blk_drewN ?_ _ | refine blk_drew ?_ | refine blk_alloc ?_ _)); refine blk_far ?_ NB280_291.out _; (with_reducible repeat (first | refine blk_drewN ?_ _ | refine blk_drew ?_ | refine blk_alloc ?_ _)); exact BK280.out), (by (with_reducible repeat (first | refine blk_drewN ?_ _ | refine blk_drew ?_ | refine blk_alloc ?_ _)); refine blk_far ?_ NB281_291.out _; (with_reducible repeat (first | refine blk_drewN ?_ _ | refine blk_drew ?_ | refine blk_alloc ?_ _)); refine blk_far ?_ NB281_291.out _; (with_reducible repeat (first | refine blk_drewN ?_ _ | refine blk_drew ?_ | refine blk_alloc ?_ _)); exact BK281.out), (zh HB.out), fun _ h1_ => absurd ((hon 7 (by kernel_rfl)).symm.trans h1_) (by decide), fun _ h1_ => absurd ((hon 7 (by kernel_rfl)).symm.trans h1_) (by decide), fun _ => (by (with_reducible repeat (first | apply Kd.R_alloc | apply Kd.R_drewN | apply Kd.R_drew)); exact Kd.R_mono (Kd.R_far (p := ⟨gb291, 1, none⟩) (Kd.R_far (p := ⟨gb291, 0, none⟩) (Kd.R_types HO290.out BK291.out (by decide)) (fun _ hk => hk.2) (.int .i64 a0_0)) (fun _ hk => hk.2) (.slice Ao21 y288.length co21)) (fun _ hk => hk.1)), fun _ h1_ => absurd ((up_self b 10).symm.trans h1_) (by decide), fun _ => GW291.out, fun _ => GE291.out, fun _ => NB279_291.out, fun _ => NB291_279.out, fun _ => NB280_291.out, fun _ => NB291_280.out, fun _ => NB281_291.out, fun _ => NB291_281.out, fun _ => (by (with_reducible repeat (first | refine blk_drewN ?_ _ | refine blk_drew ?_ | refine blk_alloc ?_ _)); refine blk_put (cs := #[.int .i64 a0_0, .slice none 0 0]) ?_ 1 _ rfl; (with_reducible repeat (first | refine blk_drewN ?_ _ | refine blk_drew ?_ | refine blk_alloc ?_ _)); refine blk_put (cs := #[.int .i64 0, .slice none 0 0]) ?_ 0 _ rfl; (with_reducible repeat (first | refine blk_drewN ?_ _ | refine blk_drew ?_ | refine blk_alloc ?_ _)); exact BK291.out), Q_X8_, Q_X9_⟩
  exact steps_nil
 rintro b a w22 hall ⟨v283, v286, v289, gb291, m8_, m9_, ha, Q_BK279, Q_BK280, Q_BK281, Q_HB, Q_HO284, Q_HO287, Q_HO290, Q_BK291, Q_GW291, Q_GE291, Q_NB279_291, Q_NB291_279, Q_NB280_291, Q_NB291_280, Q_NB281_291, Q_NB291_281, Q_BK291_e10, Q_X8_, Q_X9_⟩
 clear BK279 BK280 BK281 HB
 have hb1_ := hall 1 (by kernel_rfl)
 have hb3_ := hall 3 (by kernel_rfl)
 have hb4_ := hall 4 (by kernel_rfl)
 have hb5_ := hall 5 (by kernel_rfl)
 have hb6_ := hall 6 (by kernel_rfl)
 have hb7_ := hall 7 (by kernel_rfl)
 have hb8_ := hall 8 (by kernel_rfl)
 have hb9_ := hall 9 (by kernel_rfl)
 have hb10_ := hall 10 (by kernel_rfl)
 subst ha
 obtain rfl := Q_X8_ hb8_
 obtain rfl := Q_X9_ hb9_
 simp only [putSel, hb1_, hb3_, hb4_, hb5_, hb6_, hb7_, hb8_, hb9_, hb10_, if_true, Act.put, List.setIfInBounds_toArray, List.set_cons_zero, List.set_cons_succ]
 have BK279 := Aside0.mk Q_BK279
 clear Q_BK279
 have BK280 := Aside0.mk Q_BK280
 clear Q_BK280
 have BK281 := Aside0.mk Q_BK281
 clear Q_BK281
 have HB := Aside0.mk Q_HB
 clear Q_HB
 clear Q_HO284
 clear Q_HO287
 have HO290 := Aside0.mk (Q_HO290 hb7_)
 clear Q_HO290
 clear Q_BK291
 have GW291 := Aside0.mk (Q_GW291 hb9_)
 clear Q_GW291
 have GE291 := Aside0.mk (Q_GE291 hb9_)
 clear Q_GE291
 have NB279_291 := Aside0.mk (Q_NB279_291 hb9_)
 clear Q_NB279_291
 have NB291_279 := Aside0.mk (Q_NB291_279 hb9_)
 clear Q_NB291_279
 have NB280_291 := Aside0.mk (Q_NB280_291 hb9_)
 clear Q_NB280_291
 have NB291_280 := Aside0.mk (Q_NB291_280 hb9_)
 clear Q_NB291_280
 have NB281_291 := Aside0.mk (Q_NB281_291 hb9_)
 clear Q_NB281_291
 have NB291_281 := Aside0.mk (Q_NB291_281 hb9_)
 clear Q_NB291_281
 have BK291 := Aside0.mk (Q_BK291_e10 hb10_)
 clear Q_BK291_e10
 clear hall hb1_ hb3_ hb4_ hb5_ hb6_ hb7_ hb8_ hb9_ hb10_
 obtain ⟨Ao23, co23, eo23⟩ := Kd.R_slice HO290.out
 (first | subst eo23 | (injection eo23 with f1_ f2_ f3_; have f4_ := f1_.symm; have f5_ := f3_.symm; clear f1_ f2_ f3_; subst f4_; subst f5_))
 have hnb24 := NB279_280.out
 have hnc24 := NB280_279.out
 have hnb25 := NB279_281.out
 have hnc25 := NB281_279.out
 have hnb26 := NB279_291.out
 have hnc26 := NB291_279.out
 have hcz27_0 : w22.cell? ⟨gb279, 0, none⟩ = some (.int .i64 a0_0) := (blk_cell BK279.out 0).trans rfl
 have hcz27_1 : w22.cell? ⟨gb279, 1, none⟩ = some (.slice A0_1 l0_1.length c0_1) := (blk_cell BK279.out 1).trans rfl
 have hfz27_0 := blk_frozen BK279.out 0
 have hfz27_1 := blk_frozen BK279.out 1
 try go_wp2_with (first | ((with_reducible refine gate_callee (f := 23) rfl ?_); refine goesL_ (some 17) rfl rfl Try.func23 (by kernel_rfl) rfl #[.agg #[.int .i64 a0_0, .slice A0_1 l0_1.length c0_1]] rfl (by (try simp only [List.map_toArray, List.map_cons, List.map_nil]); first | done | rfl | (simp only [List.length_drop, List.length_take]; rfl)) ?_; (with_reducible refine (impl_IsPuzzle.calls a0_0 _ _ l0_1 true _ ?side1 ?side2 A5.out).mono ?_); (case side1 => repeat (first | exact (Kd.C_below HR0_1.out HB.out) | (with_reducible refine Kd.C_alloc ?_ _) | (with_reducible refine Kd.C_drewN ?_ _) | (with_reducible refine Kd.C_drew ?_))); (case side2 => exact HC0_1.out); rintro e w28 ⟨rfl, hb⟩; refine ⟨_, rfl, ?_⟩; have n0_ := Aside0.mk (Kd.R_below (zr HO290.out) hb); have n1_ := Aside0.mk (blk_below (g := gb279) (o := .cells #[.int .i64 a0_0, .slice A0_1 l0_1.length c0_1] 45 (0, 0)) (zb BK279.out) hb); have n2_ := Aside0.mk (blk_below (g := gb280) (o := .cells #[.int .i64 a1_0, .int .i64 a1_1, .int .i64 a1_2] 25 (0, 0)) (zb BK280.out) hb); have n3_ := Aside0.mk (blk_below (g := gb281) (o := .cells #[.int .i64 0, .slice none 0 0] 45 (0, 0)) (zb BK281.out) hb); have n4_ := Aside0.mk (blk_below (g := gb291) (o := .cells #[.int .i64 a0_0, .slice Ao23 y288.length co23] 45 (0, 0)) (zb BK291.out) hb); have n5_ := Aside0.mk (below_step (zh HB.out) hb); clear HO290; clear BK279; clear BK280; clear BK281; clear BK291; clear HB; have HO290 := n0_; have BK279 := n1_; have BK280 := n2_; have BK281 := n3_; have BK291 := n4_; have HB := n5_; clear n0_ n1_ n2_ n3_ n4_ n5_; (try clear hb); (try clear hb2); (try clear hk); (try clear hi); have hnb29 := NB291_280.out; have hnc29 := NB280_291.out; have hnb30 := NB291_281.out; have hnc30 := NB281_291.out; have hcz31_0 : w28.cell? ⟨gb291, 0, none⟩ = some (.int .i64 a0_0) := (blk_cell BK291.out 0).trans rfl; have hcz31_1 : w28.cell? ⟨gb291, 1, none⟩ = some (.slice Ao23 y288.length co23) := (blk_cell BK291.out 1).trans rfl; have hfz31_0 := blk_frozen BK291.out 0; have hfz31_1 := blk_frozen BK291.out 1) | (go_at_call 23; (with_reducible refine (impl_IsPuzzle.calls a0_0 _ _ y288 true _ ?side1 ?side2 A7.out).mono ?_); (case side1 => repeat (first | exact (Kd.R_reads' HO290.out).2.2 | (with_reducible refine Kd.C_alloc ?_ _) | (with_reducible refine Kd.C_drewN ?_ _) | (with_reducible refine Kd.C_drew ?_))); (case side2 => exact (Kd.R_reads' HO290.out).2.1); rintro e w32 ⟨rfl, hb⟩; have n0_ := Aside0.mk (Kd.R_below (zr HO290.out) hb); have n1_ := Aside0.mk (blk_below (g := gb279) (o := .cells #[.int .i64 a0_0, .slice A0_1 l0_1.length c0_1] 45 (0, 0)) (zb BK279.out) hb); have n2_ := Aside0.mk (blk_below (g := gb280) (o := .cells #[.int .i64 a1_0, .int .i64 a1_1, .int .i64 a1_2] 25 (0, 0)) (zb BK280.out) hb); have n3_ := Aside0.mk (blk_below (g := gb281) (o := .cells #[.int .i64 0, .slice none 0 0] 45 (0, 0)) (zb BK281.out) hb); have n4_ := Aside0.mk (blk_below (g := gb291) (o := .cells #[.int .i64 a0_0, .slice Ao23 y288.length co23] 45 (0, 0)) (zb BK291.out) hb); have n5_ := Aside0.mk (below_step (zh HB.out) hb); clear HO290; clear BK279; clear BK280; clear BK281; clear BK291; clear HB; have HO290 := n0_; have BK279 := n1_; have BK280 := n2_; have BK281 := n3_; have BK291 := n4_; have HB := n5_; clear n0_ n1_ n2_ n3_ n4_ n5_; (try clear hb); (try clear hb2); (try clear hk); (try clear hi); have hcz33_0 : w32.cell? ⟨gb291, 0, none⟩ = some (.int .i64 a0_0) := (blk_cell BK291.out 0).trans rfl; have hcz33_1 : w32.cell? ⟨gb291, 1, none⟩ = some (.slice Ao23 y288.length co23) := (blk_cell BK291.out 1).trans rfl; have hfz33_0 := blk_frozen BK291.out 0; have hfz33_1 := blk_frozen BK291.out 1; have hnb34 := NB281_280.out; have hnc34 := NB280_281.out; have hcz35_0 : w32.cell? ⟨gb281, 0, none⟩ = some (.int .i64 0) := (blk_cell BK281.out 0).trans rfl; have hcz35_1 : w32.cell? ⟨gb281, 1, none⟩ = some (.slice none 0 0) := (blk_cell BK281.out 1).trans rfl; have hfz35_0 := blk_frozen BK281.out 0; have hfz35_1 := blk_frozen BK281.out 1))
 refine bodyPost_ret (results_ct rfl _ _ gb281 45 #[.int .i64 a0_0, .slice Ao23 y288.length co23] (0, 0) _ rfl (by (with_reducible repeat (first | refine blk_drewN ?_ _ | refine blk_drew ?_ | refine blk_alloc ?_ _)); refine blk_put (cs := #[.int .i64 a0_0, .slice none 0 0]) ?_ 1 _ rfl; (with_reducible repeat (first | refine blk_drewN ?_ _ | refine blk_drew ?_ | refine blk_alloc ?_ _)); refine blk_put (cs := #[.int .i64 0, .slice none 0 0]) ?_ 0 _ rfl; (with_reducible repeat (first | refine blk_drewN ?_ _ | refine blk_drew ?_ | refine blk_alloc ?_ _)); exact BK281.out) Try.underlying45 rfl (by kernel_rfl)) rfl ?_
 exact ⟨_, by first | rfl | (simp [errW_none, errW_some] <;> rfl) | (simp [*, errW_none, errW_some] <;> rfl), by (with_reducible repeat (first | apply Kd.R_alloc | apply Kd.R_drewN | apply Kd.R_drew)); exact Kd.R_mono (Kd.R_far (p := ⟨gb281, 1, none⟩) (Kd.R_far (p := ⟨gb281, 0, none⟩) (Kd.R_types HO290.out BK281.out (by decide)) (fun _ hk => hk.2) (.int .i64 a0_0)) (fun _ hk => hk.2) (.slice Ao23 y288.length co23)) (fun _ hk => trivial), by repeat (first | (with_reducible first | exact HB.out | apply below_alloc | apply pw_below_drewN | apply below_drew1 | refine below_set ?_ GE279.out | refine below_set ?_ GE280.out | refine below_set ?_ GE281.out | refine below_set ?_ GE291.out) | exact HB.out)⟩
end Go.Proofs.Ytgbdliccdbccbaa.Q
end

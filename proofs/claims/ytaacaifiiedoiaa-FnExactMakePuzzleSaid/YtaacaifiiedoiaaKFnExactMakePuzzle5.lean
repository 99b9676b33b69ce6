/- Part 5 of the proof of FnExactMakePuzzle: what it leans on (no condition). -/
import Derived.Test.YtaacaifiiedoiaaKFnExactMakePuzzle4
import Derived.ProofKit
import Derived.OpenShut
import Derived.ShutString
import Derived.ChangeOld
import Derived.SizedLaws
import Derived.Deep.Slices
import Derived.Deep.Strs
section
namespace Go.Proofs.Ytaacaifiiedoiaa.Q
open Go.RowKit Go.Proofs.YtaacaifiiedoiaaW.PrintWords Go.Proofs.YtaacaifiiedoiaaW.PrintLast Go.Proofs.YtaacaifiiedoiaaW.PrintMore
attribute [local go_sem] max2_int min2_int max_two min_two max_three min_three max_four min_four
set_option linter.unusedVariables false
set_option linter.unusedSimpArgs false
mutual
def impl_IsGame.j0 : Nat → Bool → Int → List (List Int) → Option (Bool)
 | 0, _, _, _ => none
 | k + 1, x24, x235000, x235001 => if x24 = true then (some false) else (impl_IsGame.l0 k x235001 (x235001.length : Int) 0 x235000 x235001)
def impl_IsGame.l0 : Nat → List (List Int) → Int → Int → Int → List (List Int) → Option (Bool)
 | 0, _, _, _, _, _ => none
 | k + 1, x26, x27, x28, x235000, x235001 => if x28 < x27 then (if 0 ≤ x28 then (if x28 < (x26.length : Int) then (if x28 > 0 then (if 0 ≤ (wrap64 (x28 - 1)) then (if (wrap64 (x28 - 1)) < (x235001.length : Int) then ((slices_Compare_int_int.f k (rd_L1 x235001 (wrap64 (x28 - 1))) (rd_L1 x26 x28)).bind fun t239 => (impl_IsGame.j2 k x28 (rd_L1 x26 x28) x26 x27 x28 (decide (t239 ≥ 0)) x235000 x235001)) else (none)) else (none)) else (impl_IsGame.j2 k x28 (rd_L1 x26 x28) x26 x27 x28 false x235000 x235001)) else (none)) else (none)) else (some true)
def impl_IsGame.j2 : Nat → Int → List Int → List (List Int) → Int → Int → Bool → Int → List (List Int) → Option (Bool)
 | 0, _, _, _, _, _, _, _, _ => none
 | k + 1, x3, x4, x26, x27, x28, x45, x235000, x235001 => if x45 = true then (some false) else (impl_IsGame.l1 k x3 x4 x26 x27 x28 x235001 (x235001.length : Int) 0 x235000 x235001)
def impl_IsGame.l1 : Nat → Int → List Int → List (List Int) → Int → Int → List (List Int) → Int → Int → Int → List (List Int) → Option (Bool)
 | 0, _, _, _, _, _, _, _, _, _, _ => none
 | k + 1, x3, x4, x26, x27, x28, x47, x48, x49, x235000, x235001 => if x49 < x48 then (if 0 ≤ x49 then (if x49 < (x47.length : Int) then (if x49 = x3 then (impl_IsGame.l1 k x3 x4 x26 x27 x28 x47 x48 (wrap64 (x49 + 1)) x235000 x235001) else ((impl_maskOf.f k x4).bind fun t241 => ((impl_maskOf.f k (rd_L1 x47 x49)).bind fun t242 => (if (Go.bits .and .i64 t241 t242) = t242 then (some false) else (impl_IsGame.l1 k x3 x4 x26 x27 x28 x47 x48 (wrap64 (x49 + 1)) x235000 x235001))))) else (none)) else (none)) else (impl_IsGame.l0 k x26 x27 (wrap64 (x28 + 1)) x235000 x235001)
end
def impl_IsGame.f (k : Nat) (a0_0 : Int) (l0_1 : List (List Int)) : Option (Bool) := (impl_within.f a0_0 1 9).bind fun t235 => (if t235 = true then (if (l0_1.length : Int) = 0 then (impl_IsGame.j0 k true a0_0 l0_1) else ((impl_areSets.f k l0_1 a0_0).bind fun t236 => (impl_IsGame.j0 k (!t236) a0_0 l0_1))) else (impl_IsGame.j0 k true a0_0 l0_1))
set_option maxHeartbeats 8000000 in
set_option maxRecDepth 100000 in
theorem impl_IsGame.calls (k : Nat) (a0_0 : Int) (A0_1 : Option Addr) (c0_1 : Nat) (l0_1 : List (List Int)) (r : Bool) (w : World) (hr0_1 : Kd.C (Kd.slice 3 (Kd.int .i64)) w A0_1 l0_1.length l0_1) (hc0_1 : l0_1.length ≤ c0_1) (h : impl_IsGame.f k a0_0 l0_1 = some r) :
  Calls Try.prog 41 #[.agg #[.int .i64 a0_0, .slice A0_1 l0_1.length c0_1]] w fun e w' => e = .returned (.bool r) ∧ Below w.heap.size w w' := by
 have hu31 := Try.underlying31
 have HR0_1 := Aside0.mk hr0_1
 have HC0_1 := Aside0.mk hc0_1
 clear hr0_1 hc0_1
 have HB := Aside0.mk (Below.refl w.heap.size w)
 have H : ((impl_within.f a0_0 1 9).bind fun t235 => (if t235 = true then (if (l0_1.length : Int) = 0 then (impl_IsGame.j0 k true a0_0 l0_1) else ((impl_areSets.f k l0_1 a0_0).bind fun t236 => (impl_IsGame.j0 k (!t236) a0_0 l0_1))) else (impl_IsGame.j0 k true a0_0 l0_1))) = some r := h
 clear h
 have HC2 := Aside0.mk H
 clear H
 go_enter Try.func41, Try.ntmps41
 go_upto_region 1 with (first | ((with_reducible refine gate_dst (N := 1) rfl ?_); (try (refine gate_guard (by rfl) ?_; dsimp only)); refine box_event ?hg (N := 1) ?hd (cs := #[.int .i64 a0_0, .slice A0_1 l0_1.length c0_1]) (t := 31) ?hr ?_; (case hd => rfl); (case hg => rfl); (case hr => first | (go_simp; done) | (go_simp; rfl)); intro gb234 hg w3 hbox hb; have n2_ := Aside0.mk ((by rw [hg]; exact (below_size (zh HB.out)) : w.heap.size ≤ gb234)); replace HB := Aside0.mk (below_step (zh HB.out) hb); have BK234 := Aside0.mk hbox; have GW234 := n2_; have GE234 := n2_; clear n2_ hb hbox hg))
 (try simp only [Act.put, List.setIfInBounds_toArray, List.set_cons_zero, List.set_cons_succ])
 go_cut [24] (fun v24 wc => ∃ (kq : Nat) (x24_1 : Bool), v24 = .bool x24_1 ∧ Aside0 (impl_IsGame.j0 kq x24_1 a0_0 l0_1 = some r) ∧ Aside0 (kq ≤ k) ∧ Aside0 (wc.heap[gb234]? = some (.cells #[.int .i64 a0_0, (.slice A0_1 l0_1.length c0_1)] 31 (0, 0))) ∧ Aside0 (Below w.heap.size w wc))
 case first =>
  have H := HC2.out
  clear HC2
  replace H := Option.bind_eq_some_iff.mp H
  obtain ⟨t235, A40, H⟩ := H
  replace H : (if t235 = true then (if (l0_1.length : Int) = 0 then (impl_IsGame.j0 k true a0_0 l0_1) else ((impl_areSets.f k l0_1 a0_0).bind fun t236 => (impl_IsGame.j0 k (!t236) a0_0 l0_1))) else (impl_IsGame.j0 k true a0_0 l0_1)) = some r := H
  have A4 := Aside0.mk A40
  clear A40
  by_cases c5 : t235 = true
  ·subst c5
   have H1 : (if (l0_1.length : Int) = 0 then (impl_IsGame.j0 k true a0_0 l0_1) else ((impl_areSets.f k l0_1 a0_0).bind fun t236 => (impl_IsGame.j0 k (!t236) a0_0 l0_1))) = some r := by rw [if_pos rfl] at H; exact H
   clear H
   have H := H1
   clear H1
   by_cases c6 : (l0_1.length : Int) = 0
   ·rw [if_pos c6] at H
    have c6b0 : ((l0_1.length : Int) == 0) = true := beq_iff_eq.mpr c6
    have c6b1 : ((l0_1.length : Int) != 0) = false := bne_eq_false_iff_eq.mpr c6
    clear c6
    (first | rw [c6b0] | (simp only [i64_w, i32_w]; rw [c6b0]) | skip)
    have H' := Aside0.mk H
    clear H
    have hcz7_0 : w3.cell? ⟨gb234, 0, none⟩ = some (.int .i64 a0_0) := (blk_cell BK234.out 0).trans rfl
    have hcz7_1 : w3.cell? ⟨gb234, 1, none⟩ = some (.slice A0_1 l0_1.length c0_1) := (blk_cell BK234.out 1).trans rfl
    have hfz7_0 := blk_frozen BK234.out 0
    have hfz7_1 := blk_frozen BK234.out 1
    go_wp2_with (first | ((with_reducible refine gate_callee (f := 43) rfl ?_); refine goesL_ (some 9) rfl rfl Try.func43 (by kernel_rfl) rfl #[.int .i64 a0_0, .int .i64 1, .int .i64 9] rfl (by (try simp only [List.map_toArray, List.map_cons, List.map_nil]); first | done | rfl | (simp only [List.length_drop, List.length_take]; rfl)) ?_; (with_reducible refine (impl_within.calls a0_0 1 9 true _ A4.out).mono ?_); rintro e w' ⟨rfl, ⟨nd, rfl⟩⟩; refine ⟨_, rfl, ?_⟩))
    go_meet
    case rel => exact ⟨_, (true), (by first | rfl | (simp; done) | (simp [*]; done)), H', ⟨by first | omega | exact Nat.le_refl _⟩, ⟨zb BK234.out⟩, ⟨zh HB.out⟩⟩
   ·rw [if_neg c6] at H
    have c6b0 : ((l0_1.length : Int) == 0) = false := beq_eq_false_iff_ne.mpr c6
    have c6b1 : ((l0_1.length : Int) != 0) = true := bne_iff_ne.mpr c6
    have c6b2 : ¬ (l0_1 = []) := fun h_ => c6 (by rw [h_]; rfl)
    (first | rw [c6b0] | (simp only [i64_w, i32_w]; rw [c6b0]) | skip)
    replace H := Option.bind_eq_some_iff.mp H
    obtain ⟨t236, A80, H⟩ := H
    replace H : (impl_IsGame.j0 k (!t236) a0_0 l0_1) = some r := H
    have A8 := Aside0.mk A80
    clear A80
    have H' := Aside0.mk H
    clear H
    have hcz9_0 : w3.cell? ⟨gb234, 0, none⟩ = some (.int .i64 a0_0) := (blk_cell BK234.out 0).trans rfl
    have hcz9_1 : w3.cell? ⟨gb234, 1, none⟩ = some (.slice A0_1 l0_1.length c0_1) := (blk_cell BK234.out 1).trans rfl
    have hfz9_0 := blk_frozen BK234.out 0
    have hfz9_1 := blk_frozen BK234.out 1
    go_wp2_with (first | ((with_reducible refine gate_callee (f := 43) rfl ?_); refine goesL_ (some 9) rfl rfl Try.func43 (by kernel_rfl) rfl #[.int .i64 a0_0, .int .i64 1, .int .i64 9] rfl (by (try simp only [List.map_toArray, List.map_cons, List.map_nil]); first | done | rfl | (simp only [List.length_drop, List.length_take]; rfl)) ?_; (with_reducible refine (impl_within.calls a0_0 1 9 true _ A4.out).mono ?_); rintro e w' ⟨rfl, ⟨nd, rfl⟩⟩; refine ⟨_, rfl, ?_⟩) | (go_at_call 70; (with_reducible refine (impl_areSets.calls k _ _ l0_1 a0_0 t236 _ ?side1 ?side2 A8.out).mono ?_); (case side1 => repeat (first | exact (Kd.C_below HR0_1.out (zh HB.out)) | (with_reducible refine Kd.C_alloc ?_ _) | (with_reducible refine Kd.C_drewN ?_ _) | (with_reducible refine Kd.C_drew ?_))); (case side2 => exact HC0_1.out); rintro e w10 ⟨rfl, hb⟩; have n0_ := Aside0.mk (blk_below (g := gb234) (o := .cells #[.int .i64 a0_0, .slice A0_1 l0_1.length c0_1] 31 (0, 0)) (zb BK234.out) hb); have n1_ := Aside0.mk (below_step (zh HB.out) hb); clear BK234; clear HB; have BK234 := n0_; have HB := n1_; clear n0_ n1_; (try clear hb); (try clear hb2); (try clear hk); (try clear hi)))
    go_meet
    case rel => exact ⟨_, (!t236), (by first | rfl | (simp; done) | (simp [*]; done)), H', ⟨by first | omega | exact Nat.le_refl _⟩, ⟨zb BK234.out⟩, ⟨zh HB.out⟩⟩
  ·replace c5 := Bool.eq_false_iff.mpr c5
   subst c5
   have H1 : (impl_IsGame.j0 k true a0_0 l0_1) = some r := by rw [if_neg (show ¬ (false = true) by decide)] at H; exact H
   clear H
   have H := H1
   clear H1
   have H' := Aside0.mk H
   clear H
   have hcz11_0 : w3.cell? ⟨gb234, 0, none⟩ = some (.int .i64 a0_0) := (blk_cell BK234.out 0).trans rfl
   have hcz11_1 : w3.cell? ⟨gb234, 1, none⟩ = some (.slice A0_1 l0_1.length c0_1) := (blk_cell BK234.out 1).trans rfl
   have hfz11_0 := blk_frozen BK234.out 0
   have hfz11_1 := blk_frozen BK234.out 1
   go_wp2_with (first | ((with_reducible refine gate_callee (f := 43) rfl ?_); refine goesL_ (some 9) rfl rfl Try.func43 (by kernel_rfl) rfl #[.int .i64 a0_0, .int .i64 1, .int .i64 9] rfl (by (try simp only [List.map_toArray, List.map_cons, List.map_nil]); first | done | rfl | (simp only [List.length_drop, List.length_take]; rfl)) ?_; (with_reducible refine (impl_within.calls a0_0 1 9 false _ A4.out).mono ?_); rintro e w' ⟨rfl, ⟨nd, rfl⟩⟩; refine ⟨_, rfl, ?_⟩))
   go_meet
   case rel => exact ⟨_, (true), (by first | rfl | (simp; done) | (simp [*]; done)), H', ⟨by first | omega | exact Nat.le_refl _⟩, ⟨zb BK234.out⟩, ⟨zh HB.out⟩⟩
 case rest =>
  clear HC2
  try clear p2
  try clear c4
  try clear c5
  try clear c6
  try clear c6b0
  try clear c6b1
  try clear c6b2
  try clear hcz11_0
  try clear hcz11_1
  try clear hcz7_0
  try clear hcz7_1
  try clear hcz9_0
  try clear hcz9_1
  try clear hfz11_0
  try clear hfz11_1
  try clear hfz7_0
  try clear hfz7_1
  try clear hfz9_0
  try clear hfz9_1
  obtain ⟨kq, x24_1, rfl, HA, HJ1, BK234, HB⟩ := hcut
  cases kq with
  | zero => exact absurd HA.out (by simp [impl_IsGame.j0])
  | succ kj1 =>
   have H := HA.out
   clear HA
   simp only [impl_IsGame.j0] at H
   by_cases c12 : x24_1 = true
   ·subst c12
    have H1 : (some false) = some r := by rw [if_pos rfl] at H; exact H
    clear H
    have H := H1
    clear H1
    obtain rfl := Option.some.inj H
    go_wp2
    go_ret
    exact ⟨by first | rfl | (simp [*, errW_none, errW_some] <;> rfl), zh HB.out⟩
   replace c12 := Bool.eq_false_iff.mpr c12
   subst c12
   have H1 : (impl_IsGame.l0 kj1 l0_1 (l0_1.length : Int) 0 a0_0 l0_1) = some r := by rw [if_neg (show ¬ (false = true) by decide)] at H; exact H
   clear H
   have H := H1
   clear H1
   have H' := Aside0.mk H
   clear H
   have hcz13_0 : wc.cell? ⟨gb234, 0, none⟩ = some (.int .i64 a0_0) := (blk_cell BK234.out 0).trans rfl
   have hcz13_1 : wc.cell? ⟨gb234, 1, none⟩ = some (.slice A0_1 l0_1.length c0_1) := (blk_cell BK234.out 1).trans rfl
   have hfz13_0 := blk_frozen BK234.out 0
   have hfz13_1 := blk_frozen BK234.out 1
   go_wp2
   go_loopg [28] kj1 (fun kq v28 w' => ∃ (x28_2 : Int), v28 = .int .i64 x28_2 ∧ Aside0 (impl_IsGame.l0 kq l0_1 (l0_1.length : Int) x28_2 a0_0 l0_1 = some r) ∧ Aside0 (kq ≤ kj1) ∧ Aside0 (w'.heap[gb234]? = some (.cells #[.int .i64 a0_0, (.slice A0_1 l0_1.length c0_1)] 31 (0, 0))) ∧ Aside0 (Below w.heap.size w w'))
   case atStart => exact ⟨(0), (by first | rfl | (simp; done) | (simp [*]; done)), H', ⟨Nat.le_refl _⟩, ⟨zb BK234.out⟩, ⟨zh HB.out⟩⟩
   case round =>
    clear H'
    try clear c1
    try clear p2
    try clear c4
    try clear c5
    try clear c6
    try clear c6b0
    try clear c6b1
    try clear c6b2
    try clear c12
    try clear hcz11_0
    try clear hcz11_1
    try clear hcz13_0
    try clear hcz13_1
    try clear hcz7_0
    try clear hcz7_1
    try clear hcz9_0
    try clear hcz9_1
    try clear hfz11_0
    try clear hfz11_1
    try clear hfz13_0
    try clear hfz13_1
    try clear hfz7_0
    try clear hfz7_1
    try clear hfz9_0
    try clear hfz9_1
    try clear p2
    obtain ⟨x28_2, rfl, HA, HK2, BK234, HB⟩ := hrel
    cases gk with
    | zero => exact absurd HA.out (by simp [impl_IsGame.l0])
    | succ k2 =>
     have H := HA.out
     clear HA
     simp only [impl_IsGame.l0] at H
     by_cases c14 : x28_2 < (l0_1.length : Int)
     rotate_left
     ·rw [if_neg c14] at H
      have c14b0 : decide (x28_2 < (l0_1.length : Int)) = false := decide_eq_false c14
      clear c14
      obtain rfl := Option.some.inj H
      go_wp2
      go_ret
      exact ⟨by first | rfl | (simp [*, errW_none, errW_some] <;> rfl), zh HB.out⟩
     rw [if_pos c14] at H
     have c14b0 : decide (x28_2 < (l0_1.length : Int)) = true := decide_eq_true c14
     clear c14
     by_cases c15 : 0 ≤ x28_2
     rotate_left
     ·rw [if_neg c15] at H
      exact absurd H (by simp)
     rw [if_pos c15] at H
     have c15b0 : decide (0 ≤ x28_2) = true := decide_eq_true c15
     clear c15
     by_cases c16 : x28_2 < (l0_1.length : Int)
     rotate_left
     ·rw [if_neg c16] at H
      exact absurd H (by simp)
     rw [if_pos c16] at H
     have c16b0 : decide (x28_2 < (l0_1.length : Int)) = true := decide_eq_true c16
     clear c16
     have HC17 := Aside0.mk H
     clear H
     have p237 : 0 ≤ (x28_2 : Int) := of_decide_eq_true (by first | (with_reducible assumption) | assumption)
     have q237 : x28_2 < (l0_1.length : Int) := of_decide_eq_true (by first | (with_reducible assumption) | assumption)
     obtain ⟨ad237, A237_0, c237_0, e237, hx237_0, hl237_0, hi237_0⟩ := at_L1 HR0_1.out x28_2 p237 q237
     cases e237
     replace hx237_0 := (HB.out.cell (World.block_lt_of_cell? w _ hx237_0)).trans hx237_0
     have HR237_0 := Aside0.mk hi237_0
     have HC237_0 := Aside0.mk hl237_0
     clear hi237_0 hl237_0
     replace p237 := eq_true p237
     replace q237 := eq_true q237
     go_upto_region 6 with (fail)
     go_cut [45] (fun v45 wc => ∃ (kq : Nat) (x45_16 : Bool), v45 = .bool x45_16 ∧ Aside0 (impl_IsGame.j2 kq x28_2 (rd_L1 l0_1 x28_2) l0_1 (l0_1.length : Int) x28_2 x45_16 a0_0 l0_1 = some r) ∧ Aside0 (kq ≤ k2) ∧ Aside0 (wc.heap[gb234]? = some (.cells #[.int .i64 a0_0, (.slice (some ad237) l0_1.length c0_1)] 31 (0, 0))) ∧ Aside0 (Below w.heap.size w wc))
     case first =>
      have H := HC17.out
      clear HC17
      by_cases c18 : x28_2 > 0
      ·rw [if_pos c18] at H
       have c18b0 : decide (0 < x28_2) = true := decide_eq_true c18
       clear c18
       (first | rw [c18b0] | (simp only [i64_w, i32_w]; rw [c18b0]) | skip)
       obtain ⟨ji19, hji19⟩ : ∃ j_ : Int, (wrap64 (x28_2 - 1)) = j_ := ⟨_, rfl⟩
       replace H : (if 0 ≤ (ji19) then (if (ji19) < (l0_1.length : Int) then ((slices_Compare_int_int.f k2 (rd_L1 l0_1 (ji19)) (rd_L1 l0_1 x28_2)).bind fun t239 => (impl_IsGame.j2 k2 x28_2 (rd_L1 l0_1 x28_2) l0_1 (l0_1.length : Int) x28_2 (decide (t239 ≥ 0)) a0_0 l0_1)) else (none)) else (none)) = some r := by first | (rw [hji19] at H; exact H) | (simp only [hji19] at H ⊢; exact H)
       have hji19w : (IntKind.i64.wrap (x28_2 - 1)) = ji19 := (i64_w _).trans hji19
       by_cases c20 : 0 ≤ (ji19)
       ·rw [if_pos c20] at H
        have c20b0 : decide (0 ≤ (ji19)) = true := decide_eq_true c20
        clear c20
        by_cases c21 : (ji19) < (l0_1.length : Int)
        ·rw [if_pos c21] at H
         have c21b0 : decide ((ji19) < (l0_1.length : Int)) = true := decide_eq_true c21
         clear c21
         replace H := Option.bind_eq_some_iff.mp H
         obtain ⟨t239, A220, H⟩ := H
         replace H : (impl_IsGame.j2 k2 x28_2 (rd_L1 l0_1 x28_2) l0_1 (l0_1.length : Int) x28_2 (decide (t239 ≥ 0)) a0_0 l0_1) = some r := H
         have A22 := Aside0.mk A220
         clear A220
         have H' := Aside0.mk H
         clear H
         have hcz23_0 : wr.cell? ⟨gb234, 0, none⟩ = some (.int .i64 a0_0) := (blk_cell BK234.out 0).trans rfl
         have hcz23_1 : wr.cell? ⟨gb234, 1, none⟩ = some (.slice (some ad237) l0_1.length c0_1) := (blk_cell BK234.out 1).trans rfl
         have hfz23_0 := blk_frozen BK234.out 0
         have hfz23_1 := blk_frozen BK234.out 1
         have p238 : 0 ≤ ((ji19) : Int) := of_decide_eq_true (by first | (with_reducible assumption) | assumption)
         have q238 : (ji19) < (l0_1.length : Int) := of_decide_eq_true (by first | (with_reducible assumption) | assumption)
         obtain ⟨ad238, A238_0, c238_0, e238, hx238_0, hl238_0, hi238_0⟩ := at_L1 HR0_1.out (ji19) p238 q238
         obtain rfl : ad237 = ad238 := (by injection e238)
         replace hx238_0 := (HB.out.cell (World.block_lt_of_cell? w _ hx238_0)).trans hx238_0
         have HR238_0 := Aside0.mk hi238_0
         have HC238_0 := Aside0.mk hl238_0
         clear hi238_0 hl238_0
         replace p238 := eq_true p238
         replace q238 := eq_true q238
         go_wp2_with (first | (go_at_call 71; (with_reducible refine (slices_Compare_int_int.calls k2 _ _ (rd_L1 l0_1 (ji19)) _ _ (rd_L1 l0_1 x28_2) t239 _ ?side1 ?side2 ?side3 ?side4 A22.out).mono ?_); (case side1 => repeat (first | exact (Kd.C_below HR238_0.out HB.out) | (with_reducible refine Kd.C_alloc ?_ _) | (with_reducible refine Kd.C_drewN ?_ _) | (with_reducible refine Kd.C_drew ?_))); (case side2 => exact HC238_0.out); (case side3 => repeat (first | exact (Kd.C_below HR237_0.out HB.out) | (with_reducible refine Kd.C_alloc ?_ _) | (with_reducible refine Kd.C_drewN ?_ _) | (with_reducible refine Kd.C_drew ?_))); (case side4 => exact HC237_0.out); rintro e w' ⟨rfl, ⟨nd, rfl⟩⟩))
         go_meet
         case rel => exact ⟨_, (decide (t239 ≥ 0)), (by first | rfl | (simp; done) | (simp [*]; done)), H', ⟨by have := HJ1.out; have := HK2.out; first | omega | exact Nat.le_refl _⟩, ⟨zb BK234.out⟩, ⟨zh HB.out⟩⟩
        ·rw [if_neg c21] at H
         exact absurd H (by simp)
       ·rw [if_neg c20] at H
        exact absurd H (by simp)
      ·rw [if_neg c18] at H
       have c18b0 : decide (0 < x28_2) = false := decide_eq_false c18
       clear c18
       (first | rw [c18b0] | (simp only [i64_w, i32_w]; rw [c18b0]) | skip)
       have H' := Aside0.mk H
       clear H
       go_wp2
       go_meet
       case rel => exact ⟨_, (false), (by first | rfl | (simp; done) | (simp [*]; done)), H', ⟨by have := HJ1.out; have := HK2.out; first | omega | exact Nat.le_refl _⟩, ⟨zb BK234.out⟩, ⟨zh HB.out⟩⟩
     case rest =>
      clear HC17
      try clear c1
      try clear c2
      try clear p2
      try clear q2
      try clear hx2
      try clear c4
      try clear c5
      try clear c6
      try clear c6b0
      try clear c6b1
      try clear c6b2
      try clear p6
      try clear c12
      try clear c14
      try clear c14b0
      try clear c15
      try clear c15b0
      try clear c16
      try clear c16b0
      try clear c18
      try clear c18b0
      try clear c20
      try clear c20b0
      try clear c21
      try clear c21b0
      try clear c23
      try clear p23
      try clear q23
      try clear hx23
      try clear hcz11_0
      try clear hcz11_1
      try clear hcz13_0
      try clear hcz13_1
      try clear hcz23_0
      try clear hcz23_1
      try clear hcz7_0
      try clear hcz7_1
      try clear hcz9_0
      try clear hcz9_1
      try clear hfz11_0
      try clear hfz11_1
      try clear hfz13_0
      try clear hfz13_1
      try clear hfz23_0
      try clear hfz23_1
      try clear hfz7_0
      try clear hfz7_1
      try clear hfz9_0
      try clear hfz9_1
      try clear hx237_0
      try clear hx238_0
      try clear p2
      try clear p237
      try clear p238
      try clear q237
      try clear q238
      obtain ⟨kq, x45_16, rfl, HA, HJ16, BK234, HB⟩ := hcut
      cases kq with
      | zero => exact absurd HA.out (by simp [impl_IsGame.j2])
      | succ kj16 =>
       have H := HA.out
       clear HA
       simp only [impl_IsGame.j2] at H
       by_cases c24 : x45_16 = true
       ·subst c24
        have H1 : (some false) = some r := by rw [if_pos rfl] at H; exact H
        clear H
        have H := H1
        clear H1
        obtain rfl := Option.some.inj H
        go_wp2
        go_ret
        exact ⟨by first | rfl | (simp [*, errW_none, errW_some] <;> rfl), zh HB.out⟩
       replace c24 := Bool.eq_false_iff.mpr c24
       subst c24
       have H1 : (impl_IsGame.l1 kj16 x28_2 (rd_L1 l0_1 x28_2) l0_1 (l0_1.length : Int) x28_2 l0_1 (l0_1.length : Int) 0 a0_0 l0_1) = some r := by rw [if_neg (show ¬ (false = true) by decide)] at H; exact H
       clear H
       have H := H1
       clear H1
       have H' := Aside0.mk H
       clear H
       have hcz25_0 : wc.cell? ⟨gb234, 0, none⟩ = some (.int .i64 a0_0) := (blk_cell BK234.out 0).trans rfl
       have hcz25_1 : wc.cell? ⟨gb234, 1, none⟩ = some (.slice (some ad237) l0_1.length c0_1) := (blk_cell BK234.out 1).trans rfl
       have hfz25_0 := blk_frozen BK234.out 0
       have hfz25_1 := blk_frozen BK234.out 1
       go_wp2
       go_loopg [49] kj16 (fun kq v49 w' => ∃ (x49_4 : Int), v49 = .int .i64 x49_4 ∧ Aside0 (impl_IsGame.l1 kq x28_2 (rd_L1 l0_1 x28_2) l0_1 (l0_1.length : Int) x28_2 l0_1 (l0_1.length : Int) x49_4 a0_0 l0_1 = some r) ∧ Aside0 (kq ≤ kj16) ∧ Aside0 (w'.heap[gb234]? = some (.cells #[.int .i64 a0_0, (.slice (some ad237) l0_1.length c0_1)] 31 (0, 0))) ∧ Aside0 (Below w.heap.size w w'))
       case atStart => exact ⟨(0), (by first | rfl | (simp; done) | (simp [*]; done)), H', ⟨Nat.le_refl _⟩, ⟨zb BK234.out⟩, ⟨zh HB.out⟩⟩
       case round =>
        clear H'
        try clear c1
        try clear c2
        try clear p2
        try clear q2
        try clear hx2
        try clear c4
        try clear c5
        try clear c6
        try clear c6b0
        try clear c6b1
        try clear c6b2
        try clear p6
        try clear c12
        try clear c14
        try clear c14b0
        try clear c15
        try clear c15b0
        try clear c16
        try clear c16b0
        try clear c18
        try clear c18b0
        try clear c20
        try clear c20b0
        try clear c21
        try clear c21b0
        try clear c23
        try clear p23
        try clear q23
        try clear hx23
        try clear c24
        try clear hcz11_0
        try clear hcz11_1
        try clear hcz13_0
        try clear hcz13_1
        try clear hcz23_0
        try clear hcz23_1
        try clear hcz25_0
        try clear hcz25_1
        try clear hcz7_0
        try clear hcz7_1
        try clear hcz9_0
        try clear hcz9_1
        try clear hfz11_0
        try clear hfz11_1
        try clear hfz13_0
        try clear hfz13_1
        try clear hfz23_0
        try clear hfz23_1
        try clear hfz25_0
        try clear hfz25_1
        try clear hfz7_0
        try clear hfz7_1
        try clear hfz9_0
        try clear hfz9_1
        try clear hx237_0
        try clear hx238_0
        try clear p2
        try clear p23
        try clear p237
        try clear p238
        try clear p6
        try clear q2
        try clear q23
        try clear q237
        try clear q238
        obtain ⟨x49_4, rfl, HA, HK4, BK234, HB⟩ := hrel
        cases gk with
        | zero => exact absurd HA.out (by simp [impl_IsGame.l1])
        | succ k4 =>
         have H := HA.out
         clear HA
         simp only [impl_IsGame.l1] at H
         by_cases c26 : x49_4 < (l0_1.length : Int)
         rotate_left
         ·rw [if_neg c26] at H
          have c26b0 : decide (x49_4 < (l0_1.length : Int)) = false := decide_eq_false c26
          clear c26
          have H' := Aside0.mk H
          clear H
          go_wp2
          go_roundg k4
          case measure => have := HJ1.out; have := HK2.out; have := HJ16.out; have := HK4.out; omega
          case rel => exact ⟨(wrap64 (x28_2 + 1)), (by first | rfl | (simp; done) | (simp [*]; done)), H', ⟨by have := HJ1.out; have := HK2.out; have := HJ16.out; have := HK4.out; omega⟩, ⟨zb BK234.out⟩, ⟨zh HB.out⟩⟩
         rw [if_pos c26] at H
         have c26b0 : decide (x49_4 < (l0_1.length : Int)) = true := decide_eq_true c26
         clear c26
         by_cases c27 : 0 ≤ x49_4
         rotate_left
         ·rw [if_neg c27] at H
          exact absurd H (by simp)
         rw [if_pos c27] at H
         have c27b0 : decide (0 ≤ x49_4) = true := decide_eq_true c27
         clear c27
         by_cases c28 : x49_4 < (l0_1.length : Int)
         rotate_left
         ·rw [if_neg c28] at H
          exact absurd H (by simp)
         rw [if_pos c28] at H
         have c28b0 : decide (x49_4 < (l0_1.length : Int)) = true := decide_eq_true c28
         clear c28
         by_cases c29 : x49_4 = x28_2
         ·rw [if_pos c29] at H
          have c29b0 : (x49_4 == x28_2) = true := beq_iff_eq.mpr c29
          have c29b1 : (x49_4 != x28_2) = false := bne_eq_false_iff_eq.mpr c29
          clear c29
          have H' := Aside0.mk H
          clear H
          have p240 : 0 ≤ (x49_4 : Int) := of_decide_eq_true (by first | (with_reducible assumption) | assumption)
          have q240 : x49_4 < (l0_1.length : Int) := of_decide_eq_true (by first | (with_reducible assumption) | assumption)
          obtain ⟨ad240, A240_0, c240_0, e240, hx240_0, hl240_0, hi240_0⟩ := at_L1 HR0_1.out x49_4 p240 q240
          obtain rfl : ad237 = ad240 := (by injection e240)
          replace hx240_0 := (HB.out.cell (World.block_lt_of_cell? w _ hx240_0)).trans hx240_0
          have HR240_0 := Aside0.mk hi240_0
          have HC240_0 := Aside0.mk hl240_0
          clear hi240_0 hl240_0
          replace p240 := eq_true p240
          replace q240 := eq_true q240
          go_wp2
          go_roundg k4
          case measure => have := HJ1.out; have := HK2.out; have := HJ16.out; have := HK4.out; omega
          case rel => exact ⟨(wrap64 (x49_4 + 1)), (by first | rfl | (simp; done) | (simp [*]; done)), H', ⟨by have := HJ1.out; have := HK2.out; have := HJ16.out; have := HK4.out; omega⟩, ⟨zb BK234.out⟩, ⟨zh HB.out⟩⟩
         rw [if_neg c29] at H
         have c29b0 : (x49_4 == x28_2) = false := beq_eq_false_iff_ne.mpr c29
         have c29b1 : (x49_4 != x28_2) = true := bne_iff_ne.mpr c29
         replace H := Option.bind_eq_some_iff.mp H
         obtain ⟨t241, A300, H⟩ := H
         replace H : ((impl_maskOf.f k4 (rd_L1 l0_1 x49_4)).bind fun t242 => (if (Go.bits .and .i64 t241 t242) = t242 then (some false) else (impl_IsGame.l1 k4 x28_2 (rd_L1 l0_1 x28_2) l0_1 (l0_1.length : Int) x28_2 l0_1 (l0_1.length : Int) (wrap64 (x49_4 + 1)) a0_0 l0_1))) = some r := H
         have A30 := Aside0.mk A300
         clear A300
         replace H := Option.bind_eq_some_iff.mp H
         obtain ⟨t242, A310, H⟩ := H
         replace H : (if (Go.bits .and .i64 t241 t242) = t242 then (some false) else (impl_IsGame.l1 k4 x28_2 (rd_L1 l0_1 x28_2) l0_1 (l0_1.length : Int) x28_2 l0_1 (l0_1.length : Int) (wrap64 (x49_4 + 1)) a0_0 l0_1)) = some r := H
         have A31 := Aside0.mk A310
         clear A310
         by_cases c32 : (Go.bits .and .i64 t241 t242) = t242
         ·rw [if_pos c32] at H
          have c32b0 : ((Go.bits .and .i64 t241 t242) == t242) = true := beq_iff_eq.mpr c32
          have c32b1 : ((Go.bits .and .i64 t241 t242) != t242) = false := bne_eq_false_iff_eq.mpr c32
          clear c32
          obtain rfl := Option.some.inj H
          have p240 : 0 ≤ (x49_4 : Int) := of_decide_eq_true (by first | (with_reducible assumption) | assumption)
          have q240 : x49_4 < (l0_1.length : Int) := of_decide_eq_true (by first | (with_reducible assumption) | assumption)
          obtain ⟨ad240, A240_0, c240_0, e240, hx240_0, hl240_0, hi240_0⟩ := at_L1 HR0_1.out x49_4 p240 q240
          obtain rfl : ad237 = ad240 := (by injection e240)
          replace hx240_0 := (HB.out.cell (World.block_lt_of_cell? w _ hx240_0)).trans hx240_0
          have HR240_0 := Aside0.mk hi240_0
          have HC240_0 := Aside0.mk hl240_0
          clear hi240_0 hl240_0
          replace p240 := eq_true p240
          replace q240 := eq_true q240
          go_wp2_with (first | (go_at_call 72; (with_reducible refine (impl_maskOf.calls k4 _ _ (rd_L1 l0_1 x28_2) t241 _ ?side1 ?side2 A30.out).mono ?_); (case side1 => repeat (first | exact (Kd.C_below HR237_0.out HB.out) | (with_reducible refine Kd.C_alloc ?_ _) | (with_reducible refine Kd.C_drewN ?_ _) | (with_reducible refine Kd.C_drew ?_))); (case side2 => exact HC237_0.out); rintro e w' ⟨rfl, ⟨nd, rfl⟩⟩) | (go_at_call 72; (with_reducible refine (impl_maskOf.calls k4 _ _ (rd_L1 l0_1 x49_4) t242 _ ?side1 ?side2 A31.out).mono ?_); (case side1 => repeat (first | exact (Kd.C_below HR240_0.out (zh HB.out)) | (with_reducible refine Kd.C_alloc ?_ _) | (with_reducible refine Kd.C_drewN ?_ _) | (with_reducible refine Kd.C_drew ?_))); (case side2 => exact HC240_0.out); rintro e w' ⟨rfl, ⟨nd, rfl⟩⟩))
          go_ret
          exact ⟨by first | rfl | (simp [*, errW_none, errW_some] <;> rfl), zh HB.out⟩
         rw [if_neg c32] at H
         have c32b0 : ((Go.bits .and .i64 t241 t242) == t242) = false := beq_eq_false_iff_ne.mpr c32
         have c32b1 : ((Go.bits .and .i64 t241 t242) != t242) = true := bne_iff_ne.mpr c32
         have H' := Aside0.mk H
         clear H
         have p240 : 0 ≤ (x49_4 : Int) := of_decide_eq_true (by first | (with_reducible assumption) | assumption)
         have q240 : x49_4 < (l0_1.length : Int) := of_decide_eq_true (by first | (with_reducible assumption) | assumption)
         obtain ⟨ad240, A240_0, c240_0, e240, hx240_0, hl240_0, hi240_0⟩ := at_L1 HR0_1.out x49_4 p240 q240
         obtain rfl : ad237 = ad240 := (by injection e240)
         replace hx240_0 := (HB.out.cell (World.block_lt_of_cell? w _ hx240_0)).trans hx240_0
         have HR240_0 := Aside0.mk hi240_0
         have HC240_0 := Aside0.mk hl240_0
         clear hi240_0 hl240_0
         replace p240 := eq_true p240
         replace q240 := eq_true q240
         go_wp2_with (first | (go_at_call 72; (with_reducible refine (impl_maskOf.calls k4 _ _ (rd_L1 l0_1 x28_2) t241 _ ?side1 ?side2 A30.out).mono ?_); (case side1 => repeat (first | exact (Kd.C_below HR237_0.out HB.out) | (with_reducible refine Kd.C_alloc ?_ _) | (with_reducible refine Kd.C_drewN ?_ _) | (with_reducible refine Kd.C_drew ?_))); (case side2 => exact HC237_0.out); rintro e w' ⟨rfl, ⟨nd, rfl⟩⟩) | (go_at_call 72; (with_reducible refine (impl_maskOf.calls k4 _ _ (rd_L1 l0_1 x49_4) t242 _ ?side1 ?side2 A31.out).mono ?_); (case side1 => repeat (first | exact (Kd.C_below HR240_0.out (zh HB.out)) | (with_reducible refine Kd.C_alloc ?_ _) | (with_reducible refine Kd.C_drewN ?_ _) | (with_reducible refine Kd.C_drew ?_))); (case side2 => exact HC240_0.out); rintro e w' ⟨rfl, ⟨nd, rfl⟩⟩))
         go_roundg k4
         case measure => have := HJ1.out; have := HK2.out; have := HJ16.out; have := HK4.out; omega
         case rel => exact ⟨(wrap64 (x49_4 + 1)), (by first | rfl | (simp; done) | (simp [*]; done)), H', ⟨by have := HJ1.out; have := HK2.out; have := HJ16.out; have := HK4.out; omega⟩, ⟨zb BK234.out⟩, ⟨zh HB.out⟩⟩
mutual
def impl_MakePuzzle.j0 : Nat → Int → Bool → Int → List (List Int) → Int → Option (Int × (List (S55)) × Bool)
 | 0, _, _, _, _, _ => none
 | k + 1, x1, x31, x311000, x311001, x312000 => if x31 = true then (some (0, ([] : List (S55)), false)) else ((impl_Game_votes.f k x311000 x311001).bind fun bt317 => (impl_MakePuzzle.l0 k x1 0 x312000 bt317.1 bt317.2 x311000 ([] : List (S55))))
def impl_MakePuzzle.l0 : Nat → Int → Int → Int → Int → List Bool → Int → List (S55) → Option (Int × (List (S55)) × Bool)
 | 0, _, _, _, _, _, _, _ => none
 | k + 1, x39, x40, x312000, x322000, x322001, x323000, x323001 => if x40 < x39 then (if (Int.tmod (Int.tmod (wrap64 ((wrap64 (x312000 * 193)) + 2549)) 10009) 6) = 0 then (if (x322001.length : Int) = 0 then (none) else ((impl_votes_told.f k x322000 x322001 (Int.tmod (Int.tmod (wrap64 ((wrap64 (x312000 * 193)) + 2549)) 10009) 6) (Int.tmod (Int.tmod (wrap64 ((wrap64 ((Int.tmod (wrap64 ((wrap64 (x312000 * 193)) + 2549)) 10009) * 193)) + 2549)) 10009) (x322001.length : Int))).bind fun bt323 => (if x323001.length < 5864062014805 then (impl_MakePuzzle.l0 k x39 (wrap64 (x40 + 1)) (Int.tmod (wrap64 ((wrap64 ((Int.tmod (wrap64 ((wrap64 (x312000 * 193)) + 2549)) 10009) * 193)) + 2549)) 10009) x322000 x322001 x323000 (x323001 ++ [(⟨bt323.1, bt323.2.1, bt323.2.2⟩ : S55)])) else (none)))) else (if (Int.tmod (Int.tmod (wrap64 ((wrap64 (x312000 * 193)) + 2549)) 10009) 6) = 2 then (if x322000 = 0 then (none) else ((impl_votes_told.f k x322000 x322001 (Int.tmod (Int.tmod (wrap64 ((wrap64 (x312000 * 193)) + 2549)) 10009) 6) (Int.tmod (Int.tmod (wrap64 ((wrap64 ((Int.tmod (wrap64 ((wrap64 (x312000 * 193)) + 2549)) 10009) * 193)) + 2549)) 10009) x322000)).bind fun bt329 => (if x323001.length < 5864062014805 then (impl_MakePuzzle.l0 k x39 (wrap64 (x40 + 1)) (Int.tmod (wrap64 ((wrap64 ((Int.tmod (wrap64 ((wrap64 (x312000 * 193)) + 2549)) 10009) * 193)) + 2549)) 10009) x322000 x322001 x323000 (x323001 ++ [(⟨bt329.1, bt329.2.1, bt329.2.2⟩ : S55)])) else (none)))) else (if (Int.tmod (Int.tmod (wrap64 ((wrap64 (x312000 * 193)) + 2549)) 10009) 6) = 3 then (if x322000 = 0 then (none) else ((impl_votes_told.f k x322000 x322001 (Int.tmod (Int.tmod (wrap64 ((wrap64 (x312000 * 193)) + 2549)) 10009) 6) (Int.tmod (Int.tmod (wrap64 ((wrap64 ((Int.tmod (wrap64 ((wrap64 (x312000 * 193)) + 2549)) 10009) * 193)) + 2549)) 10009) x322000)).bind fun bt335 => (if x323001.length < 5864062014805 then (impl_MakePuzzle.l0 k x39 (wrap64 (x40 + 1)) (Int.tmod (wrap64 ((wrap64 ((Int.tmod (wrap64 ((wrap64 (x312000 * 193)) + 2549)) 10009) * 193)) + 2549)) 10009) x322000 x322001 x323000 (x323001 ++ [(⟨bt335.1, bt335.2.1, bt335.2.2⟩ : S55)])) else (none)))) else ((impl_votes_told.f k x322000 x322001 (Int.tmod (Int.tmod (wrap64 ((wrap64 (x312000 * 193)) + 2549)) 10009) 6) 0).bind fun bt341 => (if x323001.length < 5864062014805 then (impl_MakePuzzle.l0 k x39 (wrap64 (x40 + 1)) (Int.tmod (wrap64 ((wrap64 (x312000 * 193)) + 2549)) 10009) x322000 x322001 x323000 (x323001 ++ [(⟨bt341.1, bt341.2.1, bt341.2.2⟩ : S55)])) else (none)))))) else (some (x323000, x323001, true))
end
def impl_MakePuzzle.f (k : Nat) (a0_0 : Int) (l0_1 : List (List Int)) (a1 : Int) (a2 : Int) : Option (Int × (List (S55)) × Bool) := (impl_IsGame.f k a0_0 l0_1).bind fun t313 => (if t313 = true then ((impl_isHidden.f a0_0).bind fun t314 => (if t314 = true then ((impl_within.f a1 0 8).bind fun t315 => (if t315 = true then ((impl_within.f a2 0 9999).bind fun t316 => (impl_MakePuzzle.j0 k a1 (!t316) a0_0 l0_1 a2)) else (impl_MakePuzzle.j0 k a1 true a0_0 l0_1 a2))) else (impl_MakePuzzle.j0 k a1 true a0_0 l0_1 a2))) else (impl_MakePuzzle.j0 k a1 true a0_0 l0_1 a2))
def impl_MakePuzzle.T15 : Bool × List (List Nat × List Nat) := (true, [([], []), ([0], [0]), ([], []), ([], []), ([], []), ([2, 3, 4], [2, 3, 4]), ([5], [5]), ([1, 6, 5], [1, 6]), ([0, 1, 2, 3, 4, 5, 6, 7], []), ([8, 7, 7, 0, 1, 2, 3, 4, 5, 6, 7], [7, 8])])
def impl_MakePuzzle.B15 : List Nat := [0, 1, 0, 0, 0, 28, 60, 127, 255, 511]
theorem impl_MakePuzzle.tab15 : rtab .any (opsOf Try.f12 15) = impl_MakePuzzle.T15 := by kernel_rfl
theorem impl_MakePuzzle.bits15 : waitsOk impl_MakePuzzle.T15.2 impl_MakePuzzle.B15 = true := by kernel_rfl
set_option maxHeartbeats 8000000 in
set_option maxRecDepth 100000 in
theorem impl_MakePuzzle.calls (k : Nat) (a0_0 : Int) (A0_1 : Option Addr) (c0_1 : Nat) (l0_1 : List (List Int)) (a1 : Int) (a2 : Int) (r1 : Int) (r2 : List (S55)) (r3 : Bool) (w : World) (hr0_1 : Kd.C (Kd.slice 3 (Kd.int .i64)) w A0_1 l0_1.length l0_1) (hc0_1 : l0_1.length ≤ c0_1) (h : impl_MakePuzzle.f k a0_0 l0_1 a1 a2 = some (r1, r2, r3)) :
  Calls Try.prog 12 #[.agg #[.int .i64 a0_0, .slice A0_1 l0_1.length c0_1], .int .i64 a1, .int .i64 a2] w fun e w' => ∃ v1_ : Value, e = .returned (.tuple #[.agg #[.int .i64 r1, v1_], .bool r3]) ∧ Kd.R k55 55 w' w.heap.size (fun _ => True) v1_ r2 ∧ Below w.heap.size w w' := by
 have hu31 := Try.underlying31
 have hu28 := Try.underlying28
 have hu62 := Try.underlying62
 have HR0_1 := Aside0.mk hr0_1
 have HC0_1 := Aside0.mk hc0_1
 clear hr0_1 hc0_1
 have HB := Aside0.mk (Below.refl w.heap.size w)
 have H : ((impl_IsGame.f k a0_0 l0_1).bind fun t313 => (if t313 = true then ((impl_isHidden.f a0_0).bind fun t314 => (if t314 = true then ((impl_within.f a1 0 8).bind fun t315 => (if t315 = true then ((impl_within.f a2 0 9999).bind fun t316 => (impl_MakePuzzle.j0 k a1 (!t316) a0_0 l0_1 a2)) else (impl_MakePuzzle.j0 k a1 true a0_0 l0_1 a2))) else (impl_MakePuzzle.j0 k a1 true a0_0 l0_1 a2))) else (impl_MakePuzzle.j0 k a1 true a0_0 l0_1 a2))) = some (r1, r2, r3) := h
 clear h
 have HC4 := Aside0.mk H
 clear H
 go_enter Try.func12, Try.ntmps12
 go_upto_region 1 with (first | ((with_reducible refine gate_dst (N := 3) rfl ?_); refine box_event ?hg (N := 3) ?hd (cs := #[.int .i64 a0_0, .slice A0_1 l0_1.length c0_1]) (t := 31) ?hr ?_; (case hd => rfl); (case hg => rfl); (case hr => first | (go_simp; done) | (go_simp; rfl)); intro gb310 hg w5 hbox hb; have n2_ := Aside0.mk ((by rw [hg]; exact (below_size (zh HB.out)) : w.heap.size ≤ gb310)); replace HB := Aside0.mk (below_step (zh HB.out) hb); have BK310 := Aside0.mk hbox; have GW310 := n2_; have GE310 := n2_; clear n2_ hb hbox hg) | ((with_reducible refine gate_dst (N := 5) rfl ?_); refine box_event ?hg (N := 5) ?hd (cs := #[.int .i64 a2]) (t := 3) ?hr ?_; (case hd => rfl); (case hg => rfl); (case hr => first | (go_simp; done) | (go_simp; rfl)); intro gb311 hg w6 hbox hb; have n0_ := Aside0.mk (blk_below (g := gb310) (o := .cells #[.int .i64 a0_0, .slice A0_1 l0_1.length c0_1] 31 (0, 0)) (zb BK310.out) hb); have n1_ := Aside0.mk (below_step (zh HB.out) hb); have n2_ := Aside0.mk (hbox); have n3_ := Aside0.mk ((by rw [hg]; exact (below_size (zh HB.out)) : w.heap.size ≤ gb311)); have n4_ := Aside0.mk ((by rw [hg]; exact (below_size (zh HB.out)) : w.heap.size ≤ gb311)); have n5_ := Aside0.mk ((by rw [hg]; exact Nat.ne_of_lt (blk_lt (g := gb310) (o := .cells #[.int .i64 a0_0, .slice A0_1 l0_1.length c0_1] 31 (0, 0)) (zb BK310.out)) : gb310 ≠ gb311)); have n6_ := Aside0.mk ((by rw [hg]; exact Nat.ne_of_gt (blk_lt (g := gb310) (o := .cells #[.int .i64 a0_0, .slice A0_1 l0_1.length c0_1] 31 (0, 0)) (zb BK310.out)) : gb311 ≠ gb310)); clear BK310; clear HB; have BK310 := n0_; have HB := n1_; have BK311 := n2_; have GW311 := n3_; have GE311 := n4_; have NB310_311 := n5_; have NB311_310 := n6_; clear n0_ n1_ n2_ n3_ n4_ n5_ n6_; clear hb hbox hg) | ((with_reducible refine gate_dst (N := 6) rfl ?_); refine box_event ?hg (N := 6) ?hd (cs := #[.int .i64 0, .slice none 0 0]) (t := 28) ?hr ?_; (case hd => rfl); (case hg => rfl); (case hr => first | (go_simp; done) | (go_simp; rfl)); intro gb312 hg w7 hbox hb; have n0_ := Aside0.mk (blk_below (g := gb310) (o := .cells #[.int .i64 a0_0, .slice A0_1 l0_1.length c0_1] 31 (0, 0)) (zb BK310.out) hb); have n1_ := Aside0.mk (blk_below (g := gb311) (o := .cells #[.int .i64 a2] 3 (0, 0)) (zb BK311.out) hb); have n2_ := Aside0.mk (below_step (zh HB.out) hb); have n3_ := Aside0.mk (hbox); have n4_ := Aside0.mk ((by rw [hg]; exact (below_size (zh HB.out)) : w.heap.size ≤ gb312)); have n5_ := Aside0.mk ((by rw [hg]; exact (below_size (zh HB.out)) : w.heap.size ≤ gb312)); have n6_ := Aside0.mk ((by rw [hg]; exact Nat.ne_of_lt (blk_lt (g := gb310) (o := .cells #[.int .i64 a0_0, .slice A0_1 l0_1.length c0_1] 31 (0, 0)) (zb BK310.out)) : gb310 ≠ gb312)); have n7_ := Aside0.mk ((by rw [hg]; exact Nat.ne_of_gt (blk_lt (g := gb310) (o := .cells #[.int .i64 a0_0, .slice A0_1 l0_1.length c0_1] 31 (0, 0)) (zb BK310.out)) : gb312 ≠ gb310)); have n8_ := Aside0.mk ((by rw [hg]; exact Nat.ne_of_lt (blk_lt (g := gb311) (o := .cells #[.int .i64 a2] 3 (0, 0)) (zb BK311.out)) : gb311 ≠ gb312)); have n9_ := Aside0.mk ((by rw [hg]; exact Nat.ne_of_gt (blk_lt (g := gb311) (o := .cells #[.int .i64 a2] 3 (0, 0)) (zb BK311.out)) : gb312 ≠ gb311)); clear BK310; clear BK311; clear HB; have BK310 := n0_; have BK311 := n1_; have HB := n2_; have BK312 := n3_; have GW312 := n4_; have GE312 := n5_; have NB310_312 := n6_; have NB312_310 := n7_; have NB311_312 := n8_; have NB312_311 := n9_; clear n0_ n1_ n2_ n3_ n4_ n5_ n6_ n7_ n8_ n9_; clear hb hbox hg))
 (try simp only [Act.put, List.setIfInBounds_toArray, List.set_cons_zero, List.set_cons_succ])
 go_cut [31] (fun v31 wc => ∃ (kq : Nat) (x31_3 : Bool), v31 = .bool x31_3 ∧ Aside0 (impl_MakePuzzle.j0 kq a1 x31_3 a0_0 l0_1 a2 = some (r1, r2, r3)) ∧ Aside0 (kq ≤ k) ∧ Aside0 (wc.heap[gb310]? = some (.cells #[.int .i64 a0_0, (.slice A0_1 l0_1.length c0_1)] 31 (0, 0))) ∧ Aside0 (wc.heap[gb311]? = some (.cells #[.int .i64 a2] 3 (0, 0))) ∧ Aside0 (wc.heap[gb312]? = some (.cells #[.int .i64 0, (.slice none 0 0)] 28 (0, 0))) ∧ Aside0 (Below w.heap.size w wc))
 case first =>
  have H := HC4.out
  clear HC4
  replace H := Option.bind_eq_some_iff.mp H
  obtain ⟨t313, A80, H⟩ := H
  replace H : (if t313 = true then ((impl_isHidden.f a0_0).bind fun t314 => (if t314 = true then ((impl_within.f a1 0 8).bind fun t315 => (if t315 = true then ((impl_within.f a2 0 9999).bind fun t316 => (impl_MakePuzzle.j0 k a1 (!t316) a0_0 l0_1 a2)) else (impl_MakePuzzle.j0 k a1 true a0_0 l0_1 a2))) else (impl_MakePuzzle.j0 k a1 true a0_0 l0_1 a2))) else (impl_MakePuzzle.j0 k a1 true a0_0 l0_1 a2)) = some (r1, r2, r3) := H
  have A8 := Aside0.mk A80
  clear A80
  by_cases c9 : t313 = true
  ·subst c9
   have H1 : ((impl_isHidden.f a0_0).bind fun t314 => (if t314 = true then ((impl_within.f a1 0 8).bind fun t315 => (if t315 = true then ((impl_within.f a2 0 9999).bind fun t316 => (impl_MakePuzzle.j0 k a1 (!t316) a0_0 l0_1 a2)) else (impl_MakePuzzle.j0 k a1 true a0_0 l0_1 a2))) else (impl_MakePuzzle.j0 k a1 true a0_0 l0_1 a2))) = some (r1, r2, r3) := by rw [if_pos rfl] at H; exact H
   clear H
   have H := H1
   clear H1
   replace H := Option.bind_eq_some_iff.mp H
   obtain ⟨t314, A100, H⟩ := H
   replace H : (if t314 = true then ((impl_within.f a1 0 8).bind fun t315 => (if t315 = true then ((impl_within.f a2 0 9999).bind fun t316 => (impl_MakePuzzle.j0 k a1 (!t316) a0_0 l0_1 a2)) else (impl_MakePuzzle.j0 k a1 true a0_0 l0_1 a2))) else (impl_MakePuzzle.j0 k a1 true a0_0 l0_1 a2)) = some (r1, r2, r3) := H
   have A10 := Aside0.mk A100
   clear A100
   by_cases c11 : t314 = true
   ·subst c11
    have H1 : ((impl_within.f a1 0 8).bind fun t315 => (if t315 = true then ((impl_within.f a2 0 9999).bind fun t316 => (impl_MakePuzzle.j0 k a1 (!t316) a0_0 l0_1 a2)) else (impl_MakePuzzle.j0 k a1 true a0_0 l0_1 a2))) = some (r1, r2, r3) := by rw [if_pos rfl] at H; exact H
    clear H
    have H := H1
    clear H1
    replace H := Option.bind_eq_some_iff.mp H
    obtain ⟨t315, A120, H⟩ := H
    replace H : (if t315 = true then ((impl_within.f a2 0 9999).bind fun t316 => (impl_MakePuzzle.j0 k a1 (!t316) a0_0 l0_1 a2)) else (impl_MakePuzzle.j0 k a1 true a0_0 l0_1 a2)) = some (r1, r2, r3) := H
    have A12 := Aside0.mk A120
    clear A120
    by_cases c13 : t315 = true
    ·subst c13
     have H1 : ((impl_within.f a2 0 9999).bind fun t316 => (impl_MakePuzzle.j0 k a1 (!t316) a0_0 l0_1 a2)) = some (r1, r2, r3) := by rw [if_pos rfl] at H; exact H
     clear H
     have H := H1
     clear H1
     replace H := Option.bind_eq_some_iff.mp H
     obtain ⟨t316, A140, H⟩ := H
     replace H : (impl_MakePuzzle.j0 k a1 (!t316) a0_0 l0_1 a2) = some (r1, r2, r3) := H
     have A14 := Aside0.mk A140
     clear A140
     have H' := Aside0.mk H
     clear H
     have hnb15 := NB310_311.out
     have hnc15 := NB311_310.out
     have hnb16 := NB310_312.out
     have hnc16 := NB312_310.out
     have hcz17_0 : w7.cell? ⟨gb310, 0, none⟩ = some (.int .i64 a0_0) := (blk_cell BK310.out 0).trans rfl
     have hcz17_1 : w7.cell? ⟨gb310, 1, none⟩ = some (.slice A0_1 l0_1.length c0_1) := (blk_cell BK310.out 1).trans rfl
     have hfz17_0 := blk_frozen BK310.out 0
     have hfz17_1 := blk_frozen BK310.out 1
     go_wp2_with (first | ((with_reducible refine gate_callee (f := 41) rfl ?_); refine goesL_ (some 14) rfl rfl Try.func41 (by kernel_rfl) rfl #[.agg #[.int .i64 a0_0, .slice A0_1 l0_1.length c0_1]] rfl (by (try simp only [List.map_toArray, List.map_cons, List.map_nil]); first | done | rfl | (simp only [List.length_drop, List.length_take]; rfl)) ?_; (with_reducible refine (impl_IsGame.calls k a0_0 _ _ l0_1 true _ ?side1 ?side2 A8.out).mono ?_); (case side1 => repeat (first | exact (Kd.C_below HR0_1.out HB.out) | (with_reducible refine Kd.C_alloc ?_ _) | (with_reducible refine Kd.C_drewN ?_ _) | (with_reducible refine Kd.C_drew ?_))); (case side2 => exact HC0_1.out); rintro e w18 ⟨rfl, hb⟩; refine ⟨_, rfl, ?_⟩; have n0_ := Aside0.mk (blk_below (g := gb310) (o := .cells #[.int .i64 a0_0, .slice A0_1 l0_1.length c0_1] 31 (0, 0)) (zb BK310.out) hb); have n1_ := Aside0.mk (blk_below (g := gb311) (o := .cells #[.int .i64 a2] 3 (0, 0)) (zb BK311.out) hb); have n2_ := Aside0.mk (blk_below (g := gb312) (o := .cells #[.int .i64 0, .slice none 0 0] 28 (0, 0)) (zb BK312.out) hb); have n3_ := Aside0.mk (below_step (zh HB.out) hb); clear BK310; clear BK311; clear BK312; clear HB; have BK310 := n0_; have BK311 := n1_; have BK312 := n2_; have HB := n3_; clear n0_ n1_ n2_ n3_; (try clear hb); (try clear hb2); (try clear hk); (try clear hi); have hcz19_0 : w18.cell? ⟨gb310, 0, none⟩ = some (.int .i64 a0_0) := (blk_cell BK310.out 0).trans rfl; have hcz19_1 : w18.cell? ⟨gb310, 1, none⟩ = some (.slice A0_1 l0_1.length c0_1) := (blk_cell BK310.out 1).trans rfl; have hfz19_0 := blk_frozen BK310.out 0; have hfz19_1 := blk_frozen BK310.out 1) | (go_at_call 42; (with_reducible refine (impl_isHidden.calls a0_0 true _ A10.out).mono ?_); rintro e w' ⟨rfl, ⟨nd, rfl⟩⟩) | (go_at_call 43; (with_reducible refine (impl_within.calls a1 0 8 true _ A12.out).mono ?_); rintro e w' ⟨rfl, ⟨nd, rfl⟩⟩; have hnb20 := NB311_312.out; have hnc20 := NB312_311.out; have hcz21_0 : w18.cell? ⟨gb311, 0, none⟩ = some (.int .i64 a2) := (blk_cell BK311.out 0).trans rfl; have hfz21_0 := blk_frozen BK311.out 0) | (go_at_call 43; (with_reducible refine (impl_within.calls a2 0 9999 t316 _ A14.out).mono ?_); rintro e w' ⟨rfl, ⟨nd, rfl⟩⟩))
     go_meet
     case rel => exact ⟨_, (!t316), (by first | rfl | (simp; done) | (simp [*]; done)), H', ⟨by first | omega | exact Nat.le_refl _⟩, ⟨zb BK310.out⟩, ⟨zb BK311.out⟩, ⟨zb BK312.out⟩, ⟨zh HB.out⟩⟩
    ·replace c13 := Bool.eq_false_iff.mpr c13
     subst c13
     have H1 : (impl_MakePuzzle.j0 k a1 true a0_0 l0_1 a2) = some (r1, r2, r3) := by rw [if_neg (show ¬ (false = true) by decide)] at H; exact H
     clear H
     have H := H1
     clear H1
     have H' := Aside0.mk H
     clear H
     have hnb22 := NB310_311.out
     have hnc22 := NB311_310.out
     have hnb23 := NB310_312.out
     have hnc23 := NB312_310.out
     have hcz24_0 : w7.cell? ⟨gb310, 0, none⟩ = some (.int .i64 a0_0) := (blk_cell BK310.out 0).trans rfl
     have hcz24_1 : w7.cell? ⟨gb310, 1, none⟩ = some (.slice A0_1 l0_1.length c0_1) := (blk_cell BK310.out 1).trans rfl
     have hfz24_0 := blk_frozen BK310.out 0
     have hfz24_1 := blk_frozen BK310.out 1
     go_wp2_with (first | ((with_reducible refine gate_callee (f := 41) rfl ?_); refine goesL_ (some 14) rfl rfl Try.func41 (by kernel_rfl) rfl #[.agg #[.int .i64 a0_0, .slice A0_1 l0_1.length c0_1]] rfl (by (try simp only [List.map_toArray, List.map_cons, List.map_nil]); first | done | rfl | (simp only [List.length_drop, List.length_take]; rfl)) ?_; (with_reducible refine (impl_IsGame.calls k a0_0 _ _ l0_1 true _ ?side1 ?side2 A8.out).mono ?_); (case side1 => repeat (first | exact (Kd.C_below HR0_1.out HB.out) | (with_reducible refine Kd.C_alloc ?_ _) | (with_reducible refine Kd.C_drewN ?_ _) | (with_reducible refine Kd.C_drew ?_))); (case side2 => exact HC0_1.out); rintro e w25 ⟨rfl, hb⟩; refine ⟨_, rfl, ?_⟩; have n0_ := Aside0.mk (blk_below (g := gb310) (o := .cells #[.int .i64 a0_0, .slice A0_1 l0_1.length c0_1] 31 (0, 0)) (zb BK310.out) hb); have n1_ := Aside0.mk (blk_below (g := gb311) (o := .cells #[.int .i64 a2] 3 (0, 0)) (zb BK311.out) hb); have n2_ := Aside0.mk (blk_below (g := gb312) (o := .cells #[.int .i64 0, .slice none 0 0] 28 (0, 0)) (zb BK312.out) hb); have n3_ := Aside0.mk (below_step (zh HB.out) hb); clear BK310; clear BK311; clear BK312; clear HB; have BK310 := n0_; have BK311 := n1_; have BK312 := n2_; have HB := n3_; clear n0_ n1_ n2_ n3_; (try clear hb); (try clear hb2); (try clear hk); (try clear hi); have hcz26_0 : w25.cell? ⟨gb310, 0, none⟩ = some (.int .i64 a0_0) := (blk_cell BK310.out 0).trans rfl; have hcz26_1 : w25.cell? ⟨gb310, 1, none⟩ = some (.slice A0_1 l0_1.length c0_1) := (blk_cell BK310.out 1).trans rfl; have hfz26_0 := blk_frozen BK310.out 0; have hfz26_1 := blk_frozen BK310.out 1) | (go_at_call 42; (with_reducible refine (impl_isHidden.calls a0_0 true _ A10.out).mono ?_); rintro e w' ⟨rfl, ⟨nd, rfl⟩⟩) | (go_at_call 43; (with_reducible refine (impl_within.calls a1 0 8 false _ A12.out).mono ?_); rintro e w' ⟨rfl, ⟨nd, rfl⟩⟩))
     go_meet
     case rel => exact ⟨_, (true), (by first | rfl | (simp; done) | (simp [*]; done)), H', ⟨by first | omega | exact Nat.le_refl _⟩, ⟨zb BK310.out⟩, ⟨zb BK311.out⟩, ⟨zb BK312.out⟩, ⟨zh HB.out⟩⟩
   ·replace c11 := Bool.eq_false_iff.mpr c11
    subst c11
    have H1 : (impl_MakePuzzle.j0 k a1 true a0_0 l0_1 a2) = some (r1, r2, r3) := by rw [if_neg (show ¬ (false = true) by decide)] at H; exact H
    clear H
    have H := H1
    clear H1
    have H' := Aside0.mk H
    clear H
    have hnb27 := NB310_311.out
    have hnc27 := NB311_310.out
    have hnb28 := NB310_312.out
    have hnc28 := NB312_310.out
    have hcz29_0 : w7.cell? ⟨gb310, 0, none⟩ = some (.int .i64 a0_0) := (blk_cell BK310.out 0).trans rfl
    have hcz29_1 : w7.cell? ⟨gb310, 1, none⟩ = some (.slice A0_1 l0_1.length c0_1) := (blk_cell BK310.out 1).trans rfl
    have hfz29_0 := blk_frozen BK310.out 0
    have hfz29_1 := blk_frozen BK310.out 1
    go_wp2_with (first | ((with_reducible refine gate_callee (f := 41) rfl ?_); refine goesL_ (some 14) rfl rfl Try.func41 (by kernel_rfl) rfl #[.agg #[.int .i64 a0_0, .slice A0_1 l0_1.length c0_1]] rfl (by (try simp only [List.map_toArray, List.map_cons, List.map_nil]); first | done | rfl | (simp only [List.length_drop, List.length_take]; rfl)) ?_; (with_reducible refine (impl_IsGame.calls k a0_0 _ _ l0_1 true _ ?side1 ?side2 A8.out).mono ?_); (case side1 => repeat (first | exact (Kd.C_below HR0_1.out HB.out) | (with_reducible refine Kd.C_alloc ?_ _) | (with_reducible refine Kd.C_drewN ?_ _) | (with_reducible refine Kd.C_drew ?_))); (case side2 => exact HC0_1.out); rintro e w30 ⟨rfl, hb⟩; refine ⟨_, rfl, ?_⟩; have n0_ := Aside0.mk (blk_below (g := gb310) (o := .cells #[.int .i64 a0_0, .slice A0_1 l0_1.length c0_1] 31 (0, 0)) (zb BK310.out) hb); have n1_ := Aside0.mk (blk_below (g := gb311) (o := .cells #[.int .i64 a2] 3 (0, 0)) (zb BK311.out) hb); have n2_ := Aside0.mk (blk_below (g := gb312) (o := .cells #[.int .i64 0, .slice none 0 0] 28 (0, 0)) (zb BK312.out) hb); have n3_ := Aside0.mk (below_step (zh HB.out) hb); clear BK310; clear BK311; clear BK312; clear HB; have BK310 := n0_; have BK311 := n1_; have BK312 := n2_; have HB := n3_; clear n0_ n1_ n2_ n3_; (try clear hb); (try clear hb2); (try clear hk); (try clear hi); have hcz31_0 : w30.cell? ⟨gb310, 0, none⟩ = some (.int .i64 a0_0) := (blk_cell BK310.out 0).trans rfl; have hcz31_1 : w30.cell? ⟨gb310, 1, none⟩ = some (.slice A0_1 l0_1.length c0_1) := (blk_cell BK310.out 1).trans rfl; have hfz31_0 := blk_frozen BK310.out 0; have hfz31_1 := blk_frozen BK310.out 1) | (go_at_call 42; (with_reducible refine (impl_isHidden.calls a0_0 false _ A10.out).mono ?_); rintro e w' ⟨rfl, ⟨nd, rfl⟩⟩))
    go_meet
    case rel => exact ⟨_, (true), (by first | rfl | (simp; done) | (simp [*]; done)), H', ⟨by first | omega | exact Nat.le_refl _⟩, ⟨zb BK310.out⟩, ⟨zb BK311.out⟩, ⟨zb BK312.out⟩, ⟨zh HB.out⟩⟩
  ·replace c9 := Bool.eq_false_iff.mpr c9
   subst c9
   have H1 : (impl_MakePuzzle.j0 k a1 true a0_0 l0_1 a2) = some (r1, r2, r3) := by rw [if_neg (show ¬ (false = true) by decide)] at H; exact H
   clear H
   have H := H1
   clear H1
   have H' := Aside0.mk H
   clear H
   have hnb32 := NB310_311.out
   have hnc32 := NB311_310.out
   have hnb33 := NB310_312.out
   have hnc33 := NB312_310.out
   have hcz34_0 : w7.cell? ⟨gb310, 0, none⟩ = some (.int .i64 a0_0) := (blk_cell BK310.out 0).trans rfl
   have hcz34_1 : w7.cell? ⟨gb310, 1, none⟩ = some (.slice A0_1 l0_1.length c0_1) := (blk_cell BK310.out 1).trans rfl
   have hfz34_0 := blk_frozen BK310.out 0
   have hfz34_1 := blk_frozen BK310.out 1
   go_wp2_with (first | ((with_reducible refine gate_callee (f := 41) rfl ?_); refine goesL_ (some 14) rfl rfl Try.func41 (by kernel_rfl) rfl #[.agg #[.int .i64 a0_0, .slice A0_1 l0_1.length c0_1]] rfl (by (try simp only [List.map_toArray, List.map_cons, List.map_nil]); first | done | rfl | (simp only [List.length_drop, List.length_take]; rfl)) ?_; (with_reducible refine (impl_IsGame.calls k a0_0 _ _ l0_1 false _ ?side1 ?side2 A8.out).mono ?_); (case side1 => repeat (first | exact (Kd.C_below HR0_1.out HB.out) | (with_reducible refine Kd.C_alloc ?_ _) | (with_reducible refine Kd.C_drewN ?_ _) | (with_reducible refine Kd.C_drew ?_))); (case side2 => exact HC0_1.out); rintro e w35 ⟨rfl, hb⟩; refine ⟨_, rfl, ?_⟩; have n0_ := Aside0.mk (blk_below (g := gb310) (o := .cells #[.int .i64 a0_0, .slice A0_1 l0_1.length c0_1] 31 (0, 0)) (zb BK310.out) hb); have n1_ := Aside0.mk (blk_below (g := gb311) (o := .cells #[.int .i64 a2] 3 (0, 0)) (zb BK311.out) hb); have n2_ := Aside0.mk (blk_below (g := gb312) (o := .cells #[.int .i64 0, .slice none 0 0] 28 (0, 0)) (zb BK312.out) hb); have n3_ := Aside0.mk (below_step (zh HB.out) hb); clear BK310; clear BK311; clear BK312; clear HB; have BK310 := n0_; have BK311 := n1_; have BK312 := n2_; have HB := n3_; clear n0_ n1_ n2_ n3_; (try clear hb); (try clear hb2); (try clear hk); (try clear hi)))
   go_meet
   case rel => exact ⟨_, (true), (by first | rfl | (simp; done) | (simp [*]; done)), H', ⟨by first | omega | exact Nat.le_refl _⟩, ⟨zb BK310.out⟩, ⟨zb BK311.out⟩, ⟨zb BK312.out⟩, ⟨zh HB.out⟩⟩
 case rest =>
  clear HC4
  try clear c1
  try clear c2
  try clear p2
  try clear c3
  try clear c4
  try clear c9
  try clear c11
  try clear c12
  try clear c13
  try clear c15
  try clear c16
  try clear c20
  try clear c22
  try clear c23
  try clear c27
  try clear c28
  try clear c32
  try clear c33
  try clear hcz17_0
  try clear hcz17_1
  try clear hcz19_0
  try clear hcz19_1
  try clear hcz21_0
  try clear hcz24_0
  try clear hcz24_1
  try clear hcz26_0
  try clear hcz26_1
  try clear hcz29_0
  try clear hcz29_1
  try clear hcz31_0
  try clear hcz31_1
  try clear hcz34_0
  try clear hcz34_1
  try clear hfz17_0
  try clear hfz17_1
  try clear hfz19_0
  try clear hfz19_1
  try clear hfz21_0
  try clear hfz24_0
  try clear hfz24_1
  try clear hfz26_0
  try clear hfz26_1
  try clear hfz29_0
  try clear hfz29_1
  try clear hfz31_0
  try clear hfz31_1
  try clear hfz34_0
  try clear hfz34_1
  obtain ⟨kq, x31_3, rfl, HA, HJ3, BK310, BK311, BK312, HB⟩ := hcut
  cases kq with
  | zero => exact absurd HA.out (by simp [impl_MakePuzzle.j0])
  | succ kj3 =>
   have H := HA.out
   clear HA
   simp only [impl_MakePuzzle.j0] at H
   by_cases c36 : x31_3 = true
   ·subst c36
    have H1 : (some (0, ([] : List (S55)), false)) = some (r1, r2, r3) := by rw [if_pos rfl] at H; exact H
    clear H
    have H := H1
    clear H1
    simp only [Option.some.injEq, Prod.mk.injEq] at H
    obtain ⟨rfl, rfl, rfl⟩ := H
    have hnb37 := NB312_310.out
    have hnc37 := NB310_312.out
    have hnb38 := NB312_311.out
    have hnc38 := NB311_312.out
    have hcz39_0 : wc.cell? ⟨gb312, 0, none⟩ = some (.int .i64 0) := (blk_cell BK312.out 0).trans rfl
    have hcz39_1 : wc.cell? ⟨gb312, 1, none⟩ = some (.slice none 0 0) := (blk_cell BK312.out 1).trans rfl
    have hfz39_0 := blk_frozen BK312.out 0
    have hfz39_1 := blk_frozen BK312.out 1
    go_wp2
    refine bodyPost_ret (results_ct rfl _ _ gb312 28 #[.int .i64 0, .slice none 0 0] (0, 0) _ rfl (by (with_reducible repeat (first | refine blk_drewN ?_ _ | refine blk_drew ?_ | refine blk_alloc ?_ _)); refine blk_put (cs := #[.int .i64 0, .slice none 0 0]) ?_ 1 _ rfl; (with_reducible repeat (first | refine blk_drewN ?_ _ | refine blk_drew ?_ | refine blk_alloc ?_ _)); refine blk_put (cs := #[.int .i64 0, .slice none 0 0]) ?_ 0 _ rfl; (with_reducible repeat (first | refine blk_drewN ?_ _ | refine blk_drew ?_ | refine blk_alloc ?_ _)); exact BK312.out) Try.underlying28 rfl (by kernel_rfl)) rfl ?_
    exact ⟨_, by first | rfl | (simp [*, errW_none, errW_some] <;> rfl), by first | exact Kd.R_nil _ _ _ _ _ | exact Kd.N_nil _ _ _ _ _ | exact Kd.V_nil _ _ _ _ _ | exact Kd.Q_nil _ _ _ _ _ | exact Kd.S_nil _ _ _ _ _, zh HB.out⟩
   replace c36 := Bool.eq_false_iff.mpr c36
   subst c36
   have H1 : ((impl_Game_votes.f kj3 a0_0 l0_1).bind fun bt317 => (impl_MakePuzzle.l0 kj3 a1 0 a2 bt317.1 bt317.2 a0_0 ([] : List (S55)))) = some (r1, r2, r3) := by rw [if_neg (show ¬ (false = true) by decide)] at H; exact H
   clear H
   have H := H1
   clear H1
   replace H := Option.bind_eq_some_iff.mp H
   obtain ⟨⟨t317, t318⟩, A400, H⟩ := H
   replace H : (impl_MakePuzzle.l0 kj3 a1 0 a2 t317 t318 a0_0 ([] : List (S55))) = some (r1, r2, r3) := H
   have A40 := Aside0.mk A400
   clear A400
   have H' := Aside0.mk H
   clear H
   have hnb41 := NB310_311.out
   have hnc41 := NB311_310.out
   have hnb42 := NB310_312.out
   have hnc42 := NB312_310.out
   have hcz43_0 : wc.cell? ⟨gb310, 0, none⟩ = some (.int .i64 a0_0) := (blk_cell BK310.out 0).trans rfl
   have hcz43_1 : wc.cell? ⟨gb310, 1, none⟩ = some (.slice A0_1 l0_1.length c0_1) := (blk_cell BK310.out 1).trans rfl
   have hfz43_0 := blk_frozen BK310.out 0
   have hfz43_1 := blk_frozen BK310.out 1
   go_wp2_with (first | ((with_reducible refine gate_callee (f := 45) rfl ?_); refine goesL_ (some 35) rfl rfl Try.func45 (by kernel_rfl) rfl #[.agg #[.int .i64 a0_0, .slice A0_1 l0_1.length c0_1]] rfl (by (try simp only [List.map_toArray, List.map_cons, List.map_nil]); first | done | rfl | (simp only [List.length_drop, List.length_take]; rfl)) ?_; (with_reducible refine (impl_Game_votes.calls kj3 a0_0 _ _ l0_1 t317 t318 _ ?side1 ?side2 A40.out).mono ?_); (case side1 => repeat (first | exact (Kd.C_below HR0_1.out HB.out) | (with_reducible refine Kd.C_alloc ?_ _) | (with_reducible refine Kd.C_drewN ?_ _) | (with_reducible refine Kd.C_drew ?_))); (case side2 => exact HC0_1.out); rintro e w44 ⟨v319, rfl, ho0, hb⟩; refine ⟨_, rfl, ?_⟩; have n0_ := Aside0.mk (Kd.R_lower ho0 (below_size (zh HB.out))); have n1_ := Aside0.mk (blk_below (g := gb310) (o := .cells #[.int .i64 a0_0, .slice A0_1 l0_1.length c0_1] 31 (0, 0)) (zb BK310.out) hb); have n2_ := Aside0.mk (blk_below (g := gb311) (o := .cells #[.int .i64 a2] 3 (0, 0)) (zb BK311.out) hb); have n3_ := Aside0.mk (blk_below (g := gb312) (o := .cells #[.int .i64 0, .slice none 0 0] 28 (0, 0)) (zb BK312.out) hb); have n4_ := Aside0.mk (below_step (zh HB.out) hb); clear BK310; clear BK311; clear BK312; clear HB; have HO320 := n0_; have BK310 := n1_; have BK311 := n2_; have BK312 := n3_; have HB := n4_; clear n0_ n1_ n2_ n3_ n4_; (try clear hb); (try clear hb2); (try clear hk); (try clear hi); (try clear ho0)) | ((with_reducible refine gate_dst (N := 9) rfl ?_); refine box_event ?hg (N := 9) ?hd (cs := #[.int .i64 0, .slice none 0 0]) (t := 62) ?hr ?_; (case hd => rfl); (case hg => rfl); (case hr => first | (go_simp; done) | (go_simp; rfl)); intro gb321 hg w45 hbox hb; have n0_ := Aside0.mk (Kd.R_below (zr HO320.out) hb); have n1_ := Aside0.mk (blk_below (g := gb310) (o := .cells #[.int .i64 a0_0, .slice A0_1 l0_1.length c0_1] 31 (0, 0)) (zb BK310.out) hb); have n2_ := Aside0.mk (blk_below (g := gb311) (o := .cells #[.int .i64 a2] 3 (0, 0)) (zb BK311.out) hb); have n3_ := Aside0.mk (blk_below (g := gb312) (o := .cells #[.int .i64 0, .slice none 0 0] 28 (0, 0)) (zb BK312.out) hb); have n4_ := Aside0.mk (below_step (zh HB.out) hb); have n5_ := Aside0.mk (hbox); have n6_ := Aside0.mk ((by rw [hg]; exact (below_size (zh HB.out)) : w.heap.size ≤ gb321)); have n7_ := Aside0.mk ((by rw [hg]; exact (below_size (zh HB.out)) : w.heap.size ≤ gb321)); have n8_ := Aside0.mk ((by rw [hg]; exact Nat.ne_of_lt (blk_lt (g := gb310) (o := .cells #[.int .i64 a0_0, .slice A0_1 l0_1.length c0_1] 31 (0, 0)) (zb BK310.out)) : gb310 ≠ gb321)); have n9_ := Aside0.mk ((by rw [hg]; exact Nat.ne_of_gt (blk_lt (g := gb310) (o := .cells #[.int .i64 a0_0, .slice A0_1 l0_1.length c0_1] 31 (0, 0)) (zb BK310.out)) : gb321 ≠ gb310)); have n10_ := Aside0.mk ((by rw [hg]; exact Nat.ne_of_lt (blk_lt (g := gb311) (o := .cells #[.int .i64 a2] 3 (0, 0)) (zb BK311.out)) : gb311 ≠ gb321)); have n11_ := Aside0.mk ((by rw [hg]; exact Nat.ne_of_gt (blk_lt (g := gb311) (o := .cells #[.int .i64 a2] 3 (0, 0)) (zb BK311.out)) : gb321 ≠ gb311)); have n12_ := Aside0.mk ((by rw [hg]; exact Nat.ne_of_lt (blk_lt (g := gb312) (o := .cells #[.int .i64 0, .slice none 0 0] 28 (0, 0)) (zb BK312.out)) : gb312 ≠ gb321)); have n13_ := Aside0.mk ((by rw [hg]; exact Nat.ne_of_gt (blk_lt (g := gb312) (o := .cells #[.int .i64 0, .slice none 0 0] 28 (0, 0)) (zb BK312.out)) : gb321 ≠ gb312)); clear HO320; clear BK310; clear BK311; clear BK312; clear HB; have HO320 := n0_; have BK310 := n1_; have BK311 := n2_; have BK312 := n3_; have HB := n4_; have BK321 := n5_; have GW321 := n6_; have GE321 := n7_; have NB310_321 := n8_; have NB321_310 := n9_; have NB311_321 := n10_; have NB321_311 := n11_; have NB312_321 := n12_; have NB321_312 := n13_; clear n0_ n1_ n2_ n3_ n4_ n5_ n6_ n7_ n8_ n9_ n10_ n11_ n12_ n13_; clear hb hbox hg; have hnb46 := NB321_310.out; have hnc46 := NB310_321.out; have hnb47 := NB321_311.out; have hnc47 := NB311_321.out; have hnb48 := NB321_312.out; have hnc48 := NB312_321.out; have hcz49_0 : w45.cell? ⟨gb321, 0, none⟩ = some (.int .i64 0) := (blk_cell BK321.out 0).trans rfl; have hcz49_1 : w45.cell? ⟨gb321, 1, none⟩ = some (.slice none 0 0) := (blk_cell BK321.out 1).trans rfl; have hfz49_0 := blk_frozen BK321.out 0; have hfz49_1 := blk_frozen BK321.out 1; obtain ⟨Ao50, co50, eo50⟩ := Kd.R_slice HO320.out; subst eo50; have hcz51_0 : w45.cell? ⟨gb310, 0, none⟩ = some (.int .i64 a0_0) := (blk_cell BK310.out 0).trans rfl; have hcz51_1 : w45.cell? ⟨gb310, 1, none⟩ = some (.slice A0_1 l0_1.length c0_1) := (blk_cell BK310.out 1).trans rfl; have hfz51_0 := blk_frozen BK310.out 0; have hfz51_1 := blk_frozen BK310.out 1) | ((with_reducible refine gate_dst (N := 10) rfl ?_); refine box_event ?hg (N := 10) ?hd (cs := #[.int .i64 0, .slice none 0 0]) (t := 28) ?hr ?_; (case hd => rfl); (case hg => rfl); (case hr => first | (go_simp; done) | (go_simp; rfl)); intro gb322 hg w52 hbox hb; have n0_ := Aside0.mk (Kd.R_below (by (with_reducible repeat (first | apply Kd.R_alloc | apply Kd.R_drewN | apply Kd.R_drew)); exact (Kd.R_mono (Kd.R_far (p := ⟨gb321, 1, none⟩) (Kd.R_far (p := ⟨gb321, 0, none⟩) (Kd.R_types HO320.out BK321.out (by decide)) (fun _ hk => hk.2) (.int .i64 t317)) (fun _ hk => hk.2) (.slice Ao50 t318.length co50)) (fun _ h_ => h_.1))) hb); have n1_ := Aside0.mk (blk_below (g := gb310) (o := .cells #[.int .i64 a0_0, .slice A0_1 l0_1.length c0_1] 31 (0, 0)) (by (with_reducible repeat (first | refine blk_drewN ?_ _ | refine blk_drew ?_ | refine blk_alloc ?_ _)); refine blk_far ?_ NB310_321.out _; (with_reducible repeat (first | refine blk_drewN ?_ _ | refine blk_drew ?_ | refine blk_alloc ?_ _)); refine blk_far ?_ NB310_321.out _; (with_reducible repeat (first | refine blk_drewN ?_ _ | refine blk_drew ?_ | refine blk_alloc ?_ _)); exact BK310.out) hb); have n2_ := Aside0.mk (blk_below (g := gb311) (o := .cells #[.int .i64 a2] 3 (0, 0)) (by (with_reducible repeat (first | refine blk_drewN ?_ _ | refine blk_drew ?_ | refine blk_alloc ?_ _)); refine blk_far ?_ NB311_321.out _; (with_reducible repeat (first | refine blk_drewN ?_ _ | refine blk_drew ?_ | refine blk_alloc ?_ _)); refine blk_far ?_ NB311_321.out _; (with_reducible repeat (first | refine blk_drewN ?_ _ | refine blk_drew ?_ | refine blk_alloc ?_ _)); exact BK311.out) hb); have n3_ := Aside0.mk (blk_below (g := gb312) (o := .cells #[.int .i64 0, .slice none 0 0] 28 (0, 0)) (by (with_reducible repeat (first | refine blk_drewN ?_ _ | refine blk_drew ?_ | refine blk_alloc ?_ _)); refine blk_far ?_ NB312_321.out _; (with_reducible repeat (first | refine blk_drewN ?_ _ | refine blk_drew ?_ | refine blk_alloc ?_ _)); refine blk_far ?_ NB312_321.out _; (with_reducible repeat (first | refine blk_drewN ?_ _ | refine blk_drew ?_ | refine blk_alloc ?_ _)); exact BK312.out) hb); have n4_ := Aside0.mk (blk_below (g := gb321) (o := .cells #[.int .i64 t317, .slice Ao50 t318.length co50] 62 (0, 0)) (by (with_reducible repeat (first | refine blk_drewN ?_ _ | refine blk_drew ?_ | refine blk_alloc ?_ _)); refine blk_put (cs := #[.int .i64 t317, .slice none 0 0]) ?_ 1 _ rfl; (with_reducible repeat (first | refine blk_drewN ?_ _ | refine blk_drew ?_ | refine blk_alloc ?_ _)); refine blk_put (cs := #[.int .i64 0, .slice none 0 0]) ?_ 0 _ rfl; (with_reducible repeat (first | refine blk_drewN ?_ _ | refine blk_drew ?_ | refine blk_alloc ?_ _)); exact BK321.out) hb); have n5_ := Aside0.mk (below_step (zh HB.out) hb); have n6_ := Aside0.mk (hbox); have n7_ := Aside0.mk ((by rw [hg]; exact (below_size (zh HB.out)) : w.heap.size ≤ gb322)); have n8_ := Aside0.mk ((by rw [hg]; exact (below_size (zh HB.out)) : w.heap.size ≤ gb322)); have n9_ := Aside0.mk ((by rw [hg]; exact Nat.ne_of_lt (blk_lt (g := gb310) (o := .cells #[.int .i64 a0_0, .slice A0_1 l0_1.length c0_1] 31 (0, 0)) (by (with_reducible repeat (first | refine blk_drewN ?_ _ | refine blk_drew ?_ | refine blk_alloc ?_ _)); refine blk_far ?_ NB310_321.out _; (with_reducible repeat (first | refine blk_drewN ?_ _ | refine blk_drew ?_ | refine blk_alloc ?_ _)); refine blk_far ?_ NB310_321.out _; (with_reducible repeat (first | refine blk_drewN ?_ _ | refine blk_drew ?_ | refine blk_alloc ?_ _)); exact BK310.out)) : gb310 ≠ gb322)); have n10_ := Aside0.mk ((by rw [hg]; exact Nat.ne_of_gt (blk_lt (g := gb310) (o := .cells #[.int .i64 a0_0, .slice A0_1 l0_1.length c0_1] 31 (0, 0)) (by (with_reducible repeat (first | refine blk_drewN ?_ _ | refine blk_drew ?_ | refine blk_alloc ?_ _)); refine blk_far ?_ NB310_321.out _; (with_reducible repeat (first | refine blk_drewN ?_ _ | refine blk_drew ?_ | refine blk_alloc ?_ _)); refine blk_far ?_ NB310_321.out _; (with_reducible repeat (first | refine blk_drewN ?_ _ | refine blk_drew ?_ | refine blk_alloc ?_ _)); exact BK310.out)) : gb322 ≠ gb310)); have n11_ := Aside0.mk ((by rw [hg]; exact Nat.ne_of_lt (blk_lt (g := gb311) (o := .cells #[.int .i64 a2] 3 (0, 0)) (by (with_reducible repeat (first | refine blk_drewN ?_ _ | refine blk_drew ?_ | refine blk_alloc ?_ _)); refine blk_far ?_ NB311_321.out _; (with_reducible repeat (first | refine blk_drewN ?_ _ | refine blk_drew ?_ | refine blk_alloc ?_ _)); refine blk_far ?_ NB311_321.out _; (with_reducible repeat (first | refine blk_drewN ?_ _ | refine blk_drew ?_ | refine blk_alloc ?_ _)); exact BK311.out)) : gb311 ≠ gb322)); have n12_ := Aside0.mk ((by rw [hg]; exact Nat.ne_of_gt (blk_lt (g := gb311) (o := .cells #[.int .i64 a2] 3 (0, 0)) (by (with_reducible repeat (first | refine blk_drewN ?_ _ | refine blk_drew ?_ | refine blk_alloc ?_ _)); refine blk_far ?_ NB311_321.out _; (with_reducible repeat (first | refine blk_drewN ?_ _ | refine blk_drew ?_ | refine blk_alloc ?_ _)); refine blk_far ?_ NB311_321.out _; (with_reducible repeat (first | refine blk_drewN ?_ _ | refine blk_drew ?_ | refine blk_alloc ?_ _)); exact BK311.out)) : gb322 ≠ gb311)); have n13_ := Aside0.mk ((by rw [hg]; exact Nat.ne_of_lt (blk_lt (g := gb312) (o := .cells #[.int .i64 0, .slice none 0 0] 28 (0, 0)) (by (with_reducible repeat (first | refine blk_drewN ?_ _ | refine blk_drew ?_ | refine blk_alloc ?_ _)); refine blk_far ?_ NB312_321.out _; (with_reducible repeat (first | refine blk_drewN ?_ _ | refine blk_drew ?_ | refine blk_alloc ?_ _)); refine blk_far ?_ NB312_321.out _; (with_reducible repeat (first | refine blk_drewN ?_ _ | refine blk_drew ?_ | refine blk_alloc ?_ _)); exact BK312.out)) : gb312 ≠ gb322)); have n14_ := Aside0.mk ((by rw [hg]; exact Nat.ne_of_gt (blk_lt (g := gb312) (o := .cells #[.int .i64 0, .slice none 0 0] 28 (0, 0)) (by (with_reducible repeat (first | refine blk_drewN ?_ _ | refine blk_drew ?_ | refine blk_alloc ?_ _)); refine blk_far ?_ NB312_321.out _; (with_reducible repeat (first | refine blk_drewN ?_ _ | refine blk_drew ?_ | refine blk_alloc ?_ _)); refine blk_far ?_ NB312_321.out _; (with_reducible repeat (first | refine blk_drewN ?_ _ | refine blk_drew ?_ | refine blk_alloc ?_ _)); exact BK312.out)) : gb322 ≠ gb312)); have n15_ := Aside0.mk ((by rw [hg]; exact Nat.ne_of_lt (blk_lt (g := gb321) (o := .cells #[.int .i64 t317, .slice Ao50 t318.length co50] 62 (0, 0)) (by (with_reducible repeat (first | refine blk_drewN ?_ _ | refine blk_drew ?_ | refine blk_alloc ?_ _)); refine blk_put (cs := #[.int .i64 t317, .slice none 0 0]) ?_ 1 _ rfl; (with_reducible repeat (first | refine blk_drewN ?_ _ | refine blk_drew ?_ | refine blk_alloc ?_ _)); refine blk_put (cs := #[.int .i64 0, .slice none 0 0]) ?_ 0 _ rfl; (with_reducible repeat (first | refine blk_drewN ?_ _ | refine blk_drew ?_ | refine blk_alloc ?_ _)); exact BK321.out)) : gb321 ≠ gb322)); have n16_ := Aside0.mk ((by rw [hg]; exact Nat.ne_of_gt (blk_lt (g := gb321) (o := .cells #[.int .i64 t317, .slice Ao50 t318.length co50] 62 (0, 0)) (by (with_reducible repeat (first | refine blk_drewN ?_ _ | refine blk_drew ?_ | refine blk_alloc ?_ _)); refine blk_put (cs := #[.int .i64 t317, .slice none 0 0]) ?_ 1 _ rfl; (with_reducible repeat (first | refine blk_drewN ?_ _ | refine blk_drew ?_ | refine blk_alloc ?_ _)); refine blk_put (cs := #[.int .i64 0, .slice none 0 0]) ?_ 0 _ rfl; (with_reducible repeat (first | refine blk_drewN ?_ _ | refine blk_drew ?_ | refine blk_alloc ?_ _)); exact BK321.out)) : gb322 ≠ gb321)); clear HO320; clear BK310; clear BK311; clear BK312; clear BK321; clear HB; have HO320 := n0_; have BK310 := n1_; have BK311 := n2_; have BK312 := n3_; have BK321 := n4_; have HB := n5_; have BK322 := n6_; have GW322 := n7_; have GE322 := n8_; have NB310_322 := n9_; have NB322_310 := n10_; have NB311_322 := n11_; have NB322_311 := n12_; have NB312_322 := n13_; have NB322_312 := n14_; have NB321_322 := n15_; have NB322_321 := n16_; clear n0_ n1_ n2_ n3_ n4_ n5_ n6_ n7_ n8_ n9_ n10_ n11_ n12_ n13_ n14_ n15_ n16_; clear hb hbox hg; have hnb53 := NB322_310.out; have hnc53 := NB310_322.out; have hnb54 := NB322_311.out; have hnc54 := NB311_322.out; have hnb55 := NB322_312.out; have hnc55 := NB312_322.out; have hnb56 := NB322_321.out; have hnc56 := NB321_322.out; have hcz57_0 : w52.cell? ⟨gb322, 0, none⟩ = some (.int .i64 0) := (blk_cell BK322.out 0).trans rfl; have hcz57_1 : w52.cell? ⟨gb322, 1, none⟩ = some (.slice none 0 0) := (blk_cell BK322.out 1).trans rfl; have hfz57_0 := blk_frozen BK322.out 0; have hfz57_1 := blk_frozen BK322.out 1))
   go_loopg [40] kj3 (fun kq v40 w' => ∃ (x40_2 : Int) (x312000_2 : Int) (x323001_2 : List (S55)) (u323001 : Value), v40 = .int .i64 x40_2 ∧ Aside0 (impl_MakePuzzle.l0 kq a1 x40_2 x312000_2 t317 t318 a0_0 x323001_2 = some (r1, r2, r3)) ∧ Aside0 (kq ≤ kj3) ∧ Aside0 (Kd.R Kd.bool 4 w' w.heap.size (fun _ => True) (.slice Ao50 t318.length co50) t318) ∧ Aside0 (Kd.R k55 55 w' w.heap.size (fun _ => True) u323001 x323001_2) ∧ Aside0 (w'.heap[gb310]? = some (.cells #[.int .i64 a0_0, (.slice A0_1 l0_1.length c0_1)] 31 (0, 0))) ∧ Aside0 (w'.heap[gb311]? = some (.cells #[.int .i64 x312000_2] 3 (0, 0))) ∧ Aside0 (w'.heap[gb312]? = some (.cells #[.int .i64 0, (.slice none 0 0)] 28 (0, 0))) ∧ Aside0 (w'.heap[gb321]? = some (.cells #[.int .i64 t317, (.slice Ao50 t318.length co50)] 62 (0, 0))) ∧ Aside0 (w'.heap[gb322]? = some (.cells #[.int .i64 a0_0, u323001] 28 (0, 0))) ∧ Aside0 (Below w.heap.size w w'))
   case atStart => exact ⟨(0), (a2), (([] : List (S55))), (.slice none 0 0), (by first | rfl | (simp; done) | (simp [*]; done)), H', ⟨Nat.le_refl _⟩, ⟨by (with_reducible repeat (first | apply Kd.R_alloc | apply Kd.R_drewN | apply Kd.R_drew)); exact Kd.R_mono (Kd.R_far (p := ⟨gb322, 1, none⟩) (Kd.R_far (p := ⟨gb322, 0, none⟩) (Kd.R_types HO320.out BK322.out (by decide)) (fun _ hk => hk.2) (.int .i64 a0_0)) (fun _ hk => hk.2) (.slice none 0 0)) (fun _ hk => trivial)⟩, ⟨by first | exact Kd.R_nil _ _ _ _ _ | exact Kd.N_nil _ _ _ _ _ | exact Kd.V_nil _ _ _ _ _ | exact Kd.Q_nil _ _ _ _ _ | exact Kd.S_nil _ _ _ _ _⟩, ⟨by (with_reducible repeat (first | refine blk_drewN ?_ _ | refine blk_drew ?_ | refine blk_alloc ?_ _)); refine blk_far ?_ NB310_322.out _; (with_reducible repeat (first | refine blk_drewN ?_ _ | refine blk_drew ?_ | refine blk_alloc ?_ _)); refine blk_far ?_ NB310_322.out _; (with_reducible repeat (first | refine blk_drewN ?_ _ | refine blk_drew ?_ | refine blk_alloc ?_ _)); exact BK310.out⟩, ⟨by (with_reducible repeat (first | refine blk_drewN ?_ _ | refine blk_drew ?_ | refine blk_alloc ?_ _)); refine blk_far ?_ NB311_322.out _; (with_reducible repeat (first | refine blk_drewN ?_ _ | refine blk_drew ?_ | refine blk_alloc ?_ _)); refine blk_far ?_ NB311_322.out _; (with_reducible repeat (first | refine blk_drewN ?_ _ | refine blk_drew ?_ | refine blk_alloc ?_ _)); exact BK311.out⟩, ⟨by (with_reducible repeat (first | refine blk_drewN ?_ _ | refine blk_drew ?_ | refine blk_alloc ?_ _)); refine blk_far ?_ NB312_322.out _; (with_reducible repeat (first | refine blk_drewN ?_ _ | refine blk_drew ?_ | refine blk_alloc ?_ _)); refine blk_far ?_ NB312_322.out _; (with_reducible repeat (first | refine blk_drewN ?_ _ | refine blk_drew ?_ | refine blk_alloc ?_ _)); exact BK312.out⟩, ⟨by (with_reducible repeat (first | refine blk_drewN ?_ _ | refine blk_drew ?_ | refine blk_alloc ?_ _)); refine blk_far ?_ NB321_322.out _; (with_reducible repeat (first | refine blk_drewN ?_ _ | refine blk_drew ?_ | refine blk_alloc ?_ _)); refine blk_far ?_ NB321_322.out _; (with_reducible repeat (first | refine blk_drewN ?_ _ | refine blk_drew ?_ | refine blk_alloc ?_ _)); exact BK321.out⟩, ⟨by (with_reducible repeat (first | refine blk_drewN ?_ _ | refine blk_drew ?_ | refine blk_alloc ?_ _)); refine blk_put (cs := #[.int .i64 a0_0, .slice none 0 0]) ?_ 1 _ rfl; (with_reducible repeat (first | refine blk_drewN ?_ _ | refine blk_drew ?_ | refine blk_alloc ?_ _)); refine blk_put (cs := #[.int .i64 0, .slice none 0 0]) ?_ 0 _ rfl; (with_reducible repeat (first | refine blk_drewN ?_ _ | refine blk_drew ?_ | refine blk_alloc ?_ _)); exact BK322.out⟩, ⟨zh HB.out⟩⟩
   case round =>
    clear H'
    try clear c1
    try clear c2
    try clear p2
    try clear c3
    try clear c4
    try clear c5
    try clear c9
    try clear c11
    try clear c12
    try clear c13
    try clear c15
    try clear c16
    try clear c20
    try clear c22
    try clear c23
    try clear c27
    try clear c28
    try clear c32
    try clear c33
    try clear c36
    try clear c37
    try clear c38
    try clear c41
    try clear c42
    try clear c45
    try clear c46
    try clear c47
    try clear c48
    try clear c53
    try clear c54
    try clear c55
    try clear c56
    try clear hcz17_0
    try clear hcz17_1
    try clear hcz19_0
    try clear hcz19_1
    try clear hcz21_0
    try clear hcz24_0
    try clear hcz24_1
    try clear hcz26_0
    try clear hcz26_1
    try clear hcz29_0
    try clear hcz29_1
    try clear hcz31_0
    try clear hcz31_1
    try clear hcz34_0
    try clear hcz34_1
    try clear hcz39_0
    try clear hcz39_1
    try clear hcz43_0
    try clear hcz43_1
    try clear hcz49_0
    try clear hcz49_1
    try clear hcz51_0
    try clear hcz51_1
    try clear hcz57_0
    try clear hcz57_1
    try clear hfz17_0
    try clear hfz17_1
    try clear hfz19_0
    try clear hfz19_1
    try clear hfz21_0
    try clear hfz24_0
    try clear hfz24_1
    try clear hfz26_0
    try clear hfz26_1
    try clear hfz29_0
    try clear hfz29_1
    try clear hfz31_0
    try clear hfz31_1
    try clear hfz34_0
    try clear hfz34_1
    try clear hfz39_0
    try clear hfz39_1
    try clear hfz43_0
    try clear hfz43_1
    try clear hfz49_0
    try clear hfz49_1
    try clear hfz51_0
    try clear hfz51_1
    try clear hfz57_0
    try clear hfz57_1
    try clear p2
    obtain ⟨x40_2, x312000_2, x323001_2, u323001, rfl, HA, HK2, HO_322001, HO_323001, BK310, BK311, BK312, BK321, BK322, HB⟩ := hrel
    cases gk with
    | zero => exact absurd HA.out (by simp [impl_MakePuzzle.l0])
    | succ k2 =>
     have H := HA.out
     clear HA
     simp only [impl_MakePuzzle.l0] at H
     by_cases c58 : x40_2 < a1
     rotate_left
     ·rw [if_neg c58] at H
      have c58b0 : decide (x40_2 < a1) = false := decide_eq_false c58
      clear c58
      simp only [Option.some.injEq, Prod.mk.injEq] at H
      obtain ⟨rfl, rfl, rfl⟩ := H
      have hnb129 := NB322_310.out
      have hnc129 := NB310_322.out
      have hnb130 := NB322_311.out
      have hnc130 := NB311_322.out
      have hnb131 := NB322_312.out
      have hnc131 := NB312_322.out
      have hnb132 := NB322_321.out
      have hnc132 := NB321_322.out
      have hcz133_0 : wr.cell? ⟨gb322, 0, none⟩ = some (.int .i64 a0_0) := (blk_cell BK322.out 0).trans rfl
      have hcz133_1 : wr.cell? ⟨gb322, 1, none⟩ = some (u323001) := (blk_cell BK322.out 1).trans rfl
      have hfz133_0 := blk_frozen BK322.out 0
      have hfz133_1 := blk_frozen BK322.out 1
      have hnb134 := NB312_310.out
      have hnc134 := NB310_312.out
      have hnb135 := NB312_311.out
      have hnc135 := NB311_312.out
      have hnb136 := NB312_321.out
      have hnc136 := NB321_312.out
      have hcz137_0 : wr.cell? ⟨gb312, 0, none⟩ = some (.int .i64 0) := (blk_cell BK312.out 0).trans rfl
      have hcz137_1 : wr.cell? ⟨gb312, 1, none⟩ = some (.slice none 0 0) := (blk_cell BK312.out 1).trans rfl
      have hfz137_0 := blk_frozen BK312.out 0
      have hfz137_1 := blk_frozen BK312.out 1
      obtain ⟨Ao138, co138, eo138⟩ := Kd.R_slice HO_323001.out
      subst eo138
      go_wp2
      refine bodyPost_ret (results_ct rfl _ _ gb312 28 #[.int .i64 a0_0, .slice Ao138 x323001_2.length co138] (0, 0) _ rfl (by (with_reducible repeat (first | refine blk_drewN ?_ _ | refine blk_drew ?_ | refine blk_alloc ?_ _)); refine blk_put (cs := #[.int .i64 a0_0, .slice none 0 0]) ?_ 1 _ rfl; (with_reducible repeat (first | refine blk_drewN ?_ _ | refine blk_drew ?_ | refine blk_alloc ?_ _)); refine blk_put (cs := #[.int .i64 0, .slice none 0 0]) ?_ 0 _ rfl; (with_reducible repeat (first | refine blk_drewN ?_ _ | refine blk_drew ?_ | refine blk_alloc ?_ _)); exact BK312.out) Try.underlying28 rfl (by kernel_rfl)) rfl ?_
      exact ⟨_, by first | rfl | (simp [*, errW_none, errW_some] <;> rfl), by (with_reducible repeat (first | apply Kd.R_alloc | apply Kd.R_drewN | apply Kd.R_drew)); exact Kd.R_mono (Kd.R_far (p := ⟨gb312, 1, none⟩) (Kd.R_far (p := ⟨gb312, 0, none⟩) (Kd.R_types HO_323001.out BK312.out (by decide)) (fun _ hk => hk.2) (.int .i64 a0_0)) (fun _ hk => hk.2) (.slice Ao138 x323001_2.length co138)) (fun _ hk => trivial), zh HB.out⟩
     rw [if_pos c58] at H
     have c58b0 : decide (x40_2 < a1) = true := decide_eq_true c58
     clear c58
     by_cases c59 : (Int.tmod (Int.tmod (wrap64 ((wrap64 (x312000_2 * 193)) + 2549)) 10009) 6) = 0
     ·rw [if_pos c59] at H
      have c59b0 : ((Int.tmod (Int.tmod (wrap64 ((wrap64 (x312000_2 * 193)) + 2549)) 10009) 6) == 0) = true := beq_iff_eq.mpr c59
      have c59b1 : ((Int.tmod (Int.tmod (wrap64 ((wrap64 (x312000_2 * 193)) + 2549)) 10009) 6) != 0) = false := bne_eq_false_iff_eq.mpr c59
      clear c59
      by_cases c60 : (t318.length : Int) = 0
      ·rw [if_pos c60] at H
       exact absurd H (by simp)
      rw [if_neg c60] at H
      have c60b0 : ((t318.length : Int) == 0) = false := beq_eq_false_iff_ne.mpr c60
      have c60b1 : ((t318.length : Int) != 0) = true := bne_iff_ne.mpr c60
      have c60b2 : ¬ (t318 = []) := fun h_ => c60 (by rw [h_]; rfl)
      replace H := Option.bind_eq_some_iff.mp H
      obtain ⟨⟨t323, t324, t325⟩, A610, H⟩ := H
      replace H : (if x323001_2.length < 5864062014805 then (impl_MakePuzzle.l0 k2 a1 (wrap64 (x40_2 + 1)) (Int.tmod (wrap64 ((wrap64 ((Int.tmod (wrap64 ((wrap64 (x312000_2 * 193)) + 2549)) 10009) * 193)) + 2549)) 10009) t317 t318 a0_0 (x323001_2 ++ [(⟨t323, t324, t325⟩ : S55)])) else (none)) = some (r1, r2, r3) := H
      have A61 := Aside0.mk A610
      clear A610
      by_cases c62 : x323001_2.length < 5864062014805
      rotate_left
      ·rw [if_neg c62] at H
       exact absurd H (by simp)
      rw [if_pos c62] at H
      have LMc62 := Aside0.mk c62
      clear c62
      obtain ⟨y326, hy326⟩ : ∃ y_ : List (S55), y_ = (x323001_2 ++ [(⟨t323, t324, t325⟩ : S55)]) := ⟨_, rfl⟩
      replace H : (impl_MakePuzzle.l0 k2 a1 (wrap64 (x40_2 + 1)) (Int.tmod (wrap64 ((wrap64 ((Int.tmod (wrap64 ((wrap64 (x312000_2 * 193)) + 2549)) 10009) * 193)) + 2549)) 10009) t317 t318 a0_0 y326) = some (r1, r2, r3) := by first | (rw [hy326]; with_reducible exact H) | (have H2_ := (Option.bind_some _ _).symm.trans H; rw [hy326]; with_reducible exact H2_) | (have H2_ := (Option.bind_some _ _).symm.trans H; with_reducible exact H2_) | with_reducible exact H | (rw [hy326]; exact H) | exact H
      have Ny326 := Aside0.mk hy326
      clear hy326
      have H' := Aside0.mk H
      clear H
      have hnb63 := NB311_310.out
      have hnc63 := NB310_311.out
      have hnb64 := NB311_312.out
      have hnc64 := NB312_311.out
      have hnb65 := NB311_321.out
      have hnc65 := NB321_311.out
      have hnb66 := NB311_322.out
      have hnc66 := NB322_311.out
      have hcz67_0 : wr.cell? ⟨gb311, 0, none⟩ = some (.int .i64 x312000_2) := (blk_cell BK311.out 0).trans rfl
      have hfz67_0 := blk_frozen BK311.out 0
      have hnb68 := NB321_310.out
      have hnc68 := NB310_321.out
      have hnb69 := NB321_312.out
      have hnc69 := NB312_321.out
      have hnb70 := NB321_322.out
      have hnc70 := NB322_321.out
      have hcz71_0 : wr.cell? ⟨gb321, 0, none⟩ = some (.int .i64 t317) := (blk_cell BK321.out 0).trans rfl
      have hcz71_1 : wr.cell? ⟨gb321, 1, none⟩ = some (.slice Ao50 t318.length co50) := (blk_cell BK321.out 1).trans rfl
      have hfz71_0 := blk_frozen BK321.out 0
      have hfz71_1 := blk_frozen BK321.out 1
      try go_wp2
      have n0_ : Aside0 (Kd.R Kd.bool 4 ((wr.setCell ⟨gb311, 0, none⟩ (.int .i64 (Int.tmod (wrap64 ((wrap64 (x312000_2 * 193)) + 2549)) 10009))).setCell ⟨gb311, 0, none⟩ (.int .i64 (Int.tmod (wrap64 ((wrap64 ((Int.tmod (wrap64 ((wrap64 (x312000_2 * 193)) + 2549)) 10009) * 193)) + 2549)) 10009))) w.heap.size (fun _ => True) (.slice Ao50 t318.length co50) t318) := ⟨by (with_reducible repeat (first | apply Kd.R_alloc | apply Kd.R_drewN | apply Kd.R_drew)); exact Kd.R_mono (Kd.R_far (p := ⟨gb311, 0, none⟩) (Kd.R_far (p := ⟨gb311, 0, none⟩) (Kd.R_types HO_322001.out BK311.out (by decide)) (fun _ hk => hk.2) (.int .i64 (Int.tmod (wrap64 ((wrap64 (x312000_2 * 193)) + 2549)) 10009))) (fun _ hk => hk.2) (.int .i64 (Int.tmod (wrap64 ((wrap64 ((Int.tmod (wrap64 ((wrap64 (x312000_2 * 193)) + 2549)) 10009) * 193)) + 2549)) 10009))) (fun _ hk => trivial)⟩
      have n1_ : Aside0 (Kd.R k55 55 ((wr.setCell ⟨gb311, 0, none⟩ (.int .i64 (Int.tmod (wrap64 ((wrap64 (x312000_2 * 193)) + 2549)) 10009))).setCell ⟨gb311, 0, none⟩ (.int .i64 (Int.tmod (wrap64 ((wrap64 ((Int.tmod (wrap64 ((wrap64 (x312000_2 * 193)) + 2549)) 10009) * 193)) + 2549)) 10009))) w.heap.size (fun _ => True) u323001 x323001_2) := ⟨by (with_reducible repeat (first | apply Kd.R_alloc | apply Kd.R_drewN | apply Kd.R_drew)); exact Kd.R_mono (Kd.R_far (p := ⟨gb311, 0, none⟩) (Kd.R_far (p := ⟨gb311, 0, none⟩) (Kd.R_types HO_323001.out BK311.out (by decide)) (fun _ hk => hk.2) (.int .i64 (Int.tmod (wrap64 ((wrap64 (x312000_2 * 193)) + 2549)) 10009))) (fun _ hk => hk.2) (.int .i64 (Int.tmod (wrap64 ((wrap64 ((Int.tmod (wrap64 ((wrap64 (x312000_2 * 193)) + 2549)) 10009) * 193)) + 2549)) 10009))) (fun _ hk => trivial)⟩
      have n2_ : Aside0 (((wr.setCell ⟨gb311, 0, none⟩ (.int .i64 (Int.tmod (wrap64 ((wrap64 (x312000_2 * 193)) + 2549)) 10009))).setCell ⟨gb311, 0, none⟩ (.int .i64 (Int.tmod (wrap64 ((wrap64 ((Int.tmod (wrap64 ((wrap64 (x312000_2 * 193)) + 2549)) 10009) * 193)) + 2549)) 10009))).heap[gb310]? = some (.cells #[.int .i64 a0_0, .slice A0_1 l0_1.length c0_1] 31 (0, 0))) := ⟨by (with_reducible repeat (first | refine blk_drewN ?_ _ | refine blk_drew ?_ | refine blk_alloc ?_ _)); refine blk_far ?_ NB310_311.out _; (with_reducible repeat (first | refine blk_drewN ?_ _ | refine blk_drew ?_ | refine blk_alloc ?_ _)); refine blk_far ?_ NB310_311.out _; (with_reducible repeat (first | refine blk_drewN ?_ _ | refine blk_drew ?_ | refine blk_alloc ?_ _)); exact BK310.out⟩
      have n3_ : Aside0 (((wr.setCell ⟨gb311, 0, none⟩ (.int .i64 (Int.tmod (wrap64 ((wrap64 (x312000_2 * 193)) + 2549)) 10009))).setCell ⟨gb311, 0, none⟩ (.int .i64 (Int.tmod (wrap64 ((wrap64 ((Int.tmod (wrap64 ((wrap64 (x312000_2 * 193)) + 2549)) 10009) * 193)) + 2549)) 10009))).heap[gb311]? = some (.cells #[.int .i64 (Int.tmod (wrap64 ((wrap64 ((Int.tmod (wrap64 ((wrap64 (x312000_2 * 193)) + 2549)) 10009) * 193)) + 2549)) 10009)] 3 (0, 0))) := ⟨by (with_reducible repeat (first | refine blk_drewN ?_ _ | refine blk_drew ?_ | refine blk_alloc ?_ _)); refine blk_put (cs := #[.int .i64 (Int.tmod (wrap64 ((wrap64 (x312000_2 * 193)) + 2549)) 10009)]) ?_ 0 _ rfl; (with_reducible repeat (first | refine blk_drewN ?_ _ | refine blk_drew ?_ | refine blk_alloc ?_ _)); refine blk_put (cs := #[.int .i64 x312000_2]) ?_ 0 _ rfl; (with_reducible repeat (first | refine blk_drewN ?_ _ | refine blk_drew ?_ | refine blk_alloc ?_ _)); exact BK311.out⟩
      have n4_ : Aside0 (((wr.setCell ⟨gb311, 0, none⟩ (.int .i64 (Int.tmod (wrap64 ((wrap64 (x312000_2 * 193)) + 2549)) 10009))).setCell ⟨gb311, 0, none⟩ (.int .i64 (Int.tmod (wrap64 ((wrap64 ((Int.tmod (wrap64 ((wrap64 (x312000_2 * 193)) + 2549)) 10009) * 193)) + 2549)) 10009))).heap[gb312]? = some (.cells #[.int .i64 0, .slice none 0 0] 28 (0, 0))) := ⟨by (with_reducible repeat (first | refine blk_drewN ?_ _ | refine blk_drew ?_ | refine blk_alloc ?_ _)); refine blk_far ?_ NB312_311.out _; (with_reducible repeat (first | refine blk_drewN ?_ _ | refine blk_drew ?_ | refine blk_alloc ?_ _)); refine blk_far ?_ NB312_311.out _; (with_reducible repeat (first | refine blk_drewN ?_ _ | refine blk_drew ?_ | refine blk_alloc ?_ _)); exact BK312.out⟩
      have n5_ : Aside0 (((wr.setCell ⟨gb311, 0, none⟩ (.int .i64 (Int.tmod (wrap64 ((wrap64 (x312000_2 * 193)) + 2549)) 10009))).setCell ⟨gb311, 0, none⟩ (.int .i64 (Int.tmod (wrap64 ((wrap64 ((Int.tmod (wrap64 ((wrap64 (x312000_2 * 193)) + 2549)) 10009) * 193)) + 2549)) 10009))).heap[gb321]? = some (.cells #[.int .i64 t317, .slice Ao50 t318.length co50] 62 (0, 0))) := ⟨by (with_reducible repeat (first | refine blk_drewN ?_ _ | refine blk_drew ?_ | refine blk_alloc ?_ _)); refine blk_far ?_ NB321_311.out _; (with_reducible repeat (first | refine blk_drewN ?_ _ | refine blk_drew ?_ | refine blk_alloc ?_ _)); refine blk_far ?_ NB321_311.out _; (with_reducible repeat (first | refine blk_drewN ?_ _ | refine blk_drew ?_ | refine blk_alloc ?_ _)); exact BK321.out⟩
      have n6_ : Aside0 (((wr.setCell ⟨gb311, 0, none⟩ (.int .i64 (Int.tmod (wrap64 ((wrap64 (x312000_2 * 193)) + 2549)) 10009))).setCell ⟨gb311, 0, none⟩ (.int .i64 (Int.tmod (wrap64 ((wrap64 ((Int.tmod (wrap64 ((wrap64 (x312000_2 * 193)) + 2549)) 10009) * 193)) + 2549)) 10009))).heap[gb322]? = some (.cells #[.int .i64 a0_0, u323001] 28 (0, 0))) := ⟨by (with_reducible repeat (first | refine blk_drewN ?_ _ | refine blk_drew ?_ | refine blk_alloc ?_ _)); refine blk_far ?_ NB322_311.out _; (with_reducible repeat (first | refine blk_drewN ?_ _ | refine blk_drew ?_ | refine blk_alloc ?_ _)); refine blk_far ?_ NB322_311.out _; (with_reducible repeat (first | refine blk_drewN ?_ _ | refine blk_drew ?_ | refine blk_alloc ?_ _)); exact BK322.out⟩
      have n7_ : Aside0 (Below w.heap.size w ((wr.setCell ⟨gb311, 0, none⟩ (.int .i64 (Int.tmod (wrap64 ((wrap64 (x312000_2 * 193)) + 2549)) 10009))).setCell ⟨gb311, 0, none⟩ (.int .i64 (Int.tmod (wrap64 ((wrap64 ((Int.tmod (wrap64 ((wrap64 (x312000_2 * 193)) + 2549)) 10009) * 193)) + 2549)) 10009)))) := ⟨zh HB.out⟩
      (try clear HO_322001)
      (try clear HO_323001)
      (try clear BK310)
      (try clear BK311)
      (try clear BK312)
      (try clear BK321)
      (try clear BK322)
      (try clear HB)
      generalize ((wr.setCell ⟨gb311, 0, none⟩ (.int .i64 (Int.tmod (wrap64 ((wrap64 (x312000_2 * 193)) + 2549)) 10009))).setCell ⟨gb311, 0, none⟩ (.int .i64 (Int.tmod (wrap64 ((wrap64 ((Int.tmod (wrap64 ((wrap64 (x312000_2 * 193)) + 2549)) 10009) * 193)) + 2549)) 10009))) = w72 at n0_ n1_ n2_ n3_ n4_ n5_ n6_ n7_ ⊢
      have HO_322001 := n0_
      have HO_323001 := n1_
      have BK310 := n2_
      have BK311 := n3_
      have BK312 := n4_
      have BK321 := n5_
      have BK322 := n6_
      have HB := n7_
      clear n0_ n1_ n2_ n3_ n4_ n5_ n6_ n7_
      have n0_ := Aside0.mk (Kd.R_drew HO_322001.out)
      have n1_ := Aside0.mk (Kd.R_drew HO_323001.out)
      have n2_ := Aside0.mk (blk_drew BK310.out)
      have n3_ := Aside0.mk (blk_drew BK311.out)
      have n4_ := Aside0.mk (blk_drew BK312.out)
      have n5_ := Aside0.mk (blk_drew BK321.out)
      have n6_ := Aside0.mk (blk_drew BK322.out)
      have n7_ := Aside0.mk (below_drew1 HB.out)
      clear HO_322001
      clear HO_323001
      clear BK310
      clear BK311
      clear BK312
      clear BK321
      clear BK322
      clear HB
      have HO_322001 := n0_
      have HO_323001 := n1_
      have BK310 := n2_
      have BK311 := n3_
      have BK312 := n4_
      have BK321 := n5_
      have BK322 := n6_
      have HB := n7_
      clear n0_ n1_ n2_ n3_ n4_ n5_ n6_ n7_
      refine start_ (n := 10) (S := fun w' => w'.cell? ⟨gb322, 0, none⟩ = some (.int .i64 a0_0) ∧ w'.cell? ⟨gb322, 1, none⟩ = some (u323001) ∧ w'.cell? ⟨gb321, 0, none⟩ = some (.int .i64 t317) ∧ w'.cell? ⟨gb321, 1, none⟩ = some (.slice Ao50 t318.length co50)) (ds := [9]) (tb 10 0) (by kernel_rfl) rfl rfl ⟨(blk_cell BK322.out 0).trans rfl, (blk_cell BK322.out 1).trans rfl, (blk_cell BK321.out 0).trans rfl, (blk_cell BK321.out 1).trans rfl⟩ (fun hHeld => ?_); refine with_tabW impl_MakePuzzle.tab15 impl_MakePuzzle.bits15 (fun HT_ HW_ => ?_)
      generalize w72.drew = w73 at HO_322001 HO_323001 BK310 BK311 BK312 BK321 BK322 HB hHeld ⊢
      refine zu (i := 0) (N := some 59) (tb 10 1) rfl rfl HT_ ?_
      refine zu (i := 3) (N := some 62) (tb 10 9) rfl rfl HT_ ?_
      refine zu (i := 4) (N := some 63) (tb 10 25) rfl rfl HT_ ?_
      refine take_ (i := 1) (N := some 60) (v := ?_) (a' := ?_) (tb 10 27) rfl rfl (take_ofW HT_.out HW_.out (by kernel_rfl)) (fun _ _ _ h => h) (Or.inl ⟨by rfl, ?_⟩) hHeld ?_ ?_
      rotate_left
      ·rintro w' ⟨s0, s1, s2, s3⟩
       go_simp
       with_reducible rfl
      rotate_left
      ·simp only [Act.put, List.setIfInBounds_toArray, List.set_cons_zero, List.set_cons_succ, i64_w, i32_w]
       rfl
      refine take_ (i := 2) (N := some 61) (v := ?_) (a' := ?_) (tb 10 31) rfl rfl (take_ofW HT_.out HW_.out (by kernel_rfl)) (fun _ _ _ h => h) (Or.inl ⟨by rfl, ?_⟩) hHeld ?_ ?_
      rotate_left
      ·rintro w' ⟨s0, s1, s2, s3⟩
       go_simp
       with_reducible rfl
      rotate_left
      ·simp only [Act.put, List.setIfInBounds_toArray, List.set_cons_zero, List.set_cons_succ, i64_w, i32_w]
       rfl
      refine one_ (i := 5) (N := some 64) (tb 10 63) rfl rfl (one_of HT_.out (by kernel_rfl)) (by decide) (fun K hK => ?_)
      refine goes_ Try.func46 (by kernel_rfl) rfl #[.agg #[.int .i64 t317, .slice Ao50 t318.length co50], .int .i64 (Int.tmod (Int.tmod (wrap64 ((wrap64 (x312000_2 * 193)) + 2549)) 10009) 6), .int .i64 (Int.tmod (Int.tmod (wrap64 ((wrap64 ((Int.tmod (wrap64 ((wrap64 (x312000_2 * 193)) + 2549)) 10009) * 193)) + 2549)) 10009) (t318.length : Int))] (by rfl) rfl rfl (by (try simp only [List.map_toArray, List.map_cons, List.map_nil]); first | done | rfl | (simp only [List.length_drop, List.length_take]; rfl)) ?_
      with_reducible refine (impl_votes_told.calls k2 t317 _ _ t318 (Int.tmod (Int.tmod (wrap64 ((wrap64 (x312000_2 * 193)) + 2549)) 10009) 6) (Int.tmod (Int.tmod (wrap64 ((wrap64 ((Int.tmod (wrap64 ((wrap64 (x312000_2 * 193)) + 2549)) 10009) * 193)) + 2549)) 10009) (t318.length : Int)) t323 t324 t325 _ ?side1 ?side2 A61.out).mono ?_
      (case side1 => repeat (first | exact (Kd.R_reads' HO_322001.out).2.2 | (with_reducible refine Kd.C_alloc ?_ _) | (with_reducible refine Kd.C_drewN ?_ _) | (with_reducible refine Kd.C_drew ?_)))
      (case side2 => exact (Kd.R_reads' HO_322001.out).2.1)
      rintro e w74 ⟨rfl, hb⟩
      refine ⟨_, rfl, ?_⟩
      have n0_ := Aside0.mk (Kd.R_below (zr HO_322001.out) hb)
      have n1_ := Aside0.mk (Kd.R_below (zr HO_323001.out) hb)
      have n2_ := Aside0.mk (blk_below (g := gb310) (o := .cells #[.int .i64 a0_0, .slice A0_1 l0_1.length c0_1] 31 (0, 0)) (zb BK310.out) hb)
      have n3_ := Aside0.mk (blk_below (g := gb311) (o := .cells #[.int .i64 (Int.tmod (wrap64 ((wrap64 ((Int.tmod (wrap64 ((wrap64 (x312000_2 * 193)) + 2549)) 10009) * 193)) + 2549)) 10009)] 3 (0, 0)) (zb BK311.out) hb)
      have n4_ := Aside0.mk (blk_below (g := gb312) (o := .cells #[.int .i64 0, .slice none 0 0] 28 (0, 0)) (zb BK312.out) hb)
      have n5_ := Aside0.mk (blk_below (g := gb321) (o := .cells #[.int .i64 t317, .slice Ao50 t318.length co50] 62 (0, 0)) (zb BK321.out) hb)
      have n6_ := Aside0.mk (blk_below (g := gb322) (o := .cells #[.int .i64 a0_0, u323001] 28 (0, 0)) (zb BK322.out) hb)
      have n7_ := Aside0.mk (below_step (zh HB.out) hb)
      clear HO_322001
      clear HO_323001
      clear BK310
      clear BK311
      clear BK312
      clear BK321
      clear BK322
      clear HB
      have HO_322001 := n0_
      have HO_323001 := n1_
      have BK310 := n2_
      have BK311 := n3_
      have BK312 := n4_
      have BK321 := n5_
      have BK322 := n6_
      have HB := n7_
      clear n0_ n1_ n2_ n3_ n4_ n5_ n6_ n7_
      (try clear hb)
      (try clear hb2)
      (try clear hk)
      (try clear hi)
      refine hK.out _ _ ⟨(blk_cell BK322.out 0).trans rfl, (blk_cell BK322.out 1).trans rfl, (blk_cell BK321.out 0).trans rfl, (blk_cell BK321.out 1).trans rfl⟩ (fun hHeld => ?_)
      clear hK K
      refine norm_ (a' := ?_) ?_ ?_
      rotate_left
      ·show Act.put _ (some 64) _ = _
       simp only [Act.put, List.setIfInBounds_toArray, List.set_cons_zero, List.set_cons_succ, i64_w, i32_w]
       rfl
      refine one_ (i := 6) (N := some 65) (tb 10 127) rfl rfl (one_of HT_.out (by kernel_rfl)) (by decide) (fun K hK => ?_)
      refine value_ (w1 := ?_) (v := ?_) (by rfl) rfl ?_ ?_
      rotate_left 2
      ·go_simp
       constructor
       ·rfl
       ·rfl
      refine hK.out _ _ ⟨(blk_cell (blk_alloc BK322.out _) 0).trans rfl, (blk_cell (blk_alloc BK322.out _) 1).trans rfl, (blk_cell (blk_alloc BK321.out _) 0).trans rfl, (blk_cell (blk_alloc BK321.out _) 1).trans rfl⟩ (fun hHeld => ?_)
      clear hK K
      refine norm_ (a' := ?_) ?_ ?_
      rotate_left
      ·show Act.put _ (some 65) _ = _
       simp only [Act.put, List.setIfInBounds_toArray, List.set_cons_zero, List.set_cons_succ, i64_w, i32_w]
       rfl
      refine one_ (i := 7) (N := some 66) (tb 10 255) rfl rfl (one_of HT_.out (by kernel_rfl)) (by decide) (fun K hK => ?_)
      refine Kd.R_append_step k55 (w0 := w) w.heap.size (by rfl) (.tmp 60) (.tmp 65) 26 55 (.agg #[(.int .i64 0), (.int .i64 0), (.int .i64 0)]) 24 rfl Try.underlying26 info55 rfl (by decide) (by omega) u323001 x323001_2 (⟨t323, t324, t325⟩ : S55) [.int .i64 t323, .int .i64 t324, .int .i64 t325] (fun _ => True) (fun _ => False) rfl rfl ?aP (fun _ hk => hk.elim) ?aF ?aO ?aB ?aS ?aL ?_
      (case aP => exact k55_mkM _ _ _ (⟨t323, t324, t325⟩ : S55))
      (case aB => exact (zh HB.out))
      (case aF => exact (fun _ _ => trivial))
      (case aO => exact (zr HO_323001.out))
      (case aS => exact (below_size (zh HB.out)))
      (case aL => have := LMc62.out; omega)
      intro v327 w75 ho hb hg hat
      rw [← Ny326.out] at ho
      have n0_ := Aside0.mk (Kd.R_over' (zr HO_322001.out) (Kd.R_typed (zr HO_323001.out)) (by decide) hg)
      have n1_ := Aside0.mk (blk_grown (g := gb310) (o := .cells #[.int .i64 a0_0, .slice A0_1 l0_1.length c0_1] 31 (0, 0)) (zb BK310.out) hg (Kd.R_ne HO_323001.out BK310.out (by decide)))
      have n2_ := Aside0.mk (blk_grown (g := gb311) (o := .cells #[.int .i64 (Int.tmod (wrap64 ((wrap64 ((Int.tmod (wrap64 ((wrap64 (x312000_2 * 193)) + 2549)) 10009) * 193)) + 2549)) 10009)] 3 (0, 0)) (zb BK311.out) hg (Kd.R_ne HO_323001.out BK311.out (by decide)))
      have n3_ := Aside0.mk (blk_grown (g := gb312) (o := .cells #[.int .i64 0, .slice none 0 0] 28 (0, 0)) (zb BK312.out) hg (Kd.R_ne HO_323001.out BK312.out (by decide)))
      have n4_ := Aside0.mk (blk_grown (g := gb321) (o := .cells #[.int .i64 t317, .slice Ao50 t318.length co50] 62 (0, 0)) (zb BK321.out) hg (Kd.R_ne HO_323001.out BK321.out (by decide)))
      have n5_ := Aside0.mk (blk_grown (g := gb322) (o := .cells #[.int .i64 a0_0, u323001] 28 (0, 0)) (zb BK322.out) hg (Kd.R_ne HO_323001.out BK322.out (by decide)))
      have n6_ := Aside0.mk (hb)
      have n7_ := Aside0.mk (ho)
      clear HO_322001
      clear BK310
      clear BK311
      clear BK312
      clear BK321
      clear BK322
      clear HB
      clear HO_323001
      have HO_322001 := n0_
      have BK310 := n1_
      have BK311 := n2_
      have BK312 := n3_
      have BK321 := n4_
      have BK322 := n5_
      have HB := n6_
      have HO328 := n7_
      clear n0_ n1_ n2_ n3_ n4_ n5_ n6_ n7_
      clear ho hb hg hat
      obtain ⟨Ao76, co76, eo76⟩ := Kd.R_slice HO328.out
      (first | subst eo76 | (injection eo76 with f1_ f2_ f3_; have f4_ := f1_.symm; have f5_ := f3_.symm; clear f1_ f2_ f3_; subst f4_; subst f5_))
      refine hK.out _ _ ⟨(blk_cell BK322.out 0).trans rfl, (blk_cell BK322.out 1).trans rfl, (blk_cell BK321.out 0).trans rfl, (blk_cell BK321.out 1).trans rfl⟩ (fun hHeld => ?_)
      clear hK K
      refine norm_ (a' := ?_) ?_ ?_
      rotate_left
      ·show Act.put _ (some 66) _ = _
       simp only [Act.put, List.setIfInBounds_toArray, List.set_cons_zero, List.set_cons_succ, i64_w, i32_w]
       rfl
      refine zu (i := 8) (N := some 67) (tb 10 511) rfl rfl HT_ ?_
      refine last_ (i := 9) (N := none) (tb 10 1023) rfl rfl (one_of HT_.out (by kernel_rfl)) (by decide) (fun K hK => ?_)
      have hs77 : w75.cell? ⟨gb322, 1, none⟩ = some (u323001) := (blk_cell BK322.out 1).trans rfl
      have hfs77 := blk_frozen BK322.out 1
      have hns77_0 := NB310_322.out
      have hns77_1 := NB311_322.out
      have hns77_2 := NB312_322.out
      have hns77_3 := NB321_322.out
      have hms77_0 := NB322_310.out
      have hms77_1 := NB322_311.out
      have hms77_2 := NB322_312.out
      have hms77_3 := NB322_321.out
      refine skip_ (w1 := ?_) (by rfl) rfl ?_ ?_
      rotate_left
      ·go_simp
       rfl
      refine hK.out _ _ ?_
      clear hK K
      refine done_ (done_of HT_.out (by kernel_rfl)) ?_
      try go_wp2
      go_roundg k2
      case measure => have := HJ3.out; have := HK2.out; omega
      case rel => exact ⟨(wrap64 (x40_2 + 1)), (Int.tmod (wrap64 ((wrap64 ((Int.tmod (wrap64 ((wrap64 (x312000_2 * 193)) + 2549)) 10009) * 193)) + 2549)) 10009), (y326), (.slice Ao76 y326.length co76), (by first | rfl | (simp; done) | (simp [*]; done)), H', ⟨by have := HJ3.out; have := HK2.out; omega⟩, ⟨by (with_reducible repeat (first | apply Kd.R_alloc | apply Kd.R_drewN | apply Kd.R_drew)); exact Kd.R_mono (Kd.R_far (p := ⟨gb322, 1, none⟩) (Kd.R_types HO_322001.out BK322.out (by decide)) (fun _ hk => hk.2) (.slice Ao76 y326.length co76)) (fun _ hk => trivial)⟩, ⟨by (with_reducible repeat (first | apply Kd.R_alloc | apply Kd.R_drewN | apply Kd.R_drew)); exact Kd.R_mono (Kd.R_far (p := ⟨gb322, 1, none⟩) (Kd.R_types HO328.out BK322.out (by decide)) (fun _ hk => hk.2) (.slice Ao76 y326.length co76)) (fun _ hk => trivial)⟩, ⟨by (with_reducible repeat (first | refine blk_drewN ?_ _ | refine blk_drew ?_ | refine blk_alloc ?_ _)); refine blk_far ?_ NB310_322.out _; (with_reducible repeat (first | refine blk_drewN ?_ _ | refine blk_drew ?_ | refine blk_alloc ?_ _)); exact BK310.out⟩, ⟨by (with_reducible repeat (first | refine blk_drewN ?_ _ | refine blk_drew ?_ | refine blk_alloc ?_ _)); refine blk_far ?_ NB311_322.out _; (with_reducible repeat (first | refine blk_drewN ?_ _ | refine blk_drew ?_ | refine blk_alloc ?_ _)); exact BK311.out⟩, ⟨by (with_reducible repeat (first | refine blk_drewN ?_ _ | refine blk_drew ?_ | refine blk_alloc ?_ _)); refine blk_far ?_ NB312_322.out _; (with_reducible repeat (first | refine blk_drewN ?_ _ | refine blk_drew ?_ | refine blk_alloc ?_ _)); exact BK312.out⟩, ⟨by (with_reducible repeat (first | refine blk_drewN ?_ _ | refine blk_drew ?_ | refine blk_alloc ?_ _)); refine blk_far ?_ NB321_322.out _; (with_reducible repeat (first | refine blk_drewN ?_ _ | refine blk_drew ?_ | refine blk_alloc ?_ _)); exact BK321.out⟩, ⟨by (with_reducible repeat (first | refine blk_drewN ?_ _ | refine blk_drew ?_ | refine blk_alloc ?_ _)); refine blk_put (cs := #[.int .i64 a0_0, u323001]) ?_ 1 _ rfl; (with_reducible repeat (first | refine blk_drewN ?_ _ | refine blk_drew ?_ | refine blk_alloc ?_ _)); exact BK322.out⟩, ⟨zh HB.out⟩⟩
     rw [if_neg c59] at H
     have c59b0 : ((Int.tmod (Int.tmod (wrap64 ((wrap64 (x312000_2 * 193)) + 2549)) 10009) 6) == 0) = false := beq_eq_false_iff_ne.mpr c59
     have c59b1 : ((Int.tmod (Int.tmod (wrap64 ((wrap64 (x312000_2 * 193)) + 2549)) 10009) 6) != 0) = true := bne_iff_ne.mpr c59
     by_cases c78 : (Int.tmod (Int.tmod (wrap64 ((wrap64 (x312000_2 * 193)) + 2549)) 10009) 6) = 2
     ·rw [if_pos c78] at H
      have c78b0 : ((Int.tmod (Int.tmod (wrap64 ((wrap64 (x312000_2 * 193)) + 2549)) 10009) 6) == 2) = true := beq_iff_eq.mpr c78
      have c78b1 : ((Int.tmod (Int.tmod (wrap64 ((wrap64 (x312000_2 * 193)) + 2549)) 10009) 6) != 2) = false := bne_eq_false_iff_eq.mpr c78
      clear c78
      by_cases c79 : t317 = 0
      ·rw [if_pos c79] at H
       exact absurd H (by simp)
      rw [if_neg c79] at H
      have c79b0 : (t317 == 0) = false := beq_eq_false_iff_ne.mpr c79
      have c79b1 : (t317 != 0) = true := bne_iff_ne.mpr c79
      replace H := Option.bind_eq_some_iff.mp H
      obtain ⟨⟨t329, t330, t331⟩, A800, H⟩ := H
      replace H : (if x323001_2.length < 5864062014805 then (impl_MakePuzzle.l0 k2 a1 (wrap64 (x40_2 + 1)) (Int.tmod (wrap64 ((wrap64 ((Int.tmod (wrap64 ((wrap64 (x312000_2 * 193)) + 2549)) 10009) * 193)) + 2549)) 10009) t317 t318 a0_0 (x323001_2 ++ [(⟨t329, t330, t331⟩ : S55)])) else (none)) = some (r1, r2, r3) := H
      have A80 := Aside0.mk A800
      clear A800
      by_cases c81 : x323001_2.length < 5864062014805
      rotate_left
      ·rw [if_neg c81] at H
       exact absurd H (by simp)
      rw [if_pos c81] at H
      have LMc81 := Aside0.mk c81
      clear c81
      obtain ⟨y332, hy332⟩ : ∃ y_ : List (S55), y_ = (x323001_2 ++ [(⟨t329, t330, t331⟩ : S55)]) := ⟨_, rfl⟩
      replace H : (impl_MakePuzzle.l0 k2 a1 (wrap64 (x40_2 + 1)) (Int.tmod (wrap64 ((wrap64 ((Int.tmod (wrap64 ((wrap64 (x312000_2 * 193)) + 2549)) 10009) * 193)) + 2549)) 10009) t317 t318 a0_0 y332) = some (r1, r2, r3) := by first | (rw [hy332]; with_reducible exact H) | (have H2_ := (Option.bind_some _ _).symm.trans H; rw [hy332]; with_reducible exact H2_) | (have H2_ := (Option.bind_some _ _).symm.trans H; with_reducible exact H2_) | with_reducible exact H | (rw [hy332]; exact H) | exact H
      have Ny332 := Aside0.mk hy332
      clear hy332
      have H' := Aside0.mk H
      clear H
      have hnb82 := NB311_310.out
      have hnc82 := NB310_311.out
      have hnb83 := NB311_312.out
      have hnc83 := NB312_311.out
      have hnb84 := NB311_321.out
      have hnc84 := NB321_311.out
      have hnb85 := NB311_322.out
      have hnc85 := NB322_311.out
      have hcz86_0 : wr.cell? ⟨gb311, 0, none⟩ = some (.int .i64 x312000_2) := (blk_cell BK311.out 0).trans rfl
      have hfz86_0 := blk_frozen BK311.out 0
      have hnb87 := NB321_310.out
      have hnc87 := NB310_321.out
      have hnb88 := NB321_312.out
      have hnc88 := NB312_321.out
      have hnb89 := NB321_322.out
      have hnc89 := NB322_321.out
      have hcz90_0 : wr.cell? ⟨gb321, 0, none⟩ = some (.int .i64 t317) := (blk_cell BK321.out 0).trans rfl
      have hcz90_1 : wr.cell? ⟨gb321, 1, none⟩ = some (.slice Ao50 t318.length co50) := (blk_cell BK321.out 1).trans rfl
      have hfz90_0 := blk_frozen BK321.out 0
      have hfz90_1 := blk_frozen BK321.out 1
      try go_wp2
      have n0_ : Aside0 (Kd.R Kd.bool 4 ((wr.setCell ⟨gb311, 0, none⟩ (.int .i64 (Int.tmod (wrap64 ((wrap64 (x312000_2 * 193)) + 2549)) 10009))).setCell ⟨gb311, 0, none⟩ (.int .i64 (Int.tmod (wrap64 ((wrap64 ((Int.tmod (wrap64 ((wrap64 (x312000_2 * 193)) + 2549)) 10009) * 193)) + 2549)) 10009))) w.heap.size (fun _ => True) (.slice Ao50 t318.length co50) t318) := ⟨by (with_reducible repeat (first | apply Kd.R_alloc | apply Kd.R_drewN | apply Kd.R_drew)); exact Kd.R_mono (Kd.R_far (p := ⟨gb311, 0, none⟩) (Kd.R_far (p := ⟨gb311, 0, none⟩) (Kd.R_types HO_322001.out BK311.out (by decide)) (fun _ hk => hk.2) (.int .i64 (Int.tmod (wrap64 ((wrap64 (x312000_2 * 193)) + 2549)) 10009))) (fun _ hk => hk.2) (.int .i64 (Int.tmod (wrap64 ((wrap64 ((Int.tmod (wrap64 ((wrap64 (x312000_2 * 193)) + 2549)) 10009) * 193)) + 2549)) 10009))) (fun _ hk => trivial)⟩
      have n1_ : Aside0 (Kd.R k55 55 ((wr.setCell ⟨gb311, 0, none⟩ (.int .i64 (Int.tmod (wrap64 ((wrap64 (x312000_2 * 193)) + 2549)) 10009))).setCell ⟨gb311, 0, none⟩ (.int .i64 (Int.tmod (wrap64 ((wrap64 ((Int.tmod (wrap64 ((wrap64 (x312000_2 * 193)) + 2549)) 10009) * 193)) + 2549)) 10009))) w.heap.size (fun _ => True) u323001 x323001_2) := ⟨by (with_reducible repeat (first | apply Kd.R_alloc | apply Kd.R_drewN | apply Kd.R_drew)); exact Kd.R_mono (Kd.R_far (p := ⟨gb311, 0, none⟩) (Kd.R_far (p := ⟨gb311, 0, none⟩) (Kd.R_types HO_323001.out BK311.out (by decide)) (fun _ hk => hk.2) (.int .i64 (Int.tmod (wrap64 ((wrap64 (x312000_2 * 193)) + 2549)) 10009))) (fun _ hk => hk.2) (.int .i64 (Int.tmod (wrap64 ((wrap64 ((Int.tmod (wrap64 ((wrap64 (x312000_2 * 193)) + 2549)) 10009) * 193)) + 2549)) 10009))) (fun _ hk => trivial)⟩
      have n2_ : Aside0 (((wr.setCell ⟨gb311, 0, none⟩ (.int .i64 (Int.tmod (wrap64 ((wrap64 (x312000_2 * 193)) + 2549)) 10009))).setCell ⟨gb311, 0, none⟩ (.int .i64 (Int.tmod (wrap64 ((wrap64 ((Int.tmod (wrap64 ((wrap64 (x312000_2 * 193)) + 2549)) 10009) * 193)) + 2549)) 10009))).heap[gb310]? = some (.cells #[.int .i64 a0_0, .slice A0_1 l0_1.length c0_1] 31 (0, 0))) := ⟨by (with_reducible repeat (first | refine blk_drewN ?_ _ | refine blk_drew ?_ | refine blk_alloc ?_ _)); refine blk_far ?_ NB310_311.out _; (with_reducible repeat (first | refine blk_drewN ?_ _ | refine blk_drew ?_ | refine blk_alloc ?_ _)); refine blk_far ?_ NB310_311.out _; (with_reducible repeat (first | refine blk_drewN ?_ _ | refine blk_drew ?_ | refine blk_alloc ?_ _)); exact BK310.out⟩
      have n3_ : Aside0 (((wr.setCell ⟨gb311, 0, none⟩ (.int .i64 (Int.tmod (wrap64 ((wrap64 (x312000_2 * 193)) + 2549)) 10009))).setCell ⟨gb311, 0, none⟩ (.int .i64 (Int.tmod (wrap64 ((wrap64 ((Int.tmod (wrap64 ((wrap64 (x312000_2 * 193)) + 2549)) 10009) * 193)) + 2549)) 10009))).heap[gb311]? = some (.cells #[.int .i64 (Int.tmod (wrap64 ((wrap64 ((Int.tmod (wrap64 ((wrap64 (x312000_2 * 193)) + 2549)) 10009) * 193)) + 2549)) 10009)] 3 (0, 0))) := ⟨by (with_reducible repeat (first | refine blk_drewN ?_ _ | refine blk_drew ?_ | refine blk_alloc ?_ _)); refine blk_put (cs := #[.int .i64 (Int.tmod (wrap64 ((wrap64 (x312000_2 * 193)) + 2549)) 10009)]) ?_ 0 _ rfl; (with_reducible repeat (first | refine blk_drewN ?_ _ | refine blk_drew ?_ | refine blk_alloc ?_ _)); refine blk_put (cs := #[.int .i64 x312000_2]) ?_ 0 _ rfl; (with_reducible repeat (first | refine blk_drewN ?_ _ | refine blk_drew ?_ | refine blk_alloc ?_ _)); exact BK311.out⟩
      have n4_ : Aside0 (((wr.setCell ⟨gb311, 0, none⟩ (.int .i64 (Int.tmod (wrap64 ((wrap64 (x312000_2 * 193)) + 2549)) 10009))).setCell ⟨gb311, 0, none⟩ (.int .i64 (Int.tmod (wrap64 ((wrap64 ((Int.tmod (wrap64 ((wrap64 (x312000_2 * 193)) + 2549)) 10009) * 193)) + 2549)) 10009))).heap[gb312]? = some (.cells #[.int .i64 0, .slice none 0 0] 28 (0, 0))) := ⟨by (with_reducible repeat (first | refine blk_drewN ?_ _ | refine blk_drew ?_ | refine blk_alloc ?_ _)); refine blk_far ?_ NB312_311.out _; (with_reducible repeat (first | refine blk_drewN ?_ _ | refine blk_drew ?_ | refine blk_alloc ?_ _)); refine blk_far ?_ NB312_311.out _; (with_reducible repeat (first | refine blk_drewN ?_ _ | refine blk_drew ?_ | refine blk_alloc ?_ _)); exact BK312.out⟩
      have n5_ : Aside0 (((wr.setCell ⟨gb311, 0, none⟩ (.int .i64 (Int.tmod (wrap64 ((wrap64 (x312000_2 * 193)) + 2549)) 10009))).setCell ⟨gb311, 0, none⟩ (.int .i64 (Int.tmod (wrap64 ((wrap64 ((Int.tmod (wrap64 ((wrap64 (x312000_2 * 193)) + 2549)) 10009) * 193)) + 2549)) 10009))).heap[gb321]? = some (.cells #[.int .i64 t317, .slice Ao50 t318.length co50] 62 (0, 0))) := ⟨by (with_reducible repeat (first | refine blk_drewN ?_ _ | refine blk_drew ?_ | refine blk_alloc ?_ _)); refine blk_far ?_ NB321_311.out _; (with_reducible repeat (first | refine blk_drewN ?_ _ | refine blk_drew ?_ | refine blk_alloc ?_ _)); refine blk_far ?_ NB321_311.out _; (with_reducible repeat (first | refine blk_drewN ?_ _ | refine blk_drew ?_ | refine blk_alloc ?_ _)); exact BK321.out⟩
      have n6_ : Aside0 (((wr.setCell ⟨gb311, 0, none⟩ (.int .i64 (Int.tmod (wrap64 ((wrap64 (x312000_2 * 193)) + 2549)) 10009))).setCell ⟨gb311, 0, none⟩ (.int .i64 (Int.tmod (wrap64 ((wrap64 ((Int.tmod (wrap64 ((wrap64 (x312000_2 * 193)) + 2549)) 10009) * 193)) + 2549)) 10009))).heap[gb322]? = some (.cells #[.int .i64 a0_0, u323001] 28 (0, 0))) := ⟨by (with_reducible repeat (first | refine blk_drewN ?_ _ | refine blk_drew ?_ | refine blk_alloc ?_ _)); refine blk_far ?_ NB322_311.out _; (with_reducible repeat (first | refine blk_drewN ?_ _ | refine blk_drew ?_ | refine blk_alloc ?_ _)); refine blk_far ?_ NB322_311.out _; (with_reducible repeat (first | refine blk_drewN ?_ _ | refine blk_drew ?_ | refine blk_alloc ?_ _)); exact BK322.out⟩
      have n7_ : Aside0 (Below w.heap.size w ((wr.setCell ⟨gb311, 0, none⟩ (.int .i64 (Int.tmod (wrap64 ((wrap64 (x312000_2 * 193)) + 2549)) 10009))).setCell ⟨gb311, 0, none⟩ (.int .i64 (Int.tmod (wrap64 ((wrap64 ((Int.tmod (wrap64 ((wrap64 (x312000_2 * 193)) + 2549)) 10009) * 193)) + 2549)) 10009)))) := ⟨zh HB.out⟩
      (try clear HO_322001)
      (try clear HO_323001)
      (try clear BK310)
      (try clear BK311)
      (try clear BK312)
      (try clear BK321)
      (try clear BK322)
      (try clear HB)
      generalize ((wr.setCell ⟨gb311, 0, none⟩ (.int .i64 (Int.tmod (wrap64 ((wrap64 (x312000_2 * 193)) + 2549)) 10009))).setCell ⟨gb311, 0, none⟩ (.int .i64 (Int.tmod (wrap64 ((wrap64 ((Int.tmod (wrap64 ((wrap64 (x312000_2 * 193)) + 2549)) 10009) * 193)) + 2549)) 10009))) = w91 at n0_ n1_ n2_ n3_ n4_ n5_ n6_ n7_ ⊢
      have HO_322001 := n0_
      have HO_323001 := n1_
      have BK310 := n2_
      have BK311 := n3_
      have BK312 := n4_
      have BK321 := n5_
      have BK322 := n6_
      have HB := n7_
      clear n0_ n1_ n2_ n3_ n4_ n5_ n6_ n7_
      have n0_ := Aside0.mk (Kd.R_drew HO_322001.out)
      have n1_ := Aside0.mk (Kd.R_drew HO_323001.out)
      have n2_ := Aside0.mk (blk_drew BK310.out)
      have n3_ := Aside0.mk (blk_drew BK311.out)
      have n4_ := Aside0.mk (blk_drew BK312.out)
      have n5_ := Aside0.mk (blk_drew BK321.out)
      have n6_ := Aside0.mk (blk_drew BK322.out)
      have n7_ := Aside0.mk (below_drew1 HB.out)
      clear HO_322001
      clear HO_323001
      clear BK310
      clear BK311
      clear BK312
      clear BK321
      clear BK322
      clear HB
      have HO_322001 := n0_
      have HO_323001 := n1_
      have BK310 := n2_
      have BK311 := n3_
      have BK312 := n4_
      have BK321 := n5_
      have BK322 := n6_
      have HB := n7_
      clear n0_ n1_ n2_ n3_ n4_ n5_ n6_ n7_
      refine start_ (n := 10) (S := fun w' => w'.cell? ⟨gb322, 0, none⟩ = some (.int .i64 a0_0) ∧ w'.cell? ⟨gb322, 1, none⟩ = some (u323001) ∧ w'.cell? ⟨gb321, 0, none⟩ = some (.int .i64 t317) ∧ w'.cell? ⟨gb321, 1, none⟩ = some (.slice Ao50 t318.length co50)) (ds := [9]) (tb 10 0) (by kernel_rfl) rfl rfl ⟨(blk_cell BK322.out 0).trans rfl, (blk_cell BK322.out 1).trans rfl, (blk_cell BK321.out 0).trans rfl, (blk_cell BK321.out 1).trans rfl⟩ (fun hHeld => ?_); refine with_tabW impl_MakePuzzle.tab15 impl_MakePuzzle.bits15 (fun HT_ HW_ => ?_)
      generalize w91.drew = w92 at HO_322001 HO_323001 BK310 BK311 BK312 BK321 BK322 HB hHeld ⊢
      refine zu (i := 0) (N := some 59) (tb 10 1) rfl rfl HT_ ?_
      refine zu (i := 3) (N := some 62) (tb 10 9) rfl rfl HT_ ?_
      refine zu (i := 4) (N := some 63) (tb 10 25) rfl rfl HT_ ?_
      refine take_ (i := 1) (N := some 60) (v := ?_) (a' := ?_) (tb 10 27) rfl rfl (take_ofW HT_.out HW_.out (by kernel_rfl)) (fun _ _ _ h => h) (Or.inl ⟨by rfl, ?_⟩) hHeld ?_ ?_
      rotate_left
      ·rintro w' ⟨s0, s1, s2, s3⟩
       go_simp
       with_reducible rfl
      rotate_left
      ·simp only [Act.put, List.setIfInBounds_toArray, List.set_cons_zero, List.set_cons_succ, i64_w, i32_w]
       rfl
      refine take_ (i := 2) (N := some 61) (v := ?_) (a' := ?_) (tb 10 31) rfl rfl (take_ofW HT_.out HW_.out (by kernel_rfl)) (fun _ _ _ h => h) (Or.inl ⟨by rfl, ?_⟩) hHeld ?_ ?_
      rotate_left
      ·rintro w' ⟨s0, s1, s2, s3⟩
       go_simp
       with_reducible rfl
      rotate_left
      ·simp only [Act.put, List.setIfInBounds_toArray, List.set_cons_zero, List.set_cons_succ, i64_w, i32_w]
       rfl
      refine one_ (i := 5) (N := some 64) (tb 10 63) rfl rfl (one_of HT_.out (by kernel_rfl)) (by decide) (fun K hK => ?_)
      refine goes_ Try.func46 (by kernel_rfl) rfl #[.agg #[.int .i64 t317, .slice Ao50 t318.length co50], .int .i64 (Int.tmod (Int.tmod (wrap64 ((wrap64 (x312000_2 * 193)) + 2549)) 10009) 6), .int .i64 (Int.tmod (Int.tmod (wrap64 ((wrap64 ((Int.tmod (wrap64 ((wrap64 (x312000_2 * 193)) + 2549)) 10009) * 193)) + 2549)) 10009) t317)] (by rfl) rfl rfl (by (try simp only [List.map_toArray, List.map_cons, List.map_nil]); first | done | rfl | (simp only [List.length_drop, List.length_take]; rfl)) ?_
      with_reducible refine (impl_votes_told.calls k2 t317 _ _ t318 (Int.tmod (Int.tmod (wrap64 ((wrap64 (x312000_2 * 193)) + 2549)) 10009) 6) (Int.tmod (Int.tmod (wrap64 ((wrap64 ((Int.tmod (wrap64 ((wrap64 (x312000_2 * 193)) + 2549)) 10009) * 193)) + 2549)) 10009) t317) t329 t330 t331 _ ?side1 ?side2 A80.out).mono ?_
      (case side1 => repeat (first | exact (Kd.R_reads' HO_322001.out).2.2 | (with_reducible refine Kd.C_alloc ?_ _) | (with_reducible refine Kd.C_drewN ?_ _) | (with_reducible refine Kd.C_drew ?_)))
      (case side2 => exact (Kd.R_reads' HO_322001.out).2.1)
      rintro e w93 ⟨rfl, hb⟩
      refine ⟨_, rfl, ?_⟩
      have n0_ := Aside0.mk (Kd.R_below (zr HO_322001.out) hb)
      have n1_ := Aside0.mk (Kd.R_below (zr HO_323001.out) hb)
      have n2_ := Aside0.mk (blk_below (g := gb310) (o := .cells #[.int .i64 a0_0, .slice A0_1 l0_1.length c0_1] 31 (0, 0)) (zb BK310.out) hb)
      have n3_ := Aside0.mk (blk_below (g := gb311) (o := .cells #[.int .i64 (Int.tmod (wrap64 ((wrap64 ((Int.tmod (wrap64 ((wrap64 (x312000_2 * 193)) + 2549)) 10009) * 193)) + 2549)) 10009)] 3 (0, 0)) (zb BK311.out) hb)
      have n4_ := Aside0.mk (blk_below (g := gb312) (o := .cells #[.int .i64 0, .slice none 0 0] 28 (0, 0)) (zb BK312.out) hb)
      have n5_ := Aside0.mk (blk_below (g := gb321) (o := .cells #[.int .i64 t317, .slice Ao50 t318.length co50] 62 (0, 0)) (zb BK321.out) hb)
      have n6_ := Aside0.mk (blk_below (g := gb322) (o := .cells #[.int .i64 a0_0, u323001] 28 (0, 0)) (zb BK322.out) hb)
      have n7_ := Aside0.mk (below_step (zh HB.out) hb)
      clear HO_322001
      clear HO_323001
      clear BK310
      clear BK311
      clear BK312
      clear BK321
      clear BK322
      clear HB
      have HO_322001 := n0_
      have HO_323001 := n1_
      have BK310 := n2_
      have BK311 := n3_
      have BK312 := n4_
      have BK321 := n5_
      have BK322 := n6_
      have HB := n7_
      clear n0_ n1_ n2_ n3_ n4_ n5_ n6_ n7_
      (try clear hb)
      (try clear hb2)
      (try clear hk)
      (try clear hi)
      refine hK.out _ _ ⟨(blk_cell BK322.out 0).trans rfl, (blk_cell BK322.out 1).trans rfl, (blk_cell BK321.out 0).trans rfl, (blk_cell BK321.out 1).trans rfl⟩ (fun hHeld => ?_)
      clear hK K
      refine norm_ (a' := ?_) ?_ ?_
      rotate_left
      ·show Act.put _ (some 64) _ = _
       simp only [Act.put, List.setIfInBounds_toArray, List.set_cons_zero, List.set_cons_succ, i64_w, i32_w]
       rfl
      refine one_ (i := 6) (N := some 65) (tb 10 127) rfl rfl (one_of HT_.out (by kernel_rfl)) (by decide) (fun K hK => ?_)
      refine value_ (w1 := ?_) (v := ?_) (by rfl) rfl ?_ ?_
      rotate_left 2
      ·go_simp
       constructor
       ·rfl
       ·rfl
      refine hK.out _ _ ⟨(blk_cell (blk_alloc BK322.out _) 0).trans rfl, (blk_cell (blk_alloc BK322.out _) 1).trans rfl, (blk_cell (blk_alloc BK321.out _) 0).trans rfl, (blk_cell (blk_alloc BK321.out _) 1).trans rfl⟩ (fun hHeld => ?_)
      clear hK K
      refine norm_ (a' := ?_) ?_ ?_
      rotate_left
      ·show Act.put _ (some 65) _ = _
       simp only [Act.put, List.setIfInBounds_toArray, List.set_cons_zero, List.set_cons_succ, i64_w, i32_w]
       rfl
      refine one_ (i := 7) (N := some 66) (tb 10 255) rfl rfl (one_of HT_.out (by kernel_rfl)) (by decide) (fun K hK => ?_)
      refine Kd.R_append_step k55 (w0 := w) w.heap.size (by rfl) (.tmp 60) (.tmp 65) 26 55 (.agg #[(.int .i64 0), (.int .i64 0), (.int .i64 0)]) 24 rfl Try.underlying26 info55 rfl (by decide) (by omega) u323001 x323001_2 (⟨t329, t330, t331⟩ : S55) [.int .i64 t329, .int .i64 t330, .int .i64 t331] (fun _ => True) (fun _ => False) rfl rfl ?aP (fun _ hk => hk.elim) ?aF ?aO ?aB ?aS ?aL ?_
      (case aP => exact k55_mkM _ _ _ (⟨t329, t330, t331⟩ : S55))
      (case aB => exact (zh HB.out))
      (case aF => exact (fun _ _ => trivial))
      (case aO => exact (zr HO_323001.out))
      (case aS => exact (below_size (zh HB.out)))
      (case aL => have := LMc81.out; omega)
      intro v333 w94 ho hb hg hat
      rw [← Ny332.out] at ho
      have n0_ := Aside0.mk (Kd.R_over' (zr HO_322001.out) (Kd.R_typed (zr HO_323001.out)) (by decide) hg)
      have n1_ := Aside0.mk (blk_grown (g := gb310) (o := .cells #[.int .i64 a0_0, .slice A0_1 l0_1.length c0_1] 31 (0, 0)) (zb BK310.out) hg (Kd.R_ne HO_323001.out BK310.out (by decide)))
      have n2_ := Aside0.mk (blk_grown (g := gb311) (o := .cells #[.int .i64 (Int.tmod (wrap64 ((wrap64 ((Int.tmod (wrap64 ((wrap64 (x312000_2 * 193)) + 2549)) 10009) * 193)) + 2549)) 10009)] 3 (0, 0)) (zb BK311.out) hg (Kd.R_ne HO_323001.out BK311.out (by decide)))
      have n3_ := Aside0.mk (blk_grown (g := gb312) (o := .cells #[.int .i64 0, .slice none 0 0] 28 (0, 0)) (zb BK312.out) hg (Kd.R_ne HO_323001.out BK312.out (by decide)))
      have n4_ := Aside0.mk (blk_grown (g := gb321) (o := .cells #[.int .i64 t317, .slice Ao50 t318.length co50] 62 (0, 0)) (zb BK321.out) hg (Kd.R_ne HO_323001.out BK321.out (by decide)))
      have n5_ := Aside0.mk (blk_grown (g := gb322) (o := .cells #[.int .i64 a0_0, u323001] 28 (0, 0)) (zb BK322.out) hg (Kd.R_ne HO_323001.out BK322.out (by decide)))
      have n6_ := Aside0.mk (hb)
      have n7_ := Aside0.mk (ho)
      clear HO_322001
      clear BK310
      clear BK311
      clear BK312
      clear BK321
      clear BK322
      clear HB
      clear HO_323001
      have HO_322001 := n0_
      have BK310 := n1_
      have BK311 := n2_
      have BK312 := n3_
      have BK321 := n4_
      have BK322 := n5_
      have HB := n6_
      have HO334 := n7_
      clear n0_ n1_ n2_ n3_ n4_ n5_ n6_ n7_
      clear ho hb hg hat
      obtain ⟨Ao95, co95, eo95⟩ := Kd.R_slice HO334.out
      (first | subst eo95 | (injection eo95 with f1_ f2_ f3_; have f4_ := f1_.symm; have f5_ := f3_.symm; clear f1_ f2_ f3_; subst f4_; subst f5_))
      refine hK.out _ _ ⟨(blk_cell BK322.out 0).trans rfl, (blk_cell BK322.out 1).trans rfl, (blk_cell BK321.out 0).trans rfl, (blk_cell BK321.out 1).trans rfl⟩ (fun hHeld => ?_)
      clear hK K
      refine norm_ (a' := ?_) ?_ ?_
      rotate_left
      ·show Act.put _ (some 66) _ = _
       simp only [Act.put, List.setIfInBounds_toArray, List.set_cons_zero, List.set_cons_succ, i64_w, i32_w]
       rfl
      refine zu (i := 8) (N := some 67) (tb 10 511) rfl rfl HT_ ?_
      refine last_ (i := 9) (N := none) (tb 10 1023) rfl rfl (one_of HT_.out (by kernel_rfl)) (by decide) (fun K hK => ?_)
      have hs96 : w94.cell? ⟨gb322, 1, none⟩ = some (u323001) := (blk_cell BK322.out 1).trans rfl
      have hfs96 := blk_frozen BK322.out 1
      have hns96_0 := NB310_322.out
      have hns96_1 := NB311_322.out
      have hns96_2 := NB312_322.out
      have hns96_3 := NB321_322.out
      have hms96_0 := NB322_310.out
      have hms96_1 := NB322_311.out
      have hms96_2 := NB322_312.out
      have hms96_3 := NB322_321.out
      refine skip_ (w1 := ?_) (by rfl) rfl ?_ ?_
      rotate_left
      ·go_simp
       rfl
      refine hK.out _ _ ?_
      clear hK K
      refine done_ (done_of HT_.out (by kernel_rfl)) ?_
      try go_wp2
      go_roundg k2
      case measure => have := HJ3.out; have := HK2.out; omega
      case rel => exact ⟨(wrap64 (x40_2 + 1)), (Int.tmod (wrap64 ((wrap64 ((Int.tmod (wrap64 ((wrap64 (x312000_2 * 193)) + 2549)) 10009) * 193)) + 2549)) 10009), (y332), (.slice Ao95 y332.length co95), (by first | rfl | (simp; done) | (simp [*]; done)), H', ⟨by have := HJ3.out; have := HK2.out; omega⟩, ⟨by (with_reducible repeat (first | apply Kd.R_alloc | apply Kd.R_drewN | apply Kd.R_drew)); exact Kd.R_mono (Kd.R_far (p := ⟨gb322, 1, none⟩) (Kd.R_types HO_322001.out BK322.out (by decide)) (fun _ hk => hk.2) (.slice Ao95 y332.length co95)) (fun _ hk => trivial)⟩, ⟨by (with_reducible repeat (first | apply Kd.R_alloc | apply Kd.R_drewN | apply Kd.R_drew)); exact Kd.R_mono (Kd.R_far (p := ⟨gb322, 1, none⟩) (Kd.R_types HO334.out BK322.out (by decide)) (fun _ hk => hk.2) (.slice Ao95 y332.length co95)) (fun _ hk => trivial)⟩, ⟨by (with_reducible repeat (first | refine blk_drewN ?_ _ | refine blk_drew ?_ | refine blk_alloc ?_ _)); refine blk_far ?_ NB310_322.out _; (with_reducible repeat (first | refine blk_drewN ?_ _ | refine blk_drew ?_ | refine blk_alloc ?_ _)); exact BK310.out⟩, ⟨by (with_reducible repeat (first | refine blk_drewN ?_ _ | refine blk_drew ?_ | refine blk_alloc ?_ _)); refine blk_far ?_ NB311_322.out _; (with_reducible repeat (first | refine blk_drewN ?_ _ | refine blk_drew ?_ | refine blk_alloc ?_ _)); exact BK311.out⟩, ⟨by (with_reducible repeat (first | refine blk_drewN ?_ _ | refine blk_drew ?_ | refine blk_alloc ?_ _)); refine blk_far ?_ NB312_322.out _; (with_reducible repeat (first | refine blk_drewN ?_ _ | refine blk_drew ?_ | refine blk_alloc ?_ _)); exact BK312.out⟩, ⟨by (with_reducible repeat (first | refine blk_drewN ?_ _ | refine blk_drew ?_ | refine blk_alloc ?_ _)); refine blk_far ?_ NB321_322.out _; (with_reducible repeat (first | refine blk_drewN ?_ _ | refine blk_drew ?_ | refine blk_alloc ?_ _)); exact BK321.out⟩, ⟨by (with_reducible repeat (first | refine blk_drewN ?_ _ | refine blk_drew ?_ | refine blk_alloc ?_ _)); refine blk_put (cs := #[.int .i64 a0_0, u323001]) ?_ 1 _ rfl; (with_reducible repeat (first | refine blk_drewN ?_ _ | refine blk_drew ?_ | refine blk_alloc ?_ _)); exact BK322.out⟩, ⟨zh HB.out⟩⟩
     rw [if_neg c78] at H
     have c78b0 : ((Int.tmod (Int.tmod (wrap64 ((wrap64 (x312000_2 * 193)) + 2549)) 10009) 6) == 2) = false := beq_eq_false_iff_ne.mpr c78
     have c78b1 : ((Int.tmod (Int.tmod (wrap64 ((wrap64 (x312000_2 * 193)) + 2549)) 10009) 6) != 2) = true := bne_iff_ne.mpr c78
     by_cases c97 : (Int.tmod (Int.tmod (wrap64 ((wrap64 (x312000_2 * 193)) + 2549)) 10009) 6) = 3
     rotate_left
     ·rw [if_neg c97] at H
      have c97b0 : ((Int.tmod (Int.tmod (wrap64 ((wrap64 (x312000_2 * 193)) + 2549)) 10009) 6) == 3) = false := beq_eq_false_iff_ne.mpr c97
      have c97b1 : ((Int.tmod (Int.tmod (wrap64 ((wrap64 (x312000_2 * 193)) + 2549)) 10009) 6) != 3) = true := bne_iff_ne.mpr c97
      replace H := Option.bind_eq_some_iff.mp H
      obtain ⟨⟨t341, t342, t343⟩, A1160, H⟩ := H
      replace H : (if x323001_2.length < 5864062014805 then (impl_MakePuzzle.l0 k2 a1 (wrap64 (x40_2 + 1)) (Int.tmod (wrap64 ((wrap64 (x312000_2 * 193)) + 2549)) 10009) t317 t318 a0_0 (x323001_2 ++ [(⟨t341, t342, t343⟩ : S55)])) else (none)) = some (r1, r2, r3) := H
      have A116 := Aside0.mk A1160
      clear A1160
      by_cases c117 : x323001_2.length < 5864062014805
      rotate_left
      ·rw [if_neg c117] at H
       exact absurd H (by simp)
      rw [if_pos c117] at H
      have LMc117 := Aside0.mk c117
      clear c117
      obtain ⟨y344, hy344⟩ : ∃ y_ : List (S55), y_ = (x323001_2 ++ [(⟨t341, t342, t343⟩ : S55)]) := ⟨_, rfl⟩
      replace H : (impl_MakePuzzle.l0 k2 a1 (wrap64 (x40_2 + 1)) (Int.tmod (wrap64 ((wrap64 (x312000_2 * 193)) + 2549)) 10009) t317 t318 a0_0 y344) = some (r1, r2, r3) := by first | (rw [hy344]; with_reducible exact H) | (have H2_ := (Option.bind_some _ _).symm.trans H; rw [hy344]; with_reducible exact H2_) | (have H2_ := (Option.bind_some _ _).symm.trans H; with_reducible exact H2_) | with_reducible exact H | (rw [hy344]; exact H) | exact H
      have Ny344 := Aside0.mk hy344
      clear hy344
      have H' := Aside0.mk H
      clear H
      have hnb118 := NB311_310.out
      have hnc118 := NB310_311.out
      have hnb119 := NB311_312.out
      have hnc119 := NB312_311.out
      have hnb120 := NB311_321.out
      have hnc120 := NB321_311.out
      have hnb121 := NB311_322.out
      have hnc121 := NB322_311.out
      have hcz122_0 : wr.cell? ⟨gb311, 0, none⟩ = some (.int .i64 x312000_2) := (blk_cell BK311.out 0).trans rfl
      have hfz122_0 := blk_frozen BK311.out 0
      try go_wp2
      have n0_ : Aside0 (Kd.R Kd.bool 4 (wr.setCell ⟨gb311, 0, none⟩ (.int .i64 (Int.tmod (wrap64 ((wrap64 (x312000_2 * 193)) + 2549)) 10009))) w.heap.size (fun _ => True) (.slice Ao50 t318.length co50) t318) := ⟨by (with_reducible repeat (first | apply Kd.R_alloc | apply Kd.R_drewN | apply Kd.R_drew)); exact Kd.R_mono (Kd.R_far (p := ⟨gb311, 0, none⟩) (Kd.R_types HO_322001.out BK311.out (by decide)) (fun _ hk => hk.2) (.int .i64 (Int.tmod (wrap64 ((wrap64 (x312000_2 * 193)) + 2549)) 10009))) (fun _ hk => trivial)⟩
      have n1_ : Aside0 (Kd.R k55 55 (wr.setCell ⟨gb311, 0, none⟩ (.int .i64 (Int.tmod (wrap64 ((wrap64 (x312000_2 * 193)) + 2549)) 10009))) w.heap.size (fun _ => True) u323001 x323001_2) := ⟨by (with_reducible repeat (first | apply Kd.R_alloc | apply Kd.R_drewN | apply Kd.R_drew)); exact Kd.R_mono (Kd.R_far (p := ⟨gb311, 0, none⟩) (Kd.R_types HO_323001.out BK311.out (by decide)) (fun _ hk => hk.2) (.int .i64 (Int.tmod (wrap64 ((wrap64 (x312000_2 * 193)) + 2549)) 10009))) (fun _ hk => trivial)⟩
      have n2_ : Aside0 ((wr.setCell ⟨gb311, 0, none⟩ (.int .i64 (Int.tmod (wrap64 ((wrap64 (x312000_2 * 193)) + 2549)) 10009))).heap[gb310]? = some (.cells #[.int .i64 a0_0, .slice A0_1 l0_1.length c0_1] 31 (0, 0))) := ⟨by (with_reducible repeat (first | refine blk_drewN ?_ _ | refine blk_drew ?_ | refine blk_alloc ?_ _)); refine blk_far ?_ NB310_311.out _; (with_reducible repeat (first | refine blk_drewN ?_ _ | refine blk_drew ?_ | refine blk_alloc ?_ _)); exact BK310.out⟩
      have n3_ : Aside0 ((wr.setCell ⟨gb311, 0, none⟩ (.int .i64 (Int.tmod (wrap64 ((wrap64 (x312000_2 * 193)) + 2549)) 10009))).heap[gb311]? = some (.cells #[.int .i64 (Int.tmod (wrap64 ((wrap64 (x312000_2 * 193)) + 2549)) 10009)] 3 (0, 0))) := ⟨by (with_reducible repeat (first | refine blk_drewN ?_ _ | refine blk_drew ?_ | refine blk_alloc ?_ _)); refine blk_put (cs := #[.int .i64 x312000_2]) ?_ 0 _ rfl; (with_reducible repeat (first | refine blk_drewN ?_ _ | refine blk_drew ?_ | refine blk_alloc ?_ _)); exact BK311.out⟩
      have n4_ : Aside0 ((wr.setCell ⟨gb311, 0, none⟩ (.int .i64 (Int.tmod (wrap64 ((wrap64 (x312000_2 * 193)) + 2549)) 10009))).heap[gb312]? = some (.cells #[.int .i64 0, .slice none 0 0] 28 (0, 0))) := ⟨by (with_reducible repeat (first | refine blk_drewN ?_ _ | refine blk_drew ?_ | refine blk_alloc ?_ _)); refine blk_far ?_ NB312_311.out _; (with_reducible repeat (first | refine blk_drewN ?_ _ | refine blk_drew ?_ | refine blk_alloc ?_ _)); exact BK312.out⟩
      have n5_ : Aside0 ((wr.setCell ⟨gb311, 0, none⟩ (.int .i64 (Int.tmod (wrap64 ((wrap64 (x312000_2 * 193)) + 2549)) 10009))).heap[gb321]? = some (.cells #[.int .i64 t317, .slice Ao50 t318.length co50] 62 (0, 0))) := ⟨by (with_reducible repeat (first | refine blk_drewN ?_ _ | refine blk_drew ?_ | refine blk_alloc ?_ _)); refine blk_far ?_ NB321_311.out _; (with_reducible repeat (first | refine blk_drewN ?_ _ | refine blk_drew ?_ | refine blk_alloc ?_ _)); exact BK321.out⟩
      have n6_ : Aside0 ((wr.setCell ⟨gb311, 0, none⟩ (.int .i64 (Int.tmod (wrap64 ((wrap64 (x312000_2 * 193)) + 2549)) 10009))).heap[gb322]? = some (.cells #[.int .i64 a0_0, u323001] 28 (0, 0))) := ⟨by (with_reducible repeat (first | refine blk_drewN ?_ _ | refine blk_drew ?_ | refine blk_alloc ?_ _)); refine blk_far ?_ NB322_311.out _; (with_reducible repeat (first | refine blk_drewN ?_ _ | refine blk_drew ?_ | refine blk_alloc ?_ _)); exact BK322.out⟩
      have n7_ : Aside0 (Below w.heap.size w (wr.setCell ⟨gb311, 0, none⟩ (.int .i64 (Int.tmod (wrap64 ((wrap64 (x312000_2 * 193)) + 2549)) 10009)))) := ⟨zh HB.out⟩
      (try clear HO_322001)
      (try clear HO_323001)
      (try clear BK310)
      (try clear BK311)
      (try clear BK312)
      (try clear BK321)
      (try clear BK322)
      (try clear HB)
      generalize (wr.setCell ⟨gb311, 0, none⟩ (.int .i64 (Int.tmod (wrap64 ((wrap64 (x312000_2 * 193)) + 2549)) 10009))) = w123 at n0_ n1_ n2_ n3_ n4_ n5_ n6_ n7_ ⊢
      have HO_322001 := n0_
      have HO_323001 := n1_
      have BK310 := n2_
      have BK311 := n3_
      have BK312 := n4_
      have BK321 := n5_
      have BK322 := n6_
      have HB := n7_
      clear n0_ n1_ n2_ n3_ n4_ n5_ n6_ n7_
      have n0_ := Aside0.mk (Kd.R_drew HO_322001.out)
      have n1_ := Aside0.mk (Kd.R_drew HO_323001.out)
      have n2_ := Aside0.mk (blk_drew BK310.out)
      have n3_ := Aside0.mk (blk_drew BK311.out)
      have n4_ := Aside0.mk (blk_drew BK312.out)
      have n5_ := Aside0.mk (blk_drew BK321.out)
      have n6_ := Aside0.mk (blk_drew BK322.out)
      have n7_ := Aside0.mk (below_drew1 HB.out)
      clear HO_322001
      clear HO_323001
      clear BK310
      clear BK311
      clear BK312
      clear BK321
      clear BK322
      clear HB
      have HO_322001 := n0_
      have HO_323001 := n1_
      have BK310 := n2_
      have BK311 := n3_
      have BK312 := n4_
      have BK321 := n5_
      have BK322 := n6_
      have HB := n7_
      clear n0_ n1_ n2_ n3_ n4_ n5_ n6_ n7_
      refine start_ (n := 10) (S := fun w' => w'.cell? ⟨gb322, 0, none⟩ = some (.int .i64 a0_0) ∧ w'.cell? ⟨gb322, 1, none⟩ = some (u323001) ∧ w'.cell? ⟨gb321, 0, none⟩ = some (.int .i64 t317) ∧ w'.cell? ⟨gb321, 1, none⟩ = some (.slice Ao50 t318.length co50)) (ds := [9]) (tb 10 0) (by kernel_rfl) rfl rfl ⟨(blk_cell BK322.out 0).trans rfl, (blk_cell BK322.out 1).trans rfl, (blk_cell BK321.out 0).trans rfl, (blk_cell BK321.out 1).trans rfl⟩ (fun hHeld => ?_); refine with_tabW impl_MakePuzzle.tab15 impl_MakePuzzle.bits15 (fun HT_ HW_ => ?_)
      generalize w123.drew = w124 at HO_322001 HO_323001 BK310 BK311 BK312 BK321 BK322 HB hHeld ⊢
      refine zu (i := 0) (N := some 59) (tb 10 1) rfl rfl HT_ ?_
      refine zu (i := 3) (N := some 62) (tb 10 9) rfl rfl HT_ ?_
      refine zu (i := 4) (N := some 63) (tb 10 25) rfl rfl HT_ ?_
      refine take_ (i := 1) (N := some 60) (v := ?_) (a' := ?_) (tb 10 27) rfl rfl (take_ofW HT_.out HW_.out (by kernel_rfl)) (fun _ _ _ h => h) (Or.inl ⟨by rfl, ?_⟩) hHeld ?_ ?_
      rotate_left
      ·rintro w' ⟨s0, s1, s2, s3⟩
       go_simp
       with_reducible rfl
      rotate_left
      ·simp only [Act.put, List.setIfInBounds_toArray, List.set_cons_zero, List.set_cons_succ, i64_w, i32_w]
       rfl
      refine take_ (i := 2) (N := some 61) (v := ?_) (a' := ?_) (tb 10 31) rfl rfl (take_ofW HT_.out HW_.out (by kernel_rfl)) (fun _ _ _ h => h) (Or.inl ⟨by rfl, ?_⟩) hHeld ?_ ?_
      rotate_left
      ·rintro w' ⟨s0, s1, s2, s3⟩
       go_simp
       with_reducible rfl
      rotate_left
      ·simp only [Act.put, List.setIfInBounds_toArray, List.set_cons_zero, List.set_cons_succ, i64_w, i32_w]
       rfl
      refine one_ (i := 5) (N := some 64) (tb 10 63) rfl rfl (one_of HT_.out (by kernel_rfl)) (by decide) (fun K hK => ?_)
      refine goes_ Try.func46 (by kernel_rfl) rfl #[.agg #[.int .i64 t317, .slice Ao50 t318.length co50], .int .i64 (Int.tmod (Int.tmod (wrap64 ((wrap64 (x312000_2 * 193)) + 2549)) 10009) 6), .int .i64 0] (by rfl) rfl rfl (by (try simp only [List.map_toArray, List.map_cons, List.map_nil]); first | done | rfl | (simp only [List.length_drop, List.length_take]; rfl)) ?_
      with_reducible refine (impl_votes_told.calls k2 t317 _ _ t318 (Int.tmod (Int.tmod (wrap64 ((wrap64 (x312000_2 * 193)) + 2549)) 10009) 6) 0 t341 t342 t343 _ ?side1 ?side2 A116.out).mono ?_
      (case side1 => repeat (first | exact (Kd.R_reads' HO_322001.out).2.2 | (with_reducible refine Kd.C_alloc ?_ _) | (with_reducible refine Kd.C_drewN ?_ _) | (with_reducible refine Kd.C_drew ?_)))
      (case side2 => exact (Kd.R_reads' HO_322001.out).2.1)
      rintro e w125 ⟨rfl, hb⟩
      refine ⟨_, rfl, ?_⟩
      have n0_ := Aside0.mk (Kd.R_below (zr HO_322001.out) hb)
      have n1_ := Aside0.mk (Kd.R_below (zr HO_323001.out) hb)
      have n2_ := Aside0.mk (blk_below (g := gb310) (o := .cells #[.int .i64 a0_0, .slice A0_1 l0_1.length c0_1] 31 (0, 0)) (zb BK310.out) hb)
      have n3_ := Aside0.mk (blk_below (g := gb311) (o := .cells #[.int .i64 (Int.tmod (wrap64 ((wrap64 (x312000_2 * 193)) + 2549)) 10009)] 3 (0, 0)) (zb BK311.out) hb)
      have n4_ := Aside0.mk (blk_below (g := gb312) (o := .cells #[.int .i64 0, .slice none 0 0] 28 (0, 0)) (zb BK312.out) hb)
      have n5_ := Aside0.mk (blk_below (g := gb321) (o := .cells #[.int .i64 t317, .slice Ao50 t318.length co50] 62 (0, 0)) (zb BK321.out) hb)
      have n6_ := Aside0.mk (blk_below (g := gb322) (o := .cells #[.int .i64 a0_0, u323001] 28 (0, 0)) (zb BK322.out) hb)
      have n7_ := Aside0.mk (below_step (zh HB.out) hb)
      clear HO_322001
      clear HO_323001
      clear BK310
      clear BK311
      clear BK312
      clear BK321
      clear BK322
      clear HB
      have HO_322001 := n0_
      have HO_323001 := n1_
      have BK310 := n2_
      have BK311 := n3_
      have BK312 := n4_
      have BK321 := n5_
      have BK322 := n6_
      have HB := n7_
      clear n0_ n1_ n2_ n3_ n4_ n5_ n6_ n7_
      (try clear hb)
      (try clear hb2)
      (try clear hk)
      (try clear hi)
      refine hK.out _ _ ⟨(blk_cell BK322.out 0).trans rfl, (blk_cell BK322.out 1).trans rfl, (blk_cell BK321.out 0).trans rfl, (blk_cell BK321.out 1).trans rfl⟩ (fun hHeld => ?_)
      clear hK K
      refine norm_ (a' := ?_) ?_ ?_
      rotate_left
      ·show Act.put _ (some 64) _ = _
       simp only [Act.put, List.setIfInBounds_toArray, List.set_cons_zero, List.set_cons_succ, i64_w, i32_w]
       rfl
      refine one_ (i := 6) (N := some 65) (tb 10 127) rfl rfl (one_of HT_.out (by kernel_rfl)) (by decide) (fun K hK => ?_)
      refine value_ (w1 := ?_) (v := ?_) (by rfl) rfl ?_ ?_
      rotate_left 2
      ·go_simp
       constructor
       ·rfl
       ·rfl
      refine hK.out _ _ ⟨(blk_cell (blk_alloc BK322.out _) 0).trans rfl, (blk_cell (blk_alloc BK322.out _) 1).trans rfl, (blk_cell (blk_alloc BK321.out _) 0).trans rfl, (blk_cell (blk_alloc BK321.out _) 1).trans rfl⟩ (fun hHeld => ?_)
      clear hK K
      refine norm_ (a' := ?_) ?_ ?_
      rotate_left
      ·show Act.put _ (some 65) _ = _
       simp only [Act.put, List.setIfInBounds_toArray, List.set_cons_zero, List.set_cons_succ, i64_w, i32_w]
       rfl
      refine one_ (i := 7) (N := some 66) (tb 10 255) rfl rfl (one_of HT_.out (by kernel_rfl)) (by decide) (fun K hK => ?_)
      refine Kd.R_append_step k55 (w0 := w) w.heap.size (by rfl) (.tmp 60) (.tmp 65) 26 55 (.agg #[(.int .i64 0), (.int .i64 0), (.int .i64 0)]) 24 rfl Try.underlying26 info55 rfl (by decide) (by omega) u323001 x323001_2 (⟨t341, t342, t343⟩ : S55) [.int .i64 t341, .int .i64 t342, .int .i64 t343] (fun _ => True) (fun _ => False) rfl rfl ?aP (fun _ hk => hk.elim) ?aF ?aO ?aB ?aS ?aL ?_
      (case aP => exact k55_mkM _ _ _ (⟨t341, t342, t343⟩ : S55))
      (case aB => exact (zh HB.out))
      (case aF => exact (fun _ _ => trivial))
      (case aO => exact (zr HO_323001.out))
      (case aS => exact (below_size (zh HB.out)))
      (case aL => have := LMc117.out; omega)
      intro v345 w126 ho hb hg hat
      rw [← Ny344.out] at ho
      have n0_ := Aside0.mk (Kd.R_over' (zr HO_322001.out) (Kd.R_typed (zr HO_323001.out)) (by decide) hg)
      have n1_ := Aside0.mk (blk_grown (g := gb310) (o := .cells #[.int .i64 a0_0, .slice A0_1 l0_1.length c0_1] 31 (0, 0)) (zb BK310.out) hg (Kd.R_ne HO_323001.out BK310.out (by decide)))
      have n2_ := Aside0.mk (blk_grown (g := gb311) (o := .cells #[.int .i64 (Int.tmod (wrap64 ((wrap64 (x312000_2 * 193)) + 2549)) 10009)] 3 (0, 0)) (zb BK311.out) hg (Kd.R_ne HO_323001.out BK311.out (by decide)))
      have n3_ := Aside0.mk (blk_grown (g := gb312) (o := .cells #[.int .i64 0, .slice none 0 0] 28 (0, 0)) (zb BK312.out) hg (Kd.R_ne HO_323001.out BK312.out (by decide)))
      have n4_ := Aside0.mk (blk_grown (g := gb321) (o := .cells #[.int .i64 t317, .slice Ao50 t318.length co50] 62 (0, 0)) (zb BK321.out) hg (Kd.R_ne HO_323001.out BK321.out (by decide)))
      have n5_ := Aside0.mk (blk_grown (g := gb322) (o := .cells #[.int .i64 a0_0, u323001] 28 (0, 0)) (zb BK322.out) hg (Kd.R_ne HO_323001.out BK322.out (by decide)))
      have n6_ := Aside0.mk (hb)
      have n7_ := Aside0.mk (ho)
      clear HO_322001
      clear BK310
      clear BK311
      clear BK312
      clear BK321
      clear BK322
      clear HB
      clear HO_323001
      have HO_322001 := n0_
      have BK310 := n1_
      have BK311 := n2_
      have BK312 := n3_
      have BK321 := n4_
      have BK322 := n5_
      have HB := n6_
      have HO346 := n7_
      clear n0_ n1_ n2_ n3_ n4_ n5_ n6_ n7_
      clear ho hb hg hat
      obtain ⟨Ao127, co127, eo127⟩ := Kd.R_slice HO346.out
      (first | subst eo127 | (injection eo127 with f1_ f2_ f3_; have f4_ := f1_.symm; have f5_ := f3_.symm; clear f1_ f2_ f3_; subst f4_; subst f5_))
      refine hK.out _ _ ⟨(blk_cell BK322.out 0).trans rfl, (blk_cell BK322.out 1).trans rfl, (blk_cell BK321.out 0).trans rfl, (blk_cell BK321.out 1).trans rfl⟩ (fun hHeld => ?_)
      clear hK K
      refine norm_ (a' := ?_) ?_ ?_
      rotate_left
      ·show Act.put _ (some 66) _ = _
       simp only [Act.put, List.setIfInBounds_toArray, List.set_cons_zero, List.set_cons_succ, i64_w, i32_w]
       rfl
      refine zu (i := 8) (N := some 67) (tb 10 511) rfl rfl HT_ ?_
      refine last_ (i := 9) (N := none) (tb 10 1023) rfl rfl (one_of HT_.out (by kernel_rfl)) (by decide) (fun K hK => ?_)
      have hs128 : w126.cell? ⟨gb322, 1, none⟩ = some (u323001) := (blk_cell BK322.out 1).trans rfl
      have hfs128 := blk_frozen BK322.out 1
      have hns128_0 := NB310_322.out
      have hns128_1 := NB311_322.out
      have hns128_2 := NB312_322.out
      have hns128_3 := NB321_322.out
      have hms128_0 := NB322_310.out
      have hms128_1 := NB322_311.out
      have hms128_2 := NB322_312.out
      have hms128_3 := NB322_321.out
      refine skip_ (w1 := ?_) (by rfl) rfl ?_ ?_
      rotate_left
      ·go_simp
       rfl
      refine hK.out _ _ ?_
      clear hK K
      refine done_ (done_of HT_.out (by kernel_rfl)) ?_
      try go_wp2
      go_roundg k2
      case measure => have := HJ3.out; have := HK2.out; omega
      case rel => exact ⟨(wrap64 (x40_2 + 1)), (Int.tmod (wrap64 ((wrap64 (x312000_2 * 193)) + 2549)) 10009), (y344), (.slice Ao127 y344.length co127), (by first | rfl | (simp; done) | (simp [*]; done)), H', ⟨by have := HJ3.out; have := HK2.out; omega⟩, ⟨by (with_reducible repeat (first | apply Kd.R_alloc | apply Kd.R_drewN | apply Kd.R_drew)); exact Kd.R_mono (Kd.R_far (p := ⟨gb322, 1, none⟩) (Kd.R_types HO_322001.out BK322.out (by decide)) (fun _ hk => hk.2) (.slice Ao127 y344.length co127)) (fun _ hk => trivial)⟩, ⟨by (with_reducible repeat (first | apply Kd.R_alloc | apply Kd.R_drewN | apply Kd.R_drew)); exact Kd.R_mono (Kd.R_far (p := ⟨gb322, 1, none⟩) (Kd.R_types HO346.out BK322.out (by decide)) (fun _ hk => hk.2) (.slice Ao127 y344.length co127)) (fun _ hk => trivial)⟩, ⟨by (with_reducible repeat (first | refine blk_drewN ?_ _ | refine blk_drew ?_ | refine blk_alloc ?_ _)); refine blk_far ?_ NB310_322.out _; (with_reducible repeat (first | refine blk_drewN ?_ _ | refine blk_drew ?_ | refine blk_alloc ?_ _)); exact BK310.out⟩, ⟨by (with_reducible repeat (first | refine blk_drewN ?_ _ | refine blk_drew ?_ | refine blk_alloc ?_ _)); refine blk_far ?_ NB311_322.out _; (with_reducible repeat (first | refine blk_drewN ?_ _ | refine blk_drew ?_ | refine blk_alloc ?_ _)); exact BK311.out⟩, ⟨by (with_reducible repeat (first | refine blk_drewN ?_ _ | refine blk_drew ?_ | refine blk_alloc ?_ _)); refine blk_far ?_ NB312_322.out _; (with_reducible repeat (first | refine blk_drewN ?_ _ | refine blk_drew ?_ | refine blk_alloc ?_ _)); exact BK312.out⟩, ⟨by (with_reducible repeat (first | refine blk_drewN ?_ _ | refine blk_drew ?_ | refine blk_alloc ?_ _)); refine blk_far ?_ NB321_322.out _; (with_reducible repeat (first | refine blk_drewN ?_ _ | refine blk_drew ?_ | refine blk_alloc ?_ _)); exact BK321.out⟩, ⟨by (with_reducible repeat (first | refine blk_drewN ?_ _ | refine blk_drew ?_ | refine blk_alloc ?_ _)); refine blk_put (cs := #[.int .i64 a0_0, u323001]) ?_ 1 _ rfl; (with_reducible repeat (first | refine blk_drewN ?_ _ | refine blk_drew ?_ | refine blk_alloc ?_ _)); exact BK322.out⟩, ⟨zh HB.out⟩⟩
     rw [if_pos c97] at H
     have c97b0 : ((Int.tmod (Int.tmod (wrap64 ((wrap64 (x312000_2 * 193)) + 2549)) 10009) 6) == 3) = true := beq_iff_eq.mpr c97
     have c97b1 : ((Int.tmod (Int.tmod (wrap64 ((wrap64 (x312000_2 * 193)) + 2549)) 10009) 6) != 3) = false := bne_eq_false_iff_eq.mpr c97
     clear c97
     by_cases c98 : t317 = 0
     ·rw [if_pos c98] at H
      exact absurd H (by simp)
     rw [if_neg c98] at H
     have c98b0 : (t317 == 0) = false := beq_eq_false_iff_ne.mpr c98
     have c98b1 : (t317 != 0) = true := bne_iff_ne.mpr c98
     replace H := Option.bind_eq_some_iff.mp H
     obtain ⟨⟨t335, t336, t337⟩, A990, H⟩ := H
     replace H : (if x323001_2.length < 5864062014805 then (impl_MakePuzzle.l0 k2 a1 (wrap64 (x40_2 + 1)) (Int.tmod (wrap64 ((wrap64 ((Int.tmod (wrap64 ((wrap64 (x312000_2 * 193)) + 2549)) 10009) * 193)) + 2549)) 10009) t317 t318 a0_0 (x323001_2 ++ [(⟨t335, t336, t337⟩ : S55)])) else (none)) = some (r1, r2, r3) := H
     have A99 := Aside0.mk A990
     clear A990
     by_cases c100 : x323001_2.length < 5864062014805
     rotate_left
     ·rw [if_neg c100] at H
      exact absurd H (by simp)
     rw [if_pos c100] at H
     have LMc100 := Aside0.mk c100
     clear c100
     obtain ⟨y338, hy338⟩ : ∃ y_ : List (S55), y_ = (x323001_2 ++ [(⟨t335, t336, t337⟩ : S55)]) := ⟨_, rfl⟩
     replace H : (impl_MakePuzzle.l0 k2 a1 (wrap64 (x40_2 + 1)) (Int.tmod (wrap64 ((wrap64 ((Int.tmod (wrap64 ((wrap64 (x312000_2 * 193)) + 2549)) 10009) * 193)) + 2549)) 10009) t317 t318 a0_0 y338) = some (r1, r2, r3) := by first | (rw [hy338]; with_reducible exact H) | (have H2_ := (Option.bind_some _ _).symm.trans H; rw [hy338]; with_reducible exact H2_) | (have H2_ := (Option.bind_some _ _).symm.trans H; with_reducible exact H2_) | with_reducible exact H | (rw [hy338]; exact H) | exact H
     have Ny338 := Aside0.mk hy338
     clear hy338
     have H' := Aside0.mk H
     clear H
     have hnb101 := NB311_310.out
     have hnc101 := NB310_311.out
     have hnb102 := NB311_312.out
     have hnc102 := NB312_311.out
     have hnb103 := NB311_321.out
     have hnc103 := NB321_311.out
     have hnb104 := NB311_322.out
     have hnc104 := NB322_311.out
     have hcz105_0 : wr.cell? ⟨gb311, 0, none⟩ = some (.int .i64 x312000_2) := (blk_cell BK311.out 0).trans rfl
     have hfz105_0 := blk_frozen BK311.out 0
     have hnb106 := NB321_310.out
     have hnc106 := NB310_321.out
     have hnb107 := NB321_312.out
     have hnc107 := NB312_321.out
     have hnb108 := NB321_322.out
     have hnc108 := NB322_321.out
     have hcz109_0 : wr.cell? ⟨gb321, 0, none⟩ = some (.int .i64 t317) := (blk_cell BK321.out 0).trans rfl
     have hcz109_1 : wr.cell? ⟨gb321, 1, none⟩ = some (.slice Ao50 t318.length co50) := (blk_cell BK321.out 1).trans rfl
     have hfz109_0 := blk_frozen BK321.out 0
     have hfz109_1 := blk_frozen BK321.out 1
     try go_wp2
     have n0_ : Aside0 (Kd.R Kd.bool 4 ((wr.setCell ⟨gb311, 0, none⟩ (.int .i64 (Int.tmod (wrap64 ((wrap64 (x312000_2 * 193)) + 2549)) 10009))).setCell ⟨gb311, 0, none⟩ (.int .i64 (Int.tmod (wrap64 ((wrap64 ((Int.tmod (wrap64 ((wrap64 (x312000_2 * 193)) + 2549)) 10009) * 193)) + 2549)) 10009))) w.heap.size (fun _ => True) (.slice Ao50 t318.length co50) t318) := ⟨by (with_reducible repeat (first | apply Kd.R_alloc | apply Kd.R_drewN | apply Kd.R_drew)); exact Kd.R_mono (Kd.R_far (p := ⟨gb311, 0, none⟩) (Kd.R_far (p := ⟨gb311, 0, none⟩) (Kd.R_types HO_322001.out BK311.out (by decide)) (fun _ hk => hk.2) (.int .i64 (Int.tmod (wrap64 ((wrap64 (x312000_2 * 193)) + 2549)) 10009))) (fun _ hk => hk.2) (.int .i64 (Int.tmod (wrap64 ((wrap64 ((Int.tmod (wrap64 ((wrap64 (x312000_2 * 193)) + 2549)) 10009) * 193)) + 2549)) 10009))) (fun _ hk => trivial)⟩
     have n1_ : Aside0 (Kd.R k55 55 ((wr.setCell ⟨gb311, 0, none⟩ (.int .i64 (Int.tmod (wrap64 ((wrap64 (x312000_2 * 193)) + 2549)) 10009))).setCell ⟨gb311, 0, none⟩ (.int .i64 (Int.tmod (wrap64 ((wrap64 ((Int.tmod (wrap64 ((wrap64 (x312000_2 * 193)) + 2549)) 10009) * 193)) + 2549)) 10009))) w.heap.size (fun _ => True) u323001 x323001_2) := ⟨by (with_reducible repeat (first | apply Kd.R_alloc | apply Kd.R_drewN | apply Kd.R_drew)); exact Kd.R_mono (Kd.R_far (p := ⟨gb311, 0, none⟩) (Kd.R_far (p := ⟨gb311, 0, none⟩) (Kd.R_types HO_323001.out BK311.out (by decide)) (fun _ hk => hk.2) (.int .i64 (Int.tmod (wrap64 ((wrap64 (x312000_2 * 193)) + 2549)) 10009))) (fun _ hk => hk.2) (.int .i64 (Int.tmod (wrap64 ((wrap64 ((Int.tmod (wrap64 ((wrap64 (x312000_2 * 193)) + 2549)) 10009) * 193)) + 2549)) 10009))) (fun _ hk => trivial)⟩
     have n2_ : Aside0 (((wr.setCell ⟨gb311, 0, none⟩ (.int .i64 (Int.tmod (wrap64 ((wrap64 (x312000_2 * 193)) + 2549)) 10009))).setCell ⟨gb311, 0, none⟩ (.int .i64 (Int.tmod (wrap64 ((wrap64 ((Int.tmod (wrap64 ((wrap64 (x312000_2 * 193)) + 2549)) 10009) * 193)) + 2549)) 10009))).heap[gb310]? = some (.cells #[.int .i64 a0_0, .slice A0_1 l0_1.length c0_1] 31 (0, 0))) := ⟨by (with_reducible repeat (first | refine blk_drewN ?_ _ | refine blk_drew ?_ | refine blk_alloc ?_ _)); refine blk_far ?_ NB310_311.out _; (with_reducible repeat (first | refine blk_drewN ?_ _ | refine blk_drew ?_ | refine blk_alloc ?_ _)); refine blk_far ?_ NB310_311.out _; (with_reducible repeat (first | refine blk_drewN ?_ _ | refine blk_drew ?_ | refine blk_alloc ?_ _)); exact BK310.out⟩
     have n3_ : Aside0 (((wr.setCell ⟨gb311, 0, none⟩ (.int .i64 (Int.tmod (wrap64 ((wrap64 (x312000_2 * 193)) + 2549)) 10009))).setCell ⟨gb311, 0, none⟩ (.int .i64 (Int.tmod (wrap64 ((wrap64 ((Int.tmod (wrap64 ((wrap64 (x312000_2 * 193)) + 2549)) 10009) * 193)) + 2549)) 10009))).heap[gb311]? = some (.cells #[.int .i64 (Int.tmod (wrap64 ((wrap64 ((Int.tmod (wrap64 ((wrap64 (x312000_2 * 193)) + 2549)) 10009) * 193)) + 2549)) 10009)] 3 (0, 0))) := ⟨by (with_reducible repeat (first | refine blk_drewN ?_ _ | refine blk_drew ?_ | refine blk_alloc ?_ _)); refine blk_put (cs := #[.int .i64 (Int.tmod (wrap64 ((wrap64 (x312000_2 * 193)) + 2549)) 10009)]) ?_ 0 _ rfl; (with_reducible repeat (first | refine blk_drewN ?_ _ | refine blk_drew ?_ | refine blk_alloc ?_ _)); refine blk_put (cs := #[.int .i64 x312000_2]) ?_ 0 _ rfl; (with_reducible repeat (first | refine blk_drewN ?_ _ | refine blk_drew ?_ | refine blk_alloc ?_ _)); exact BK311.out⟩
     have n4_ : Aside0 (((wr.setCell ⟨gb311, 0, none⟩ (.int .i64 (Int.tmod (wrap64 ((wrap64 (x312000_2 * 193)) + 2549)) 10009))).setCell ⟨gb311, 0, none⟩ (.int .i64 (Int.tmod (wrap64 ((wrap64 ((Int.tmod (wrap64 ((wrap64 (x312000_2 * 193)) + 2549)) 10009) * 193)) + 2549)) 10009))).heap[gb312]? = some (.cells #[.int .i64 0, .slice none 0 0] 28 (0, 0))) := ⟨by (with_reducible repeat (first | refine blk_drewN ?_ _ | refine blk_drew ?_ | refine blk_alloc ?_ _)); refine blk_far ?_ NB312_311.out _; (with_reducible repeat (first | refine blk_drewN ?_ _ | refine blk_drew ?_ | refine blk_alloc ?_ _)); refine blk_far ?_ NB312_311.out _; (with_reducible repeat (first | refine blk_drewN ?_ _ | refine blk_drew ?_ | refine blk_alloc ?_ _)); exact BK312.out⟩
     have n5_ : Aside0 (((wr.setCell ⟨gb311, 0, none⟩ (.int .i64 (Int.tmod (wrap64 ((wrap64 (x312000_2 * 193)) + 2549)) 10009))).setCell ⟨gb311, 0, none⟩ (.int .i64 (Int.tmod (wrap64 ((wrap64 ((Int.tmod (wrap64 ((wrap64 (x312000_2 * 193)) + 2549)) 10009) * 193)) + 2549)) 10009))).heap[gb321]? = some (.cells #[.int .i64 t317, .slice Ao50 t318.length co50] 62 (0, 0))) := ⟨by (with_reducible repeat (first | refine blk_drewN ?_ _ | refine blk_drew ?_ | refine blk_alloc ?_ _)); refine blk_far ?_ NB321_311.out _; (with_reducible repeat (first | refine blk_drewN ?_ _ | refine blk_drew ?_ | refine blk_alloc ?_ _)); refine blk_far ?_ NB321_311.out _; (with_reducible repeat (first | refine blk_drewN ?_ _ | refine blk_drew ?_ | refine blk_alloc ?_ _)); exact BK321.out⟩
     have n6_ : Aside0 (((wr.setCell ⟨gb311, 0, none⟩ (.int .i64 (Int.tmod (wrap64 ((wrap64 (x312000_2 * 193)) + 2549)) 10009))).setCell ⟨gb311, 0, none⟩ (.int .i64 (Int.tmod (wrap64 ((wrap64 ((Int.tmod (wrap64 ((wrap64 (x312000_2 * 193)) + 2549)) 10009) * 193)) + 2549)) 10009))).heap[gb322]? = some (.cells #[.int .i64 a0_0, u323001] 28 (0, 0))) := ⟨by (with_reducible repeat (first | refine blk_drewN ?_ _ | refine blk_drew ?_ | refine blk_alloc ?_ _)); refine blk_far ?_ NB322_311.out _; (with_reducible repeat (first | refine blk_drewN ?_ _ | refine blk_drew ?_ | refine blk_alloc ?_ _)); refine blk_far ?_ NB322_311.out _; (with_reducible repeat (first | refine blk_drewN ?_ _ | refine blk_drew ?_ | refine blk_alloc ?_ _)); exact BK322.out⟩
     have n7_ : Aside0 (Below w.heap.size w ((wr.setCell ⟨gb311, 0, none⟩ (.int .i64 (Int.tmod (wrap64 ((wrap64 (x312000_2 * 193)) + 2549)) 10009))).setCell ⟨gb311, 0, none⟩ (.int .i64 (Int.tmod (wrap64 ((wrap64 ((Int.tmod (wrap64 ((wrap64 (x312000_2 * 193)) + 2549)) 10009) * 193)) + 2549)) 10009)))) := ⟨zh HB.out⟩
     (try clear HO_322001)
     (try clear HO_323001)
     (try clear BK310)
     (try clear BK311)
     (try clear BK312)
     (try clear BK321)
     (try clear BK322)
     (try clear HB)
     generalize ((wr.setCell ⟨gb311, 0, none⟩ (.int .i64 (Int.tmod (wrap64 ((wrap64 (x312000_2 * 193)) + 2549)) 10009))).setCell ⟨gb311, 0, none⟩ (.int .i64 (Int.tmod (wrap64 ((wrap64 ((Int.tmod (wrap64 ((wrap64 (x312000_2 * 193)) + 2549)) 10009) * 193)) + 2549)) 10009))) = w110 at n0_ n1_ n2_ n3_ n4_ n5_ n6_ n7_ ⊢
     have HO_322001 := n0_
     have HO_323001 := n1_
     have BK310 := n2_
     have BK311 := n3_
     have BK312 := n4_
     have BK321 := n5_
     have BK322 := n6_
     have HB := n7_
     clear n0_ n1_ n2_ n3_ n4_ n5_ n6_ n7_
     have n0_ := Aside0.mk (Kd.R_drew HO_322001.out)
     have n1_ := Aside0.mk (Kd.R_drew HO_323001.out)
     have n2_ := Aside0.mk (blk_drew BK310.out)
     have n3_ := Aside0.mk (blk_drew BK311.out)
     have n4_ := Aside0.mk (blk_drew BK312.out)
     have n5_ := Aside0.mk (blk_drew BK321.out)
     have n6_ := Aside0.mk (blk_drew BK322.out)
     have n7_ := Aside0.mk (below_drew1 HB.out)
     clear HO_322001
     clear HO_323001
     clear BK310
     clear BK311
     clear BK312
     clear BK321
     clear BK322
     clear HB
     have HO_322001 := n0_
     have HO_323001 := n1_
     have BK310 := n2_
     have BK311 := n3_
     have BK312 := n4_
     have BK321 := n5_
     have BK322 := n6_
     have HB := n7_
     clear n0_ n1_ n2_ n3_ n4_ n5_ n6_ n7_
     refine start_ (n := 10) (S := fun w' => w'.cell? ⟨gb322, 0, none⟩ = some (.int .i64 a0_0) ∧ w'.cell? ⟨gb322, 1, none⟩ = some (u323001) ∧ w'.cell? ⟨gb321, 0, none⟩ = some (.int .i64 t317) ∧ w'.cell? ⟨gb321, 1, none⟩ = some (.slice Ao50 t318.length co50)) (ds := [9]) (tb 10 0) (by kernel_rfl) rfl rfl ⟨(blk_cell BK322.out 0).trans rfl, (blk_cell BK322.out 1).trans rfl, (blk_cell BK321.out 0).trans rfl, (blk_cell BK321.out 1).trans rfl⟩ (fun hHeld => ?_); refine with_tabW impl_MakePuzzle.tab15 impl_MakePuzzle.bits15 (fun HT_ HW_ => ?_)
     generalize w110.drew = w111 at HO_322001 HO_323001 BK310 BK311 BK312 BK321 BK322 HB hHeld ⊢
     refine zu (i := 0) (N := some 59) (tb 10 1) rfl rfl HT_ ?_
     refine zu (i := 3) (N := some 62) (tb 10 9) rfl rfl HT_ ?_
     refine zu (i := 4) (N := some 63) (tb 10 25) rfl rfl HT_ ?_
     refine take_ (i := 1) (N := some 60) (v := ?_) (a' := ?_) (tb 10 27) rfl rfl (take_ofW HT_.out HW_.out (by kernel_rfl)) (fun _ _ _ h => h) (Or.inl ⟨by rfl, ?_⟩) hHeld ?_ ?_
     rotate_left
     ·rintro w' ⟨s0, s1, s2, s3⟩
      go_simp
      with_reducible rfl
     rotate_left
     ·simp only [Act.put, List.setIfInBounds_toArray, List.set_cons_zero, List.set_cons_succ, i64_w, i32_w]
      rfl
     refine take_ (i := 2) (N := some 61) (v := ?_) (a' := ?_) (tb 10 31) rfl rfl (take_ofW HT_.out HW_.out (by kernel_rfl)) (fun _ _ _ h => h) (Or.inl ⟨by rfl, ?_⟩) hHeld ?_ ?_
     rotate_left
     ·rintro w' ⟨s0, s1, s2, s3⟩
      go_simp
      with_reducible rfl
     rotate_left
     ·simp only [Act.put, List.setIfInBounds_toArray, List.set_cons_zero, List.set_cons_succ, i64_w, i32_w]
      rfl
     refine one_ (i := 5) (N := some 64) (tb 10 63) rfl rfl (one_of HT_.out (by kernel_rfl)) (by decide) (fun K hK => ?_)
     refine goes_ Try.func46 (by kernel_rfl) rfl #[.agg #[.int .i64 t317, .slice Ao50 t318.length co50], .int .i64 (Int.tmod (Int.tmod (wrap64 ((wrap64 (x312000_2 * 193)) + 2549)) 10009) 6), .int .i64 (Int.tmod (Int.tmod (wrap64 ((wrap64 ((Int.tmod (wrap64 ((wrap64 (x312000_2 * 193)) + 2549)) 10009) * 193)) + 2549)) 10009) t317)] (by rfl) rfl rfl (by (try simp only [List.map_toArray, List.map_cons, List.map_nil]); first | done | rfl | (simp only [List.length_drop, List.length_take]; rfl)) ?_
     with_reducible refine (impl_votes_told.calls k2 t317 _ _ t318 (Int.tmod (Int.tmod (wrap64 ((wrap64 (x312000_2 * 193)) + 2549)) 10009) 6) (Int.tmod (Int.tmod (wrap64 ((wrap64 ((Int.tmod (wrap64 ((wrap64 (x312000_2 * 193)) + 2549)) 10009) * 193)) + 2549)) 10009) t317) t335 t336 t337 _ ?side1 ?side2 A99.out).mono ?_
     (case side1 => repeat (first | exact (Kd.R_reads' HO_322001.out).2.2 | (with_reducible refine Kd.C_alloc ?_ _) | (with_reducible refine Kd.C_drewN ?_ _) | (with_reducible refine Kd.C_drew ?_)))
     (case side2 => exact (Kd.R_reads' HO_322001.out).2.1)
     rintro e w112 ⟨rfl, hb⟩
     refine ⟨_, rfl, ?_⟩
     have n0_ := Aside0.mk (Kd.R_below (zr HO_322001.out) hb)
     have n1_ := Aside0.mk (Kd.R_below (zr HO_323001.out) hb)
     have n2_ := Aside0.mk (blk_below (g := gb310) (o := .cells #[.int .i64 a0_0, .slice A0_1 l0_1.length c0_1] 31 (0, 0)) (zb BK310.out) hb)
     have n3_ := Aside0.mk (blk_below (g := gb311) (o := .cells #[.int .i64 (Int.tmod (wrap64 ((wrap64 ((Int.tmod (wrap64 ((wrap64 (x312000_2 * 193)) + 2549)) 10009) * 193)) + 2549)) 10009)] 3 (0, 0)) (zb BK311.out) hb)
     have n4_ := Aside0.mk (blk_below (g := gb312) (o := .cells #[.int .i64 0, .slice none 0 0] 28 (0, 0)) (zb BK312.out) hb)
     have n5_ := Aside0.mk (blk_below (g := gb321) (o := .cells #[.int .i64 t317, .slice Ao50 t318.length co50] 62 (0, 0)) (zb BK321.out) hb)
     have n6_ := Aside0.mk (blk_below (g := gb322) (o := .cells #[.int .i64 a0_0, u323001] 28 (0, 0)) (zb BK322.out) hb)
     have n7_ := Aside0.mk (below_step (zh HB.out) hb)
     clear HO_322001
     clear HO_323001
     clear BK310
     clear BK311
     clear BK312
     clear BK321
     clear BK322
     clear HB
     have HO_322001 := n0_
     have HO_323001 := n1_
     have BK310 := n2_
     have BK311 := n3_
     have BK312 := n4_
     have BK321 := n5_
     have BK322 := n6_
     have HB := n7_
     clear n0_ n1_ n2_ n3_ n4_ n5_ n6_ n7_
     (try clear hb)
     (try clear hb2)
     (try clear hk)
     (try clear hi)
     refine hK.out _ _ ⟨(blk_cell BK322.out 0).trans rfl, (blk_cell BK322.out 1).trans rfl, (blk_cell BK321.out 0).trans rfl, (blk_cell BK321.out 1).trans rfl⟩ (fun hHeld => ?_)
     clear hK K
     refine norm_ (a' := ?_) ?_ ?_
     rotate_left
     ·show Act.put _ (some 64) _ = _
      simp only [Act.put, List.setIfInBounds_toArray, List.set_cons_zero, List.set_cons_succ, i64_w, i32_w]
      rfl
     refine one_ (i := 6) (N := some 65) (tb 10 127) rfl rfl (one_of HT_.out (by kernel_rfl)) (by decide) (fun K hK => ?_)
     refine value_ (w1 := ?_) (v := ?_) (by rfl) rfl ?_ ?_
     rotate_left 2
     ·go_simp
      constructor
      ·rfl
      ·rfl
     refine hK.out _ _ ⟨(blk_cell (blk_alloc BK322.out _) 0).trans rfl, (blk_cell (blk_alloc BK322.out _) 1).trans rfl, (blk_cell (blk_alloc BK321.out _) 0).trans rfl, (blk_cell (blk_alloc BK321.out _) 1).trans rfl⟩ (fun hHeld => ?_)
     clear hK K
     refine norm_ (a' := ?_) ?_ ?_
     rotate_left
     ·show Act.put _ (some 65) _ = _
      simp only [Act.put, List.setIfInBounds_toArray, List.set_cons_zero, List.set_cons_succ, i64_w, i32_w]
      rfl
     refine one_ (i := 7) (N := some 66) (tb 10 255) rfl rfl (one_of HT_.out (by kernel_rfl)) (by decide) (fun K hK => ?_)
     refine Kd.R_append_step k55 (w0 := w) w.heap.size (by rfl) (.tmp 60) (.tmp 65) 26 55 (.agg #[(.int .i64 0), (.int .i64 0), (.int .i64 0)]) 24 rfl Try.underlying26 info55 rfl (by decide) (by omega) u323001 x323001_2 (⟨t335, t336, t337⟩ : S55) [.int .i64 t335, .int .i64 t336, .int .i64 t337] (fun _ => True) (fun _ => False) rfl rfl ?aP (fun _ hk => hk.elim) ?aF ?aO ?aB ?aS ?aL ?_
     (case aP => exact k55_mkM _ _ _ (⟨t335, t336, t337⟩ : S55))
     (case aB => exact (zh HB.out))
     (case aF => exact (fun _ _ => trivial))
     (case aO => exact (zr HO_323001.out))
     (case aS => exact (below_size (zh HB.out)))
     (case aL => have := LMc100.out; omega)
     intro v339 w113 ho hb hg hat
     rw [← Ny338.out] at ho
     have n0_ := Aside0.mk (Kd.R_over' (zr HO_322001.out) (Kd.R_typed (zr HO_323001.out)) (by decide) hg)
     have n1_ := Aside0.mk (blk_grown (g := gb310) (o := .cells #[.int .i64 a0_0, .slice A0_1 l0_1.length c0_1] 31 (0, 0)) (zb BK310.out) hg (Kd.R_ne HO_323001.out BK310.out (by decide)))
     have n2_ := Aside0.mk (blk_grown (g := gb311) (o := .cells #[.int .i64 (Int.tmod (wrap64 ((wrap64 ((Int.tmod (wrap64 ((wrap64 (x312000_2 * 193)) + 2549)) 10009) * 193)) + 2549)) 10009)] 3 (0, 0)) (zb BK311.out) hg (Kd.R_ne HO_323001.out BK311.out (by decide)))
     have n3_ := Aside0.mk (blk_grown (g := gb312) (o := .cells #[.int .i64 0, .slice none 0 0] 28 (0, 0)) (zb BK312.out) hg (Kd.R_ne HO_323001.out BK312.out (by decide)))
     have n4_ := Aside0.mk (blk_grown (g := gb321) (o := .cells #[.int .i64 t317, .slice Ao50 t318.length co50] 62 (0, 0)) (zb BK321.out) hg (Kd.R_ne HO_323001.out BK321.out (by decide)))
     have n5_ := Aside0.mk (blk_grown (g := gb322) (o := .cells #[.int .i64 a0_0, u323001] 28 (0, 0)) (zb BK322.out) hg (Kd.R_ne HO_323001.out BK322.out (by decide)))
     have n6_ := Aside0.mk (hb)
     have n7_ := Aside0.mk (ho)
     clear HO_322001
     clear BK310
     clear BK311
     clear BK312
     clear BK321
     clear BK322
     clear HB
     clear HO_323001
     have HO_322001 := n0_
     have BK310 := n1_
     have BK311 := n2_
     have BK312 := n3_
     have BK321 := n4_
     have BK322 := n5_
     have HB := n6_
     have HO340 := n7_
     clear n0_ n1_ n2_ n3_ n4_ n5_ n6_ n7_
     clear ho hb hg hat
     obtain ⟨Ao114, co114, eo114⟩ := Kd.R_slice HO340.out
     (first | subst eo114 | (injection eo114 with f1_ f2_ f3_; have f4_ := f1_.symm; have f5_ := f3_.symm; clear f1_ f2_ f3_; subst f4_; subst f5_))
     refine hK.out _ _ ⟨(blk_cell BK322.out 0).trans rfl, (blk_cell BK322.out 1).trans rfl, (blk_cell BK321.out 0).trans rfl, (blk_cell BK321.out 1).trans rfl⟩ (fun hHeld => ?_)
     clear hK K
     refine norm_ (a' := ?_) ?_ ?_
     rotate_left
     ·show Act.put _ (some 66) _ = _
      simp only [Act.put, List.setIfInBounds_toArray, List.set_cons_zero, List.set_cons_succ, i64_w, i32_w]
      rfl
     refine zu (i := 8) (N := some 67) (tb 10 511) rfl rfl HT_ ?_
     refine last_ (i := 9) (N := none) (tb 10 1023) rfl rfl (one_of HT_.out (by kernel_rfl)) (by decide) (fun K hK => ?_)
     have hs115 : w113.cell? ⟨gb322, 1, none⟩ = some (u323001) := (blk_cell BK322.out 1).trans rfl
     have hfs115 := blk_frozen BK322.out 1
     have hns115_0 := NB310_322.out
     have hns115_1 := NB311_322.out
     have hns115_2 := NB312_322.out
     have hns115_3 := NB321_322.out
     have hms115_0 := NB322_310.out
     have hms115_1 := NB322_311.out
     have hms115_2 := NB322_312.out
     have hms115_3 := NB322_321.out
     refine skip_ (w1 := ?_) (by rfl) rfl ?_ ?_
     rotate_left
     ·go_simp
      rfl
     refine hK.out _ _ ?_
     clear hK K
     refine done_ (done_of HT_.out (by kernel_rfl)) ?_
     try go_wp2
     go_roundg k2
     case measure => have := HJ3.out; have := HK2.out; omega
     case rel => exact ⟨(wrap64 (x40_2 + 1)), (Int.tmod (wrap64 ((wrap64 ((Int.tmod (wrap64 ((wrap64 (x312000_2 * 193)) + 2549)) 10009) * 193)) + 2549)) 10009), (y338), (.slice Ao114 y338.length co114), (by first | rfl | (simp; done) | (simp [*]; done)), H', ⟨by have := HJ3.out; have := HK2.out; omega⟩, ⟨by (with_reducible repeat (first | apply Kd.R_alloc | apply Kd.R_drewN | apply Kd.R_drew)); exact Kd.R_mono (Kd.R_far (p := ⟨gb322, 1, none⟩) (Kd.R_types HO_322001.out BK322.out (by decide)) (fun _ hk => hk.2) (.slice Ao114 y338.length co114)) (fun _ hk => trivial)⟩, ⟨by (with_reducible repeat (first | apply Kd.R_alloc | apply Kd.R_drewN | apply Kd.R_drew)); exact Kd.R_mono (Kd.R_far (p := ⟨gb322, 1, none⟩) (Kd.R_types HO340.out BK322.out (by decide)) (fun _ hk => hk.2) (.slice Ao114 y338.length co114)) (fun _ hk => trivial)⟩, ⟨by (with_reducible repeat (first | refine blk_drewN ?_ _ | refine blk_drew ?_ | refine blk_alloc ?_ _)); refine blk_far ?_ NB310_322.out _; (with_reducible repeat (first | refine blk_drewN ?_ _ | refine blk_drew ?_ | refine blk_alloc ?_ _)); exact BK310.out⟩, ⟨by (with_reducible repeat (first | refine blk_drewN ?_ _ | refine blk_drew ?_ | refine blk_alloc ?_ _)); refine blk_far ?_ NB311_322.out _; (with_reducible repeat (first | refine blk_drewN ?_ _ | refine blk_drew ?_ | refine blk_alloc ?_ _)); exact BK311.out⟩, ⟨by (with_reducible repeat (first | refine blk_drewN ?_ _ | refine blk_drew ?_ | refine blk_alloc ?_ _)); refine blk_far ?_ NB312_322.out _; (with_reducible repeat (first | refine blk_drewN ?_ _ | refine blk_drew ?_ | refine blk_alloc ?_ _)); exact BK312.out⟩, ⟨by (with_reducible repeat (first | refine blk_drewN ?_ _ | refine blk_drew ?_ | refine blk_alloc ?_ _)); refine blk_far ?_ NB321_322.out _; (with_reducible repeat (first | refine blk_drewN ?_ _ | refine blk_drew ?_ | refine blk_alloc ?_ _)); exact BK321.out⟩, ⟨by (with_reducible repeat (first | refine blk_drewN ?_ _ | refine blk_drew ?_ | refine blk_alloc ?_ _)); refine blk_put (cs := #[.int .i64 a0_0, u323001]) ?_ 1 _ rfl; (with_reducible repeat (first | refine blk_drewN ?_ _ | refine blk_drew ?_ | refine blk_alloc ?_ _)); exact BK322.out⟩, ⟨zh HB.out⟩⟩
end Go.Proofs.Ytaacaifiiedoiaa.Q
end
section
namespace Go.Proofs.Ytaacaifiiedoiaa.Q
open Go.RowKit Go.Proofs.YtaacaifiiedoiaaW.PrintWords Go.Proofs.YtaacaifiiedoiaaW.PrintLast Go.Proofs.YtaacaifiiedoiaaW.PrintMore
set_option linter.unusedVariables false
set_option linter.unusedSimpArgs false
theorem stHeldMakePuzzle (k : Nat) {B : Option Addr} {d n : Nat} {y : List (S55)} (a q : Int) (W : World) (h : n = y.length ∧ n ≤ d ∧ Kd.C k55 W B y.length y) (h2 : laws_heldPuzzle.f k a y 1 = some q) :
    Calls Try.prog 17 #[.agg #[.int .i64 a, .slice B n d], .int .i64 1] W fun e w' => e = .returned (.int .i64 q) ∧ Below W.heap.size W w' := by
  obtain ⟨rfl, h1, hC⟩ := h
  exact laws_heldPuzzle.calls k a B d y 1 q W hC h1 h2
def laws_FnExactMakePuzzle.f (k : Nat) (a : Int) (l : List (List Int)) (e0 : Int) (e1 : Int) : Option Bool :=
  (laws_szGame.f k a l 1048576).bind fun q => if q < 0 then some true else (laws_toGame.f k a l).bind fun p => (spec_MakePuzzle.f k p.1 p.2 e0 e1).bind fun s => (impl_MakePuzzle.f k p.1 p.2 e0 e1).bind fun g => (laws_eqPuzzle.f k g.1 g.2.1 s.1 s.2.1).bind fun t => if t = true then (if g.2.2 = s.2.2 then (laws_eqGame.f k p.1 p.2 p.1 p.2).bind fun e => if e = true then (laws_markIntSS.f k p.2 1).bind fun x => if x.1 < 0 then none else (laws_markPuzzle.f k g.1 g.2.1 1).bind fun n => (laws_heldPuzzle.f k g.1 n.2 1).bind fun q => if q < 0 then none else if q = n.1 then some true else none else none else none) else none
set_option maxRecDepth 100000 in
set_option maxHeartbeats 8000000 in
theorem laws_FnExactMakePuzzle_walk (k : Nat) (a : Int) (A : Option Addr) (c : Nat) (l : List (List Int)) (e0 : Int) (e1 : Int) (r : Bool) (w : World) (hC0 : Kd.C (Kd.slice 3 (Kd.int .i64)) w A l.length l) (hc : l.length ≤ c) (h : laws_FnExactMakePuzzle.f k a l e0 e1 = some r) :
    Calls Try.prog 3 #[.agg #[.int .i64 a, .slice A l.length c], .int .i64 e0, .int .i64 e1] w fun e w' => e = .returned (.bool r) ∧ Below w.heap.size w w' := by
  have HC := Aside0.mk hC0
  have u1 := Try.underlying24
  have u2 := Try.underlying31
  have u3 := Try.underlying28
  clear hC0
  replace h := Option.bind_eq_some_iff.mp h
  obtain ⟨q0, hq0, h⟩ := h
  have HQ0 := Aside0.mk hq0
  clear hq0
  by_cases c0 : q0 < 0
  · rw [if_pos c0] at h
    obtain rfl := Option.some.inj h
    have c0b : decide (q0 < 0) = true := decide_eq_true c0
    clear h
    go_enter Try.func3, Try.ntmps3
    go_wp2_with (go_at_call 9; refine (laws_szGame.calls k a A c l 1048576 q0 _ ?hC hc HQ0.out).mono ?_; (case hC => exact Kd.C_alloc HC.out _); rintro e u1_ ⟨rfl, hb⟩; have BA := Aside0.mk (blk_below (blk_new w (.cells #[.int .i64 a, .slice A l.length c] 24 (0, 0))) hb); have HB0 := Aside0.mk (((Below.refl w.heap.size w).alloc (Nat.le_refl _) (.cells #[.int .i64 a, .slice A l.length c] 24 (0, 0))).trans (hb.mono (by simp))); clear hb; have hA0 := (blk_cell BA.out 0).trans rfl; have hA1 := (blk_cell BA.out 1).trans rfl)
    go_ret
    exact ⟨rfl, HB0.out⟩
  rw [if_neg c0] at h
  have c0b : decide (q0 < 0) = false := decide_eq_false c0
  replace h := Option.bind_eq_some_iff.mp h
  obtain ⟨⟨m, p⟩, hp, h⟩ := h
  replace h := Option.bind_eq_some_iff.mp h
  obtain ⟨⟨si, s, sb⟩, hs, h⟩ := h
  replace h := Option.bind_eq_some_iff.mp h
  obtain ⟨⟨gi, g, gb⟩, hg, h⟩ := h
  replace h := Option.bind_eq_some_iff.mp h
  obtain ⟨t, ht, h⟩ := h
  dsimp only at hs hg ht h
  by_cases c1 : t = true
  case neg => rw [if_neg c1] at h; cases h
  rw [if_pos c1] at h
  subst c1
  by_cases c2 : gb = sb
  case neg => rw [if_neg c2] at h; cases h
  rw [if_pos c2] at h
  subst c2
  replace h := Option.bind_eq_some_iff.mp h
  obtain ⟨t, hep, h⟩ := h
  by_cases c1 : t = true
  case neg => rw [if_neg c1] at h; cases h
  rw [if_pos c1] at h
  subst c1
  replace h := Option.bind_eq_some_iff.mp h
  obtain ⟨⟨x1, xm⟩, hx, h⟩ := h
  dsimp only at hep hx h
  by_cases c3 : x1 < 0
  case pos => rw [if_pos c3] at h; cases h
  rw [if_neg c3] at h
  have c3b : decide (x1 < 0) = false := decide_eq_false c3
  replace h := Option.bind_eq_some_iff.mp h
  obtain ⟨⟨n1, nm⟩, hn, h⟩ := h
  replace h := Option.bind_eq_some_iff.mp h
  obtain ⟨q, hh, h⟩ := h
  dsimp only at hn hh h
  by_cases c4 : q < 0
  case pos => rw [if_pos c4] at h; cases h
  rw [if_neg c4] at h
  have c4b : decide (q < 0) = false := decide_eq_false c4
  by_cases c5 : q = n1
  case neg => rw [if_neg c5] at h; cases h
  rw [if_pos c5] at h
  subst c5
  obtain rfl := Option.some.inj h
  have gg : (gb != gb) = false := by simp
  have HP := Aside0.mk hp
  have HS := Aside0.mk hs
  have HG := Aside0.mk hg
  have HT := Aside0.mk ht
  have HE := Aside0.mk hep
  have HX := Aside0.mk hx
  have HN := Aside0.mk hn
  have HH := Aside0.mk hh
  clear h hp hs hg ht hep hx hn hh
  go_enter Try.func3, Try.ntmps3
  go_wp2_with (go_at_call 9; refine (laws_szGame.calls k a A c l 1048576 q0 _ ?hC hc HQ0.out).mono ?_; (case hC => exact Kd.C_alloc HC.out _); rintro e u1_ ⟨rfl, hb⟩; have BA := Aside0.mk (blk_below (blk_new w (.cells #[.int .i64 a, .slice A l.length c] 24 (0, 0))) hb); have HB0 := Aside0.mk (((Below.refl w.heap.size w).alloc (Nat.le_refl _) (.cells #[.int .i64 a, .slice A l.length c] 24 (0, 0))).trans (hb.mono (by simp))); clear hb; have hA0 := (blk_cell BA.out 0).trans rfl; have hA1 := (blk_cell BA.out 1).trans rfl)
  go_wp2_with (go_at_call 11; refine (laws_toGame.calls k a A c l m p _ (Kd.C_below HC.out HB0.out) hc HP.out).mono ?_; rintro e u2_ ⟨v, rfl, hR, hb⟩; obtain ⟨D, d, rfl⟩ := Kd.S_slice hR; have HD := Aside0.mk (Kd.S_reads' hR); clear hR; have nBA_ := Aside0.mk (blk_below BA.out hb); have nHB0_ := Aside0.mk (HB0.out.trans (hb.mono HB0.out.size)); clear hA0 hA1; clear BA HB0; have BA := nBA_; have HB0 := nHB0_; clear hb nBA_ nHB0_; have hA0 := (blk_cell BA.out 0).trans rfl; have hA1 := (blk_cell BA.out 1).trans rfl)
  go_wp2_with (go_at_call 10; refine (spec_MakePuzzle.calls k m D d p e0 e1 si s gb _ HD.out.2.2 HD.out.2.1 HS.out).mono ?_; rintro e w1 ⟨v, rfl, hV, hb⟩; obtain ⟨As, cs, rfl⟩ := Kd.R_slice hV; have HW := Aside0.mk (Kd.R_reads' hV); clear HD hV; have nBA_ := Aside0.mk (blk_below BA.out hb); have nHB0_ := Aside0.mk (HB0.out.trans (hb.mono HB0.out.size)); clear hA0 hA1; clear BA HB0; have BA := nBA_; have HB0 := nHB0_; clear hb nBA_ nHB0_; have hA0 := (blk_cell BA.out 0).trans rfl; have hA1 := (blk_cell BA.out 1).trans rfl; have HA := Aside0.mk (blk_lt BA.out); have HCA := Aside0.mk (Kd.C_below HC.out HB0.out); have nBA_ := Aside0.mk (blk_alloc BA.out (.cells #[.int .i64 si, .slice As s.length cs] 28 (0, 0))); clear BA; have BA := nBA_; clear nBA_ hA0 hA1; have BW := Aside0.mk (blk_new w1 (.cells #[.int .i64 si, .slice As s.length cs] 28 (0, 0))); have hA0 := (blk_cell BA.out 0).trans rfl; have hA1 := (blk_cell BA.out 1).trans rfl; have hW0 := (blk_cell BW.out 0).trans rfl; have hW1 := (blk_cell BW.out 1).trans rfl)
  go_wp2_with (go_at_call 11; refine (laws_toGame.calls k a A c l m p _ (Kd.C_alloc HCA.out _) hc HP.out).mono ?_; rintro e w2 ⟨v, rfl, hR, hb⟩; obtain ⟨X, cx, rfl⟩ := Kd.S_slice hR; have HX0 := Aside0.mk hR; have B1 := Aside0.mk (((Below.refl w1.heap.size w1).alloc (Nat.le_refl _) (.cells #[.int .i64 si, .slice As s.length cs] 28 (0, 0))).trans (hb.mono (by simp))); have HZ0 := Aside0.mk (show w1.heap.size + 1 ≤ w2.heap.size from Nat.le_trans (by simp) hb.size); have nBA_ := Aside0.mk (blk_alloc (blk_below BA.out hb) (.cells #[.int .i64 m, .slice X p.length cx] 31 (0, 0))); have nBW_ := Aside0.mk (blk_alloc (blk_below BW.out hb) (.cells #[.int .i64 m, .slice X p.length cx] 31 (0, 0))); clear hA0 hA1 hW0 hW1; clear BA BW hb hR; have BA := nBA_; have BW := nBW_; clear nBA_ nBW_; have BX := Aside0.mk (blk_new w2 (.cells #[.int .i64 m, .slice X p.length cx] 31 (0, 0))); have hA0 := (blk_cell BA.out 0).trans rfl; have hA1 := (blk_cell BA.out 1).trans rfl; have hW0 := (blk_cell BW.out 0).trans rfl; have hW1 := (blk_cell BW.out 1).trans rfl; have hX0 := (blk_cell BX.out 0).trans rfl; have hX1 := (blk_cell BX.out 1).trans rfl)
  go_wp2_with (go_at_call 12; refine (impl_MakePuzzle.calls k m X cx p e0 e1 gi g gb _ (Kd.C_alloc (Kd.S_reads' HX0.out).2.2 _) (Kd.S_reads' HX0.out).2.1 HG.out).mono ?_; rintro e w3 ⟨v, rfl, hS, hb⟩; obtain ⟨G, cg, rfl⟩ := Kd.R_slice hS; have nHX0_ := Aside0.mk (Kd.S_alloc (Kd.S_below (Kd.S_mono (Kd.S_bound (Kd.S_alloc HX0.out (.cells #[.int .i64 m, .slice X p.length cx] 31 (0, 0)))) (ok' := fun z => z < w2.heap.size + 1 ∧ w1.heap.size + 1 ≤ z) (fun z hz => ⟨Nat.lt_of_lt_of_le hz.2.2.1 (by simp), Nat.le_trans (by simp) hz.2.1⟩)) hb) (.cells #[.int .i64 gi, .slice G g.length cg] 28 (0, 0))); have HG0 := Aside0.mk (Kd.R_alloc (Kd.R_mono (Kd.R_bound hS) (ok' := fun z => w2.heap.size + 1 ≤ z ∧ z < w3.heap.size) (fun z hz => ⟨Nat.le_trans (by simp) hz.2.1, hz.2.2.1⟩)) (.cells #[.int .i64 gi, .slice G g.length cg] 28 (0, 0))); have nB1_ := Aside0.mk (((B1.out.alloc B1.out.size (.cells #[.int .i64 m, .slice X p.length cx] 31 (0, 0))).trans (hb.mono (Nat.le_trans B1.out.size (by simp)))).alloc (Nat.le_trans B1.out.size (Nat.le_trans (by simp) hb.size)) (.cells #[.int .i64 gi, .slice G g.length cg] 28 (0, 0))); have HZ := Aside0.mk (show w2.heap.size + 1 ≤ w3.heap.size from Nat.le_trans (by simp) hb.size); have nBA_ := Aside0.mk (blk_alloc (blk_below BA.out hb) (.cells #[.int .i64 gi, .slice G g.length cg] 28 (0, 0))); have nBW_ := Aside0.mk (blk_alloc (blk_below BW.out hb) (.cells #[.int .i64 gi, .slice G g.length cg] 28 (0, 0))); have nBX_ := Aside0.mk (blk_alloc (blk_below BX.out hb) (.cells #[.int .i64 gi, .slice G g.length cg] 28 (0, 0))); clear hA0 hA1 hW0 hW1 hX0 hX1; clear BA BW BX HX0 B1 hb hS; have BA := nBA_; have BW := nBW_; have BX := nBX_; have HX0 := nHX0_; have B1 := nB1_; clear nBA_ nBW_ nBX_ nHX0_ nB1_; have BG := Aside0.mk (blk_new w3 (.cells #[.int .i64 gi, .slice G g.length cg] 28 (0, 0))); have hA0 := (blk_cell BA.out 0).trans rfl; have hA1 := (blk_cell BA.out 1).trans rfl; have hW0 := (blk_cell BW.out 0).trans rfl; have hW1 := (blk_cell BW.out 1).trans rfl; have hX0 := (blk_cell BX.out 0).trans rfl; have hX1 := (blk_cell BX.out 1).trans rfl; have hG0 := (blk_cell BG.out 0).trans rfl; have hG1 := (blk_cell BG.out 1).trans rfl)
  go_wp2_with (go_at_call 13; refine (laws_eqPuzzle.calls k gi G cg g si As cs s true _ (Kd.R_reads' HG0.out).2.2 (Kd.R_reads' HG0.out).2.1 (Kd.C_below HW.out.2.2 B1.out) HW.out.2.1 HT.out).mono ?_; rintro e w4 ⟨rfl, hb⟩; have nBA_ := Aside0.mk (blk_below BA.out hb); have nBW_ := Aside0.mk (blk_below BW.out hb); have nBX_ := Aside0.mk (blk_below BX.out hb); have nBG_ := Aside0.mk (blk_below BG.out hb); have nHX0_ := Aside0.mk (Kd.S_below HX0.out hb); have nHG0_ := Aside0.mk (Kd.R_below HG0.out hb); have nB1_ := Aside0.mk (B1.out.trans (hb.mono B1.out.size)); clear hA0 hA1 hW0 hW1 hX0 hX1 hG0 hG1; clear BA BW BX BG HX0 HG0 B1; have BA := nBA_; have BW := nBW_; have BX := nBX_; have BG := nBG_; have HX0 := nHX0_; have HG0 := nHG0_; have B1 := nB1_; clear hb nBA_ nBW_ nBX_ nBG_ nHX0_ nHG0_ nB1_; have hA0 := (blk_cell BA.out 0).trans rfl; have hA1 := (blk_cell BA.out 1).trans rfl; have hW0 := (blk_cell BW.out 0).trans rfl; have hW1 := (blk_cell BW.out 1).trans rfl; have hX0 := (blk_cell BX.out 0).trans rfl; have hX1 := (blk_cell BX.out 1).trans rfl; have hG0 := (blk_cell BG.out 0).trans rfl; have hG1 := (blk_cell BG.out 1).trans rfl)
  refine start_ (n := 5) (S := fun w' => w'.cell? ⟨w2.heap.size, 0, none⟩ = some (.int .i64 m) ∧ w'.cell? ⟨w2.heap.size, 1, none⟩ = some (.slice X p.length cx) ∧ w'.cell? ⟨w.heap.size, 0, none⟩ = some (.int .i64 a) ∧ w'.cell? ⟨w.heap.size, 1, none⟩ = some (.slice A l.length c)) (ds := []) #[false, false, false, false, false] (by kernel_rfl) rfl rfl ⟨(blk_cell (blk_drew BX.out) 0).trans rfl, (blk_cell (blk_drew BX.out) 1).trans rfl, (blk_cell (blk_drew BA.out) 0).trans rfl, (blk_cell (blk_drew BA.out) 1).trans rfl⟩ (fun hHeld => ?_)
  have hb : Below w4.heap.size w4 w4.drew := (Below.refl _ w4).drew
  generalize w4.drew = w5 at hb hHeld ⊢
  have nBA_ := Aside0.mk (blk_below BA.out hb)
  have nBW_ := Aside0.mk (blk_below BW.out hb)
  have nBX_ := Aside0.mk (blk_below BX.out hb)
  have nBG_ := Aside0.mk (blk_below BG.out hb)
  have nHX0_ := Aside0.mk (Kd.S_below HX0.out hb)
  have nHG0_ := Aside0.mk (Kd.R_below HG0.out hb)
  have nB1_ := Aside0.mk (B1.out.trans (hb.mono B1.out.size))
  clear hA0 hA1 hW0 hW1 hX0 hX1 hG0 hG1
  clear BA BW BX BG HX0 HG0 B1
  have BA := nBA_
  have BW := nBW_
  have BX := nBX_
  have BG := nBG_
  have HX0 := nHX0_
  have HG0 := nHG0_
  have B1 := nB1_
  clear hb nBA_ nBW_ nBX_ nBG_ nHX0_ nHG0_ nB1_
  have hA0 := (blk_cell BA.out 0).trans rfl
  have hA1 := (blk_cell BA.out 1).trans rfl
  have hW0 := (blk_cell BW.out 0).trans rfl
  have hW1 := (blk_cell BW.out 1).trans rfl
  have hX0 := (blk_cell BX.out 0).trans rfl
  have hX1 := (blk_cell BX.out 1).trans rfl
  have hG0 := (blk_cell BG.out 0).trans rfl
  have hG1 := (blk_cell BG.out 1).trans rfl
  refine take_ (i := 0) (N := some 49) (v := ?_) (a' := ?_) #[true, false, false, false, false] rfl rfl (by kernel_rfl) (fun _ _ _ h => h) (Or.inl ⟨by rfl, ?_⟩) hHeld ?_ ?_
  rotate_left
  · rintro w' ⟨s0, s1, s2, s3⟩
    go_simp
    with_reducible rfl
  rotate_left
  · simp only [Act.put, List.setIfInBounds_toArray, List.set_cons_zero, List.set_cons_succ, i64_w, i32_w]
    rfl
  refine take_ (i := 1) (N := some 50) (v := ?_) (a' := ?_) #[true, true, false, false, false] rfl rfl (by kernel_rfl) (fun _ _ _ h => h) (Or.inl ⟨by rfl, ?_⟩) hHeld ?_ ?_
  rotate_left
  · rintro w' ⟨s0, s1, s2, s3⟩
    go_simp
    with_reducible rfl
  rotate_left
  · simp only [Act.put, List.setIfInBounds_toArray, List.set_cons_zero, List.set_cons_succ, i64_w, i32_w]
    rfl
  refine one_ (i := 2) (N := some 51) #[true, true, true, false, false] rfl rfl (by kernel_rfl) (by decide) (fun K hK => ?_)
  refine goes_ Try.func11 (by kernel_rfl) rfl #[.agg #[.int .i64 a, .slice A l.length c]] (by rfl) rfl rfl (by (try simp only [List.map_toArray, List.map_cons, List.map_nil]); first | done | rfl) ?_
  refine (laws_toGame.calls k a A c l m p _ (Kd.C_below HCA.out B1.out) hc HP.out).mono ?_
  rintro e w6 ⟨v, rfl, hD, hb⟩
  refine ⟨_, rfl, ?_⟩
  obtain ⟨D, d, rfl⟩ := Kd.S_slice hD
  have HD := Aside0.mk (Kd.S_reads' hD)
  clear hD
  have nBA_ := Aside0.mk (blk_below BA.out hb)
  have nBW_ := Aside0.mk (blk_below BW.out hb)
  have nBX_ := Aside0.mk (blk_below BX.out hb)
  have nBG_ := Aside0.mk (blk_below BG.out hb)
  have nHX0_ := Aside0.mk (Kd.S_below HX0.out hb)
  have nHG0_ := Aside0.mk (Kd.R_below HG0.out hb)
  have nB1_ := Aside0.mk (B1.out.trans (hb.mono B1.out.size))
  clear hA0 hA1 hW0 hW1 hX0 hX1 hG0 hG1
  clear BA BW BX BG HX0 HG0 B1
  have BA := nBA_
  have BW := nBW_
  have BX := nBX_
  have BG := nBG_
  have HX0 := nHX0_
  have HG0 := nHG0_
  have B1 := nB1_
  clear hb nBA_ nBW_ nBX_ nBG_ nHX0_ nHG0_ nB1_
  have hA0 := (blk_cell BA.out 0).trans rfl
  have hA1 := (blk_cell BA.out 1).trans rfl
  have hW0 := (blk_cell BW.out 0).trans rfl
  have hW1 := (blk_cell BW.out 1).trans rfl
  have hX0 := (blk_cell BX.out 0).trans rfl
  have hX1 := (blk_cell BX.out 1).trans rfl
  have hG0 := (blk_cell BG.out 0).trans rfl
  have hG1 := (blk_cell BG.out 1).trans rfl
  refine hK.out _ _ ⟨(blk_cell BX.out 0).trans rfl, (blk_cell BX.out 1).trans rfl, (blk_cell BA.out 0).trans rfl, (blk_cell BA.out 1).trans rfl⟩ (fun hHeld => ?_)
  clear hK K
  refine norm_ (a' := ?_) ?_ ?_
  rotate_left
  · show Act.put _ (some 51) _ = _
    simp only [Act.put, List.setIfInBounds_toArray, List.set_cons_zero, List.set_cons_succ, i64_w, i32_w]
    rfl
  refine one_ (i := 3) (N := some 52) #[true, true, true, true, false] rfl rfl (by kernel_rfl) (by decide) (fun K hK => ?_)
  refine goes_ Try.func14 (by kernel_rfl) rfl #[.agg #[.int .i64 m, .slice X p.length cx], .agg #[.int .i64 m, .slice D p.length d]] (by rfl) rfl rfl (by (try simp only [List.map_toArray, List.map_cons, List.map_nil]); first | done | rfl) ?_
  refine (laws_eqGame.calls k m X cx p m D d p true _ (Kd.S_reads' HX0.out).2.2 (Kd.S_reads' HX0.out).2.1 HD.out.2.2 HD.out.2.1 HE.out).mono ?_
  rintro e w7 ⟨rfl, hb⟩
  refine ⟨_, rfl, ?_⟩
  clear HD
  have nBA_ := Aside0.mk (blk_below BA.out hb)
  have nBW_ := Aside0.mk (blk_below BW.out hb)
  have nBX_ := Aside0.mk (blk_below BX.out hb)
  have nBG_ := Aside0.mk (blk_below BG.out hb)
  have nHX0_ := Aside0.mk (Kd.S_below HX0.out hb)
  have nHG0_ := Aside0.mk (Kd.R_below HG0.out hb)
  have nB1_ := Aside0.mk (B1.out.trans (hb.mono B1.out.size))
  clear hA0 hA1 hW0 hW1 hX0 hX1 hG0 hG1
  clear BA BW BX BG HX0 HG0 B1
  have BA := nBA_
  have BW := nBW_
  have BX := nBX_
  have BG := nBG_
  have HX0 := nHX0_
  have HG0 := nHG0_
  have B1 := nB1_
  clear hb nBA_ nBW_ nBX_ nBG_ nHX0_ nHG0_ nB1_
  have hA0 := (blk_cell BA.out 0).trans rfl
  have hA1 := (blk_cell BA.out 1).trans rfl
  have hW0 := (blk_cell BW.out 0).trans rfl
  have hW1 := (blk_cell BW.out 1).trans rfl
  have hX0 := (blk_cell BX.out 0).trans rfl
  have hX1 := (blk_cell BX.out 1).trans rfl
  have hG0 := (blk_cell BG.out 0).trans rfl
  have hG1 := (blk_cell BG.out 1).trans rfl
  refine hK.out _ _ ⟨(blk_cell BX.out 0).trans rfl, (blk_cell BX.out 1).trans rfl, (blk_cell BA.out 0).trans rfl, (blk_cell BA.out 1).trans rfl⟩ (fun hHeld => ?_)
  clear hK K
  refine norm_ (a' := ?_) ?_ ?_
  rotate_left
  · show Act.put _ (some 52) _ = _
    simp only [Act.put, List.setIfInBounds_toArray, List.set_cons_zero, List.set_cons_succ, i64_w, i32_w]
    rfl
  refine pure_ (i := 4) (N := some 53) (v := ?_) (a' := ?_) #[true, true, true, true, true] rfl rfl (by kernel_rfl) (fun _ _ _ h => h) (Or.inl ⟨by rfl, ?_⟩) ?_ ?_
  rotate_left
  · intro w'
    go_simp
    with_reducible rfl
  rotate_left
  · simp only [Act.put, List.setIfInBounds_toArray, List.set_cons_zero, List.set_cons_succ, i64_w, i32_w]
    rfl
  refine done_ (by kernel_rfl) ?_
  clear hHeld
  go_wp2_with (go_at_call 15; refine (laws_markGame.calls k m X cx p 1 x1 xm (fun z => z < w2.heap.size + 1 ∧ w1.heap.size + 1 ≤ z) w1 _ B1.out (Kd.S_lower HX0.out (by first | exact (Nat.le_refl _) | simp)) HX.out).mono ?_; rintro e w8 ⟨rfl, -, -, hb, hk⟩; have nHG0_ := Aside0.mk (Kd.R_step HG0.out (fun z hz hlt => hk.2 z hlt (fun h => absurd h.1 (Nat.not_lt.2 hz.1)))); have nBA_ := Aside0.mk ((hk.2 _ (blk_lt BA.out) (fun hz => absurd (Nat.lt_of_lt_of_le HA.out (Nat.le_trans (Nat.le_succ _) hz.2)) (Nat.lt_irrefl _))).trans BA.out); have nBW_ := Aside0.mk ((hk.2 _ (blk_lt BW.out) (fun hz => absurd hz.2 (Nat.not_succ_le_self _))).trans BW.out); have nBG_ := Aside0.mk ((hk.2 _ (blk_lt BG.out) (fun hz => absurd (Nat.lt_of_lt_of_le hz.1 HZ.out) (Nat.lt_irrefl _))).trans BG.out); clear hA0 hA1 hW0 hW1 hX0 hX1 hG0 hG1; clear BA BW BX BG HX0 HG0 B1; have BA := nBA_; have BW := nBW_; have BG := nBG_; have HG0 := nHG0_; have B1 := Aside0.mk hb; clear nBA_ nBW_ nBG_ nHG0_ hb hk; have hA0 := (blk_cell BA.out 0).trans rfl; have hA1 := (blk_cell BA.out 1).trans rfl; have hW0 := (blk_cell BW.out 0).trans rfl; have hW1 := (blk_cell BW.out 1).trans rfl; have hG0 := (blk_cell BG.out 0).trans rfl; have hG1 := (blk_cell BG.out 1).trans rfl)
  go_wp2_with (go_at_call 13; refine (laws_eqPuzzle.calls k gi G cg g si As cs s true _ (Kd.R_reads' HG0.out).2.2 (Kd.R_reads' HG0.out).2.1 (Kd.C_below HW.out.2.2 B1.out) HW.out.2.1 HT.out).mono ?_; rintro e w9 ⟨rfl, hb⟩; have nBA_ := Aside0.mk (blk_below BA.out hb); have nBW_ := Aside0.mk (blk_below BW.out hb); have nBG_ := Aside0.mk (blk_below BG.out hb); have nHG0_ := Aside0.mk (Kd.R_below HG0.out hb); have nB1_ := Aside0.mk (B1.out.trans (hb.mono B1.out.size)); clear hA0 hA1 hW0 hW1 hG0 hG1; clear BA BW BG HG0 B1; have BA := nBA_; have BW := nBW_; have BG := nBG_; have HG0 := nHG0_; have B1 := nB1_; clear hb nBA_ nBW_ nBG_ nHG0_ nB1_; have hA0 := (blk_cell BA.out 0).trans rfl; have hA1 := (blk_cell BA.out 1).trans rfl; have hW0 := (blk_cell BW.out 0).trans rfl; have hW1 := (blk_cell BW.out 1).trans rfl; have hG0 := (blk_cell BG.out 0).trans rfl; have hG1 := (blk_cell BG.out 1).trans rfl)
  go_wp2_with (go_at_call 16; refine (laws_markPuzzle.calls k gi (fun z => w2.heap.size + 1 ≤ z ∧ z < w3.heap.size) _ g 1 q nm w1 _ B1.out (Kd.R_lower HG0.out (Nat.le_trans (Nat.le_succ _) (Nat.le_trans HZ0.out (by simp)))) HN.out).mono ?_; rintro e w10 ⟨rfl, hS, hb, hk⟩; have HM := Aside0.mk (Kd.R_reads' hS); have nBA_ := Aside0.mk ((hk.2 _ (blk_lt BA.out) (fun hz => absurd (Nat.lt_of_lt_of_le HA.out (Nat.le_trans (Nat.le_succ _) (Nat.le_trans HZ0.out (Nat.le_trans (Nat.le_succ _) hz.1)))) (Nat.lt_irrefl _))).trans BA.out); have nBW_ := Aside0.mk ((hk.2 _ (blk_lt BW.out) (fun hz => absurd (Nat.le_trans HZ0.out (Nat.le_trans (Nat.le_succ _) hz.1)) (Nat.not_succ_le_self _))).trans BW.out); have nBG_ := Aside0.mk ((hk.2 _ (blk_lt BG.out) (fun hz => absurd hz.2 (Nat.lt_irrefl _))).trans BG.out); clear hA0 hA1 hW0 hW1 hG0 hG1; clear BA BW BG HG0 B1; have BA := nBA_; have BW := nBW_; have BG := nBG_; have B1 := Aside0.mk hb; clear nBA_ nBW_ nBG_ hb hk hS; have hA0 := (blk_cell BA.out 0).trans rfl; have hA1 := (blk_cell BA.out 1).trans rfl; have hW0 := (blk_cell BW.out 0).trans rfl; have hW1 := (blk_cell BW.out 1).trans rfl; have hG0 := (blk_cell BG.out 0).trans rfl; have hG1 := (blk_cell BG.out 1).trans rfl)
  go_wp2_with (go_at_call 17; refine (stHeldMakePuzzle k gi q _ HM.out HH.out).mono ?_; rintro e w11 ⟨rfl, hb⟩; have nBA_ := Aside0.mk (blk_below BA.out hb); have nBW_ := Aside0.mk (blk_below BW.out hb); have nBG_ := Aside0.mk (blk_below BG.out hb); have nHM_ := Aside0.mk (And.intro HM.out.1 (And.intro HM.out.2.1 (Kd.C_below HM.out.2.2 hb))); have nB1_ := Aside0.mk (B1.out.trans (hb.mono B1.out.size)); clear hA0 hA1 hW0 hW1 hG0 hG1; clear BA BW BG HM B1; have BA := nBA_; have BW := nBW_; have BG := nBG_; have HM := nHM_; have B1 := nB1_; clear hb nBA_ nBW_ nBG_ nHM_ nB1_; have hA0 := (blk_cell BA.out 0).trans rfl; have hA1 := (blk_cell BA.out 1).trans rfl; have hW0 := (blk_cell BW.out 0).trans rfl; have hW1 := (blk_cell BW.out 1).trans rfl; have hG0 := (blk_cell BG.out 0).trans rfl; have hG1 := (blk_cell BG.out 1).trans rfl)
  go_wp2_with (go_at_call 11; refine (laws_toGame.calls k a A c l m p _ (Kd.C_below HCA.out B1.out) hc HP.out).mono ?_; rintro e w12 ⟨v, rfl, hR, hb⟩; obtain ⟨D, d, rfl⟩ := Kd.S_slice hR; have HD := Aside0.mk (Kd.S_reads' hR); clear hR; have nBA_ := Aside0.mk (blk_below BA.out hb); have nBW_ := Aside0.mk (blk_below BW.out hb); have nBG_ := Aside0.mk (blk_below BG.out hb); have nHM_ := Aside0.mk (And.intro HM.out.1 (And.intro HM.out.2.1 (Kd.C_below HM.out.2.2 hb))); have nB1_ := Aside0.mk (B1.out.trans (hb.mono B1.out.size)); clear hA0 hA1 hW0 hW1 hG0 hG1; clear BA BW BG HM B1; have BA := nBA_; have BW := nBW_; have BG := nBG_; have HM := nHM_; have B1 := nB1_; clear hb nBA_ nBW_ nBG_ nHM_ nB1_; have hA0 := (blk_cell BA.out 0).trans rfl; have hA1 := (blk_cell BA.out 1).trans rfl; have hW0 := (blk_cell BW.out 0).trans rfl; have hW1 := (blk_cell BW.out 1).trans rfl; have hG0 := (blk_cell BG.out 0).trans rfl; have hG1 := (blk_cell BG.out 1).trans rfl)
  go_wp2_with (go_at_call 12; refine (impl_MakePuzzle.calls k m D d p e0 e1 gi g gb _ HD.out.2.2 HD.out.2.1 HG.out).mono ?_; rintro e w13 ⟨v, rfl, hR, hb⟩; obtain ⟨E, f, rfl⟩ := Kd.R_slice hR; clear HD; have HD := Aside0.mk (And.intro (Kd.R_reads' hR).1 (And.intro (Kd.R_reads' hR).2.1 (Kd.C_alloc (Kd.R_reads' hR).2.2 (.cells #[.int .i64 gi, .slice E g.length f] 28 (0, 0))))); clear hR; have nBA_ := Aside0.mk (blk_alloc (blk_below BA.out hb) (.cells #[.int .i64 gi, .slice E g.length f] 28 (0, 0))); have nBW_ := Aside0.mk (blk_alloc (blk_below BW.out hb) (.cells #[.int .i64 gi, .slice E g.length f] 28 (0, 0))); have nBG_ := Aside0.mk (blk_alloc (blk_below BG.out hb) (.cells #[.int .i64 gi, .slice E g.length f] 28 (0, 0))); have nHM_ := Aside0.mk (And.intro HM.out.1 (And.intro HM.out.2.1 (Kd.C_alloc (Kd.C_below HM.out.2.2 hb) (.cells #[.int .i64 gi, .slice E g.length f] 28 (0, 0))))); have nB1_ := Aside0.mk ((B1.out.trans (hb.mono B1.out.size)).alloc (Nat.le_trans B1.out.size hb.size) (.cells #[.int .i64 gi, .slice E g.length f] 28 (0, 0))); clear hA0 hA1 hW0 hW1 hG0 hG1; clear BA BW BG HM B1 hb; have BA := nBA_; have BW := nBW_; have BG := nBG_; have HM := nHM_; have B1 := nB1_; clear nBA_ nBW_ nBG_ nHM_ nB1_; have BH := Aside0.mk (blk_new w13 (.cells #[.int .i64 gi, .slice E g.length f] 28 (0, 0))); have hA0 := (blk_cell BA.out 0).trans rfl; have hA1 := (blk_cell BA.out 1).trans rfl; have hW0 := (blk_cell BW.out 0).trans rfl; have hW1 := (blk_cell BW.out 1).trans rfl; have hG0 := (blk_cell BG.out 0).trans rfl; have hG1 := (blk_cell BG.out 1).trans rfl; have hH0 := (blk_cell BH.out 0).trans rfl; have hH1 := (blk_cell BH.out 1).trans rfl)
  go_wp2_with (go_at_call 13; refine (laws_eqPuzzle.calls k gi E f g si As cs s true _ HD.out.2.2 HD.out.2.1 (Kd.C_below HW.out.2.2 B1.out) HW.out.2.1 HT.out).mono ?_; rintro e w14 ⟨rfl, hb⟩; clear HD; have nBA_ := Aside0.mk (blk_below BA.out hb); have nBW_ := Aside0.mk (blk_below BW.out hb); have nBG_ := Aside0.mk (blk_below BG.out hb); have nBH_ := Aside0.mk (blk_below BH.out hb); have nHM_ := Aside0.mk (And.intro HM.out.1 (And.intro HM.out.2.1 (Kd.C_below HM.out.2.2 hb))); have nB1_ := Aside0.mk (B1.out.trans (hb.mono B1.out.size)); clear hA0 hA1 hW0 hW1 hG0 hG1 hH0 hH1; clear BA BW BG BH HM B1; have BA := nBA_; have BW := nBW_; have BG := nBG_; have BH := nBH_; have HM := nHM_; have B1 := nB1_; clear hb nBA_ nBW_ nBG_ nBH_ nHM_ nB1_; have hA0 := (blk_cell BA.out 0).trans rfl; have hA1 := (blk_cell BA.out 1).trans rfl; have hW0 := (blk_cell BW.out 0).trans rfl; have hW1 := (blk_cell BW.out 1).trans rfl; have hG0 := (blk_cell BG.out 0).trans rfl; have hG1 := (blk_cell BG.out 1).trans rfl; have hH0 := (blk_cell BH.out 0).trans rfl; have hH1 := (blk_cell BH.out 1).trans rfl)
  go_wp2_with (go_at_call 17; refine (stHeldMakePuzzle k gi q _ HM.out HH.out).mono ?_; rintro e w15 ⟨rfl, hb⟩; have nBA_ := Aside0.mk (blk_below BA.out hb); have nBW_ := Aside0.mk (blk_below BW.out hb); have nBG_ := Aside0.mk (blk_below BG.out hb); have nBH_ := Aside0.mk (blk_below BH.out hb); have nHM_ := Aside0.mk (And.intro HM.out.1 (And.intro HM.out.2.1 (Kd.C_below HM.out.2.2 hb))); have nB1_ := Aside0.mk (B1.out.trans (hb.mono B1.out.size)); clear hA0 hA1 hW0 hW1 hG0 hG1 hH0 hH1; clear BA BW BG BH HM B1; have BA := nBA_; have BW := nBW_; have BG := nBG_; have BH := nBH_; have HM := nHM_; have B1 := nB1_; clear hb nBA_ nBW_ nBG_ nBH_ nHM_ nB1_; have hA0 := (blk_cell BA.out 0).trans rfl; have hA1 := (blk_cell BA.out 1).trans rfl; have hW0 := (blk_cell BW.out 0).trans rfl; have hW1 := (blk_cell BW.out 1).trans rfl; have hG0 := (blk_cell BG.out 0).trans rfl; have hG1 := (blk_cell BG.out 1).trans rfl; have hH0 := (blk_cell BH.out 0).trans rfl; have hH1 := (blk_cell BH.out 1).trans rfl)
  go_ret
  exact ⟨rfl, HB0.out.trans (B1.out.mono HB0.out.size)⟩
theorem laws_FnExactMakePuzzle.calls (k : Nat) (a0_0 : Int) (A0_1 : Option Addr) (c0_1 : Nat) (l0_1 : List (List Int)) (a1 : Int) (a2 : Int) (r : Bool) (w : World) (hr0_1 : Kd.C (Kd.slice 3 (Kd.int .i64)) w A0_1 l0_1.length l0_1) (hc0_1 : l0_1.length ≤ c0_1) (h : laws_FnExactMakePuzzle.f k a0_0 l0_1 a1 a2 = some r) :
    Calls Try.prog 3 #[.agg #[.int .i64 a0_0, .slice A0_1 l0_1.length c0_1], .int .i64 a1, .int .i64 a2] w fun e w' => e = .returned (.bool r) ∧ Below w.heap.size w w' := by
  exact laws_FnExactMakePuzzle_walk k a0_0 A0_1 c0_1 l0_1 a1 a2 r w hr0_1 hc0_1 h
end Go.Proofs.Ytaacaifiiedoiaa.Q
end
section
namespace Go.Proofs.Ytaacaifiiedoiaa.Q
open Go.RowKit Go.Proofs.YtaacaifiiedoiaaW.PrintWords Go.Proofs.YtaacaifiiedoiaaW.PrintLast Go.Proofs.YtaacaifiiedoiaaW.PrintMore
set_option linter.unusedVariables false
set_option linter.unusedSimpArgs false
open Go.ChangeShapes Go.WideShapes Go.ChangeAt Go.Deep
section
variable {H : Type} {enc : TypeId × Value → H} {P : Program} {W : World} {α β γ : Type}
def Opens (enc : TypeId × Value → H) (P : Program) (W : World) (t : TypeId) (d : Kd α) (G : α → Prop) : Prop :=
  ∀ (fuel : Nat) (cs : List Value) (y : DataW H × List MemPlace), DataW.trod enc P W 0 (fun _ => true) true fuel t cs = some y → ∃ x, d.K W x cs ∧ G x
def I64 (x : Int) : Prop := -9223372036854775808 ≤ x ∧ x ≤ 9223372036854775807
theorem opens_int {t : TypeId} (ht : P.underlying t = some (.int .i64)) : Opens enc P W t (Kd.int .i64) I64 := by
  intro fuel cs y h
  obtain ⟨n, rfl, _, hw⟩ := DataW.trod_int ht h
  exact ⟨n, rfl, Go.bounds_i64 hw⟩
theorem opens_slice [Inhabited α] {t e : TypeId} {d : Kd α} {G : α → Prop} (ht : P.underlying t = some (.slice e)) (he : P.cellsOf e = d.sz) (h : Opens enc P W e d G) :
    Opens enc P W t (Kd.slice e d) (fun xs => ∀ x ∈ xs, G x) := by
  intro fuel cs y hr
  rcases Deep.open_slice ht hr with ⟨rfl, _⟩ | ⟨a, len, cap, m, n, D, Pl, rfl, _, hlc, hcm, hm, _, hel⟩
  · exact ⟨[], ⟨none, 0, rfl, Nat.le_refl _, rfl, by simp, fun hp => absurd hp (by simp)⟩, fun x hx => by cases hx⟩
  · have hm' : len ≤ m := by rw [hm]; simp; omega
    have key : ∀ i, i < len → ∃ x, (∃ cs', d.K W x cs' ∧ ∀ j u, cs'[j]? = some u → W.cell? (a.add (i * d.sz + j)) = some u) ∧ G x := by
      intro i hi
      obtain ⟨cs', h1, h2⟩ := hel i (by omega)
      obtain ⟨x, hx, hG⟩ := h _ _ _ h2
      obtain ⟨_, hl, hc⟩ := World.cells?_some h1
      refine ⟨x, ⟨cs', hx, fun j u hu => ?_⟩, hG⟩
      have hj : j < P.cellsOf e := by rw [← hl]; exact (List.getElem?_eq_some_iff.1 hu).1
      have h3 := hc j hj
      rw [Deep.add_add, he] at h3
      rw [h3, hu]
    obtain ⟨f, hf⟩ := Deep.choose_lt key
    have hlen : ((List.range len).map f).length = len := by simp
    refine ⟨(List.range len).map f, ⟨some a, cap, by rw [hlen], by rw [hlen]; exact hlc, rfl, ?_, fun _ => ⟨a, rfl, fun j p hj => ?_⟩⟩, fun x hx => ?_⟩
    · rw [hlen]; unfold maxLen at hcm; omega
    · obtain ⟨hj1, hj2⟩ := List.getElem?_eq_some_iff.1 hj
      have hjl : j < len := by rw [hlen] at hj1; exact hj1
      have : p = f j := by rw [← hj2]; simp
      subst this
      obtain ⟨⟨cs', hK, hc⟩, _⟩ := hf j hjl
      exact ⟨cs', d.K_len hK, hK, hc⟩
    · obtain ⟨i, hi, rfl⟩ := List.mem_map.1 hx
      exact (hf i (List.mem_range.1 hi)).2
theorem opens_pair {t : TypeId} {f0 f1 : Field} {d0 : Kd α} {d1 : Kd β} {G0 : α → Prop} {G1 : β → Prop} (ht : P.underlying t = some (.struct #[f0, f1])) (hC : P.cellsOf t = d0.sz + d1.sz)
    (o0 : f0.offset = 0) (o1 : f1.offset = d0.sz) (c0 : P.cellsOf f0.type = d0.sz) (c1 : P.cellsOf f1.type = d1.sz) (h0 : Opens enc P W f0.type d0 G0) (h1 : Opens enc P W f1.type d1 G1) :
    Opens enc P W t (Kd.pair d0 d1) (fun x => G0 x.1 ∧ G1 x.2) := by
  intro fuel cs y hr
  obtain ⟨y0, y1, n, _, hl, r0, r1⟩ := trod_struct2 ht hr
  rw [o0, c0] at r0
  rw [o1, c1] at r1
  obtain ⟨x0, k0, g0⟩ := h0 _ _ _ r0
  obtain ⟨x1, k1, g1⟩ := h1 _ _ _ r1
  refine ⟨(x0, x1), ⟨_, _, ?_, k0, k1⟩, g0, g1⟩
  rw [List.drop_zero, List.take_of_length_le (l := cs.drop d0.sz) (by rw [List.length_drop, hl, hC]; omega), List.take_append_drop]
theorem open_struct {r : Reach} {b0 : Nat} {t : TypeId} {fs : Array Field} {d : Kd α} {G : α → Prop} {v : Value} {y : DataW H} {p : List MemPlace} (ht : P.underlying t = some (.struct fs)) (hv : Value.okWide P W r b0 t v)
    (hr : DataW.Trod enc P W 0 (fun _ => true) true t v y p) (h : Opens enc P W t d G) : ∃ x cs, v = .agg cs ∧ d.K W x cs.toList ∧ G x := by
  obtain ⟨cs, rfl, _⟩ := okWide_struct ht hv
  obtain ⟨fuel, hf⟩ := hr
  obtain ⟨x, k, g⟩ := h _ _ _ hf
  exact ⟨x, cs, rfl, k, g⟩
end
end Go.Proofs.Ytaacaifiiedoiaa.Q
end
section
namespace Go.Proofs.Ytaacaifiiedoiaa.Q
open Go.RowKit Go.Proofs.YtaacaifiiedoiaaW.PrintWords Go.Proofs.YtaacaifiiedoiaaW.PrintLast Go.Proofs.YtaacaifiiedoiaaW.PrintMore
set_option linter.unusedVariables false
set_option linter.unusedSimpArgs false
def inB (n lo hi : Int) : Bool := decide (lo ≤ n) && decide (n ≤ hi)
theorem shl_one (n : Int) (h : 0 ≤ n ∧ n ≤ 16) : shl .i64 1 n = 2 ^ n.toNat := by
  obtain ⟨m, rfl⟩ := Int.eq_ofNat_of_zero_le h.1
  have hm : m ≤ 16 := by omega
  have : ∀ m : Nat, m ≤ 16 → shl .i64 1 (m : Int) = 2 ^ (m : Int).toNat := by decide
  exact this m hm
theorem pow_le16 (n : Int) (h : 0 ≤ n ∧ n ≤ 16) : 1 ≤ (2 : Int) ^ n.toNat ∧ (2 : Int) ^ n.toNat ≤ 65536 := by
  obtain ⟨m, rfl⟩ := Int.eq_ofNat_of_zero_le h.1
  have hm : m ≤ 16 := by omega
  have : ∀ m : Nat, m ≤ 16 → 1 ≤ (2 : Int) ^ (m : Int).toNat ∧ (2 : Int) ^ (m : Int).toNat ≤ 65536 := by decide
  exact this m hm
theorem wrap64_id {x : Int} (h : -9223372036854775808 ≤ x ∧ x ≤ 9223372036854775807) : wrap64 x = x := by unfold wrap64; omega
theorem all_bits (n : Int) (h : 0 ≤ n ∧ n ≤ 16) : wrap64 (shl .i64 1 n - 1) = 2 ^ n.toNat - 1 := by
  rw [shl_one n h]
  have := pow_le16 n h
  exact wrap64_id (by omega)
theorem within_eq (n lo hi : Int) : impl_within.f n lo hi = some (inB n lo hi) := by
  unfold impl_within.f inB
  split <;> simp_all <;> omega
theorem l1In_eq (n lo hi : Int) : spec_l1In.f n lo hi = some (inB n lo hi) := by
  unfold spec_l1In.f inB
  split <;> simp_all <;> omega
theorem voAll_eq (n : Int) (h : 0 ≤ n ∧ n ≤ 16) : spec_voAll.f n = some (2 ^ n.toNat - 1) := by
  unfold spec_voAll.f
  rw [if_pos h.1, all_bits n h]
theorem isHidden_eq (n : Int) : impl_isHidden.f n = some (inB n 1 4) := by unfold impl_isHidden.f; rw [within_eq]; rfl
theorem inB_iff {n lo hi : Int} : inB n lo hi = true ↔ lo ≤ n ∧ n ≤ hi := by unfold inB; simp
theorem ev_pos {α : Type} {c : Prop} [Decidable c] {f g : Nat → Option α} {r : α} (h : c) (k : Ev f r) : Ev (fun n => if c then f n else g n) r := by
  simp only [if_pos h]; exact k
theorem ev_neg {α : Type} {c : Prop} [Decidable c] {f g : Nat → Option α} {r : α} (h : ¬ c) (k : Ev g r) : Ev (fun n => if c then f n else g n) r := by
  simp only [if_neg h]; exact k
theorem ev_bindS {α β : Type} {x : Option α} {f : Nat → α → Option β} {a : α} {r : β} (h : x = some a) (k : Ev (fun n => f n a) r) : Ev (fun n => x.bind (f n)) r := by
  subst h; exact k
theorem ev_succ {α : Type} {g : Nat → Option α} {r : α} (k : Ev (fun n => g (n + 1)) r) : Ev g r := Ev.step (fun _ => rfl) k
theorem ev_eqv {α : Type} {f : Nat → Option α} {r q : α} (h : Ev f r) (e : r = q) : Ev f q := e ▸ h
theorem ev_bool {α : Type} {c : Bool} {f g : Nat → Option α} {r : α} (h1 : c = true → Ev f r) (h2 : c = false → Ev g r) : Ev (fun n => if c = true then f n else g n) r := by
  cases c
  · simpa using h2 rfl
  · simpa using h1 rfl
theorem rd_get {xs : List Int} {i : Nat} (h : i < xs.length) : rd xs (i : Int) = xs[i] := by
  unfold rd
  simp [List.getD_eq_getElem?_getD, List.getElem?_eq_getElem h]
theorem wrap_succ {i : Nat} {n : Nat} (h : i < n) (hn : n ≤ 1152921504606846976) : wrap64 ((i : Int) + 1) = ((i + 1 : Nat) : Int) := by
  unfold wrap64; omega
theorem wrap_pred {i : Nat} {n : Nat} (h : i < n) (hn : n ≤ 1152921504606846976) : wrap64 (((i + 1 : Nat) : Int) - 1) = (i : Int) := by
  unfold wrap64; omega
def iotaL (m : Int) (n : Nat) : List Int := (List.range n).map fun (i : Nat) => m + (i : Int)
theorem eqIntS_ev (a b : List Int) (ha : a.length ≤ 1152921504606846976) : Ev (fun k => laws_eqIntS.f k a b) (decide (a = b)) := by
  unfold laws_eqIntS.f
  by_cases hl : a.length = b.length
  · refine ev_pos (by omega) ?_
    have key : ∀ d i : Nat, i + d = a.length → Ev (fun k => laws_eqIntS.l0 k a b (i : Int)) (decide (a.drop i = b.drop i)) := by
      intro d
      induction d with
      | zero =>
        intro i hi
        refine ev_succ ?_
        simp only [laws_eqIntS.l0]
        refine ev_neg (by omega) ?_
        rw [List.drop_of_length_le (by omega), List.drop_of_length_le (by omega)]
        exact Ev.now _
      | succ d ih =>
        intro i hi
        have h1 : i < a.length := by omega
        have h2 : i < b.length := by omega
        refine ev_succ ?_
        simp only [laws_eqIntS.l0]
        refine ev_pos (by omega) (ev_pos (by omega) (ev_pos (by omega) ?_))
        rw [List.drop_eq_getElem_cons h1, List.drop_eq_getElem_cons h2, rd_get h1, rd_get h2, wrap_succ h1 ha]
        by_cases e : a[i] = b[i]
        · refine ev_pos e (ev_eqv (ih (i + 1) (by omega)) ?_)
          exact decide_eq_decide.2 ⟨fun h => by rw [e, h], fun h => (List.cons.inj h).2⟩
        · refine ev_neg e (ev_eqv (Ev.now false) ?_)
          exact (decide_eq_false (fun h => e (List.cons.inj h).1)).symm
    exact key a.length 0 (by omega)
  · refine ev_neg (by omega) (ev_eqv (Ev.now false) ?_)
    have : a ≠ b := fun e => hl (by rw [e])
    simp [this]
theorem markIntS_ev (l : List Int) (m : Int) (hl : l.length ≤ 1152921504606846976) (hm : 0 ≤ m ∧ m ≤ 1152921504606846976) : Ev (fun k => laws_markIntS.f k l m) (m + l.length, iotaL m l.length) := by
  unfold laws_markIntS.f
  have key : ∀ (d i : Nat) (x : List Int), x.length = l.length → i + d = l.length → Ev (fun k => laws_markIntS.l0 k x (m + i) (i : Int)) (m + l.length, x.take i ++ iotaL (m + i) (l.length - i)) := by
    intro d
    induction d with
    | zero =>
      intro i x hx hi
      refine ev_succ ?_
      simp only [laws_markIntS.l0]
      refine ev_neg (by omega) (ev_eqv (Ev.now _) ?_)
      have : l.length - i = 0 := by omega
      rw [this, List.take_of_length_le (by omega), show i = l.length by omega]
      simp [iotaL]
    | succ d ih =>
      intro i x hx hi
      have h1 : i < l.length := by omega
      refine ev_succ ?_
      simp only [laws_markIntS.l0]
      refine ev_pos (by omega) (ev_pos (by omega) ?_)
      rw [wrap_succ h1 hl, wrap64_id (show -9223372036854775808 ≤ m + i + 1 ∧ m + i + 1 ≤ 9223372036854775807 by omega), show m + (i : Int) + 1 = m + ((i + 1 : Nat) : Int) by omega, Int.toNat_natCast]
      refine ev_eqv (ih (i + 1) (x.set i (m + i)) (by simpa using hx) (by omega)) ?_
      congr 1
      have e1 : (x.set i (m + i)).take (i + 1) = x.take i ++ [m + (i : Int)] := by
        rw [List.take_succ_eq_append_getElem (by rw [List.length_set]; omega), List.getElem_set_self, List.take_set_of_le (Nat.le_refl _)]
      have e2 : iotaL (m + i) (l.length - i) = (m + (i : Int)) :: iotaL (m + ((i + 1 : Nat) : Int)) (l.length - (i + 1)) := by
        rw [show l.length - i = (l.length - (i + 1)) + 1 by omega]
        unfold iotaL
        rw [List.range_succ_eq_map, List.map_cons, List.map_map]
        congr 1
        · simp
        · refine List.map_congr_left fun j _ => ?_
          simp only [Function.comp]
          omega
      rw [e1, e2, List.append_assoc]; rfl
  have := key l.length 0 l rfl (by omega)
  simpa using this
theorem wraps_i64 (n : Int) (h0 : 0 ≤ n) (h1 : n < 2 ^ 62) : IntKind.i64.wrap n = n := by rw [IntKind.wrap_i64]; omega
theorem and_nat (a b : Nat) (ha : a < 2 ^ 62) (hb : b < 2 ^ 62) : Go.bits .and .i64 (a : Int) (b : Int) = ((a &&& b : Nat) : Int) := (Go.bits_nat .i64 62 (by decide) wraps_i64 a b ha hb).1
theorem or_nat (a b : Nat) (ha : a < 2 ^ 62) (hb : b < 2 ^ 62) : Go.bits .or .i64 (a : Int) (b : Int) = ((a ||| b : Nat) : Int) := (Go.bits_nat .i64 62 (by decide) wraps_i64 a b ha hb).2
theorem shr_nat (a n : Nat) (hn : n ≤ 64) : shr .i64 (a : Int) (n : Int) = ((a >>> n : Nat) : Int) := by
  unfold shr
  rw [Int.toNat_natCast, show min n IntKind.i64.bits = n from Nat.min_eq_left hn, Nat.shiftRight_eq_div_pow]
  simp
theorem shl_one_nat (n : Nat) (hn : n ≤ 16) : shl .i64 1 (n : Int) = ((2 ^ n : Nat) : Int) := by
  rw [shl_one (n : Int) ⟨by omega, by omega⟩, Int.toNat_natCast]; simp
theorem and_one_nat (a : Nat) (ha : a < 2 ^ 62) : Go.bits .and .i64 (a : Int) 1 = ((a % 2 : Nat) : Int) := by
  have := and_nat a 1 ha (by decide)
  rw [Nat.and_one_is_mod] at this
  exact this
theorem tmod_two (a : Nat) : Int.tmod (a : Int) 2 = ((a % 2 : Nat) : Int) := by
  rw [Int.tmod_eq_emod_of_nonneg (by omega)]; omega
theorem shr_lt (a i : Nat) (ha : a < 2 ^ 62) : a >>> i < 2 ^ 62 := by
  rw [Nat.shiftRight_eq_div_pow]
  exact Nat.lt_of_le_of_lt (Nat.div_le_self _ _) ha
theorem toIntS_ev (l : List Int) (hl : l.length ≤ 1152921504606) : Ev (fun k => laws_toIntS.f k l) l := by
  unfold laws_toIntS.f
  refine ev_pos (by omega) (ev_pos (by omega) ?_)
  rw [Int.toNat_natCast]
  have key : ∀ (d i : Nat), i + d = l.length → Ev (fun k => laws_toIntS.l0 k l (l.take i ++ List.replicate (l.length - i) 0) (i : Int)) l := by
    intro d
    induction d with
    | zero =>
      intro i hi
      refine ev_succ ?_
      simp only [laws_toIntS.l0]
      refine ev_neg (by omega) (ev_eqv (Ev.now _) ?_)
      rw [show i = l.length by omega]; simp
    | succ d ih =>
      intro i hi
      have h1 : i < l.length := by omega
      refine ev_succ ?_
      simp only [laws_toIntS.l0]
      refine ev_pos (by omega) (ev_pos (by omega) (ev_pos (by rw [List.length_append, List.length_take, List.length_replicate]; omega) ?_))
      rw [wrap_succ h1 (by omega), Int.toNat_natCast, rd_get h1]
      have e : (l.take i ++ List.replicate (l.length - i) 0).set i l[i] = l.take (i + 1) ++ List.replicate (l.length - (i + 1)) 0 := by
        rw [List.set_append_right _ _ (by rw [List.length_take]; omega), List.length_take, Nat.min_eq_left (by omega), Nat.sub_self, show l.length - i = (l.length - (i + 1)) + 1 by omega, List.replicate_succ, List.set_cons_zero, List.take_succ_eq_append_getElem h1, List.append_assoc]
        rfl
      rw [e]
      exact ih (i + 1) (by omega)
  exact key l.length 0 (by omega)
def maskN (m : Nat) : List Int → Nat
  | [] => m
  | x :: l => maskN (m ||| 2 ^ x.toNat) l
theorem maskOf_ev (l : List Int) (hl : l.length ≤ 1152921504606) (h : ∀ x ∈ l, 0 ≤ x ∧ x ≤ 15) : Ev (fun k => impl_maskOf.f k l) (maskN 0 l : Int) ∧ Ev (fun k => spec_voBits.f k l) (maskN 0 l : Int) := by
  unfold impl_maskOf.f spec_voBits.f
  have key : ∀ (d i m : Nat), i + d = l.length → m < 65536 → Ev (fun k => impl_maskOf.l0 k (m : Int) l (l.length : Int) (i : Int)) (maskN m (l.drop i) : Int) ∧ Ev (fun k => spec_voBits.l0 k (m : Int) l (l.length : Int) (i : Int)) (maskN m (l.drop i) : Int) := by
    intro d
    induction d with
    | zero =>
      intro i m hi hm
      refine ⟨ev_succ ?_, ev_succ ?_⟩
      all_goals
        simp only [impl_maskOf.l0, spec_voBits.l0]
        refine ev_neg (by omega) (ev_eqv (Ev.now _) ?_)
        rw [List.drop_of_length_le (by omega)]; rfl
    | succ d ih =>
      intro i m hi hm
      have h1 : i < l.length := by omega
      have hx := h l[i] (List.getElem_mem h1)
      obtain ⟨q, hq⟩ := Int.eq_ofNat_of_zero_le hx.1
      have hq16 : q ≤ 15 := by omega
      have hp : 2 ^ q < 65536 := Nat.pow_lt_pow_right (n := 16) (by decide) (by omega)
      have ih' := ih (i + 1) (m ||| 2 ^ q) (by omega) (Nat.or_lt_two_pow (n := 16) hm hp)
      rw [List.drop_eq_getElem_cons h1, maskN, hq, Int.toNat_natCast]
      refine ⟨ev_succ ?_, ev_succ ?_⟩
      all_goals
        simp only [impl_maskOf.l0, spec_voBits.l0]
        refine ev_pos (by omega) (ev_pos (by omega) (ev_pos (by omega) (ev_pos (by rw [rd_get h1]; omega) ?_)))
        rw [rd_get h1, hq, shl_one_nat q (by omega), or_nat m (2 ^ q) (by omega) (by omega), wrap_succ h1 (by omega)]
      · exact ih'.1
      · exact ih'.2
  exact key l.length 0 0 (by omega) (by decide)
def incFrom : Option Int → List Int → Bool
  | _, [] => true
  | p, x :: l => (match p with | none => true | some y => decide (y < x)) && incFrom (some x) l
def incB (l : List Int) : Bool := incFrom none l
def isSetB (l : List Int) (n : Int) : Bool := l.all (inB · 0 (n - 1)) && incB l
def prev (l : List Int) : Nat → Option Int
  | 0 => none
  | i + 1 => l[i]?
theorem isIncreasing_ev (l : List Int) (hl : l.length ≤ 1152921504606) : Ev (fun k => impl_isIncreasing.f k l) (incB l) := by
  unfold impl_isIncreasing.f
  have key : ∀ (d i : Nat), i + d = l.length → Ev (fun k => impl_isIncreasing.l0 k l (l.length : Int) (i : Int)) (incFrom (prev l i) (l.drop i)) := by
    intro d
    induction d with
    | zero =>
      intro i hi
      refine ev_succ ?_
      simp only [impl_isIncreasing.l0]
      refine ev_neg (by omega) (ev_eqv (Ev.now _) ?_)
      rw [List.drop_of_length_le (by omega)]; rfl
    | succ d ih =>
      intro i hi
      have h1 : i < l.length := by omega
      have ih' := ih (i + 1) (by omega)
      have hp : prev l (i + 1) = some l[i] := by rw [prev, List.getElem?_eq_getElem h1]
      rw [hp] at ih'
      refine ev_succ ?_
      simp only [impl_isIncreasing.l0]
      refine ev_pos (by omega) ?_
      rw [wrap_succ h1 (by omega), List.drop_eq_getElem_cons h1]
      cases i with
      | zero => exact ev_neg (by omega) (ev_eqv ih' (by simp [incFrom, prev]))
      | succ i =>
        have h2 : i < l.length := by omega
        rw [wrap_pred h2 (by omega), rd_get h1, rd_get h2]
        refine ev_pos (by omega) (ev_pos (by omega) (ev_pos (by omega) (ev_pos (by omega) (ev_pos (by omega) ?_))))
        have e : prev l (i + 1) = some l[i] := by rw [prev, List.getElem?_eq_getElem h2]
        rw [e, incFrom]
        by_cases c : l[i + 1] ≤ l[i]
        · exact ev_pos c (ev_eqv (Ev.now _) (by rw [decide_eq_false (by omega)]; rfl))
        · exact ev_neg c (ev_eqv ih' (by rw [decide_eq_true (by omega)]; rfl))
  exact key l.length 0 (by omega)
theorem l1Rising_ev (l : List Int) (lo hi : Int) (hl : l.length ≤ 1152921504606) : Ev (fun k => spec_l1Rising.f k l lo hi) (l.all (inB · lo hi) && incB l) := by
  unfold spec_l1Rising.f
  have key : ∀ (d i : Nat), i + d = l.length → Ev (fun k => spec_l1Rising.l0 k l lo hi l (l.length : Int) (i : Int)) ((l.drop i).all (inB · lo hi) && incFrom (prev l i) (l.drop i)) := by
    intro d
    induction d with
    | zero =>
      intro i hi
      refine ev_succ ?_
      simp only [spec_l1Rising.l0]
      refine ev_neg (by omega) (ev_eqv (Ev.now _) ?_)
      rw [List.drop_of_length_le (by omega)]; rfl
    | succ d ih =>
      intro i hi
      have h1 : i < l.length := by omega
      have ih' := ih (i + 1) (by omega)
      have hp : prev l (i + 1) = some l[i] := by rw [prev, List.getElem?_eq_getElem h1]
      rw [hp] at ih'
      refine ev_succ ?_
      simp only [spec_l1Rising.l0, l1In_eq, Option.bind_some]
      refine ev_pos (by omega) (ev_pos (by omega) (ev_pos (by omega) ?_))
      rw [wrap_succ h1 (by omega), List.drop_eq_getElem_cons h1, rd_get h1, List.all_cons]
      refine ev_bool (fun hb => ?_) (fun hb => ev_eqv (Ev.now _) (by rw [hb]; rfl))
      rw [hb]
      cases i with
      | zero => exact ev_neg (by omega) (ev_eqv ih' (by simp [incFrom, prev]))
      | succ i =>
        have h2 : i < l.length := by omega
        rw [wrap_pred h2 (by omega), rd_get h2]
        refine ev_pos (by omega) (ev_pos (by omega) (ev_pos (by omega) ?_))
        have e : prev l (i + 1) = some l[i] := by rw [prev, List.getElem?_eq_getElem h2]
        rw [e, incFrom]
        by_cases c : l[i] ≥ l[i + 1]
        · exact ev_pos c (ev_eqv (Ev.now _) (by rw [decide_eq_false (by omega)]; simp))
        · exact ev_neg c (ev_eqv ih' (by rw [decide_eq_true (by omega)]; rfl))
  exact key l.length 0 (by omega)
theorem any_not_all {α : Type} (l : List α) (p : α → Bool) : (!l.any fun x => !p x) = l.all p := by
  induction l with
  | nil => rfl
  | cons x l ih => rw [List.any_cons, List.all_cons, ← ih]; cases p x <;> simp
theorem areIn_eq (l : List Int) (lo hi : Int) : impl_areIn.f l lo hi = some (l.all (inB · lo hi)) := by
  unfold impl_areIn.f
  rw [anyO_some (q := fun x => !inB x lo hi) (fun x _ => by unfold impl_areIn_1.f; rw [within_eq]; rfl)]
  rw [Option.bind_some, any_not_all]
theorem isSet_ev (l : List Int) (n : Int) (hn : -1000000 ≤ n ∧ n ≤ 1000000) (hl : l.length ≤ 1152921504606) : Ev (fun k => impl_isSet.f k l n) (isSetB l n) := by
  unfold impl_isSet.f isSetB
  rw [wrap64_id (by omega)]
  simp only [areIn_eq, Option.bind_some]
  refine ev_bool (fun hb => ?_) (fun hb => ev_eqv (Ev.now _) (by rw [hb]; rfl))
  rw [hb]
  exact Ev.bind (isIncreasing_ev l hl) (Ev.now _)
theorem voSet_ev (l : List Int) (n : Int) (hn : -1000000 ≤ n ∧ n ≤ 1000000) (hl : l.length ≤ 1152921504606) : Ev (fun k => spec_voSet.f k n l) (isSetB l n) := by
  unfold spec_voSet.f isSetB
  rw [wrap64_id (by omega)]
  exact Ev.bind (l1Rising_ev l 0 (n - 1) hl) (Ev.now _)
theorem isSetB_mem {l : List Int} {n : Int} (h : isSetB l n = true) : ∀ x ∈ l, 0 ≤ x ∧ x ≤ n - 1 := by
  intro x hx
  unfold isSetB at h
  rw [Bool.and_eq_true, List.all_eq_true] at h
  exact inB_iff.1 (h.1 x hx)
def lexB : List Int → List Int → Bool
  | [], [] => false
  | [], _ :: _ => true
  | _ :: _, [] => false
  | x :: xs, y :: ys => if x = y then lexB xs ys else decide (x < y)
def cmpL : List Int → List Int → Int
  | [], [] => 0
  | [], _ :: _ => -1
  | _ :: _, [] => 1
  | x :: xs, y :: ys => if x = y then cmpL xs ys else if x < y then -1 else 1
theorem cmpL_ge : ∀ a b, decide (cmpL a b ≥ 0) = !lexB a b
  | [], [] => rfl
  | [], _ :: _ => rfl
  | _ :: _, [] => rfl
  | x :: xs, y :: ys => by
    unfold cmpL lexB
    by_cases h : x = y
    · rw [if_pos h, if_pos h]; exact cmpL_ge xs ys
    · rw [if_neg h, if_neg h]
      by_cases h2 : x < y
      · rw [if_pos h2, decide_eq_true h2]; rfl
      · rw [if_neg h2, decide_eq_false h2]; rfl
theorem lexB_drop_nil (a b : List Int) : lexB [] (b.drop a.length) = decide ((a.length : Int) < (b.length : Int)) := by
  by_cases h : a.length < b.length
  · rw [List.drop_eq_getElem_cons h, decide_eq_true (by omega)]; rfl
  · rw [List.drop_of_length_le (by omega), decide_eq_false (by omega)]; rfl
theorem lexB_cons_nil (a b : List Int) (i : Nat) (h : i < a.length) (h2 : ¬ i < b.length) : lexB (a.drop i) (b.drop i) = decide ((a.length : Int) < (b.length : Int)) := by
  have hb : b.drop i = [] := List.drop_of_length_le (by omega)
  rw [List.drop_eq_getElem_cons h, hb, decide_eq_false (by omega)]; rfl
theorem ev_range {R : Type} (n : Nat) (L : Nat → Nat → Option R) (v : Nat → R) (hend : Ev (fun k => L k n) (v n)) (hstep : ∀ i, i < n → Ev (fun k => L k (i + 1)) (v (i + 1)) → Ev (fun k => L k i) (v i)) :
    ∀ i, i ≤ n → Ev (fun k => L k i) (v i) := by
  have key : ∀ d i, i + d = n → Ev (fun k => L k i) (v i) := by
    intro d
    induction d with
    | zero => intro i hi; rw [show i = n by omega]; exact hend
    | succ d ih => intro i hi; exact hstep i (by omega) (ih (i + 1) (by omega))
  exact fun i hi => key (n - i) i (by omega)
theorem ev_rangeS {R σ : Type} (n : Nat) (L : Nat → Nat → σ → Option R) (v : Nat → σ → R) (I : Nat → σ → Prop) (hend : ∀ s, I n s → Ev (fun k => L k n s) (v n s))
    (hstep : ∀ i s, i < n → I i s → (∀ s', I (i + 1) s' → Ev (fun k => L k (i + 1) s') (v (i + 1) s')) → Ev (fun k => L k i s) (v i s)) :
    ∀ i s, i ≤ n → I i s → Ev (fun k => L k i s) (v i s) := by
  have key : ∀ d i s, i + d = n → I i s → Ev (fun k => L k i s) (v i s) := by
    intro d
    induction d with
    | zero =>
      intro i s hi h
      have e : i = n := by omega
      subst e
      exact hend s h
    | succ d ih => intro i s hi h; exact hstep i s (by omega) h (fun s' h' => ih (i + 1) s' (by omega) h')
  exact fun i s hi h => key (n - i) i s (by omega) h
theorem set_copy {α β : Type} (g : α → β) (z : β) (l : List α) (i : Nat) (h : i < l.length) :
    ((l.take i).map g ++ List.replicate (l.length - i) z).set i (g l[i]) = (l.take (i + 1)).map g ++ List.replicate (l.length - (i + 1)) z := by
  rw [List.set_append_right _ _ (by rw [List.length_map, List.length_take]; omega), List.length_map, List.length_take, Nat.min_eq_left (by omega), Nat.sub_self, show l.length - i = (l.length - (i + 1)) + 1 by omega, List.replicate_succ, List.set_cons_zero, List.take_succ_eq_append_getElem h, List.map_append, List.append_assoc]
  rfl
theorem copy_len {α β : Type} (g : α → β) (z : β) (l : List α) (i : Nat) (h : i ≤ l.length) : ((l.take i).map g ++ List.replicate (l.length - i) z).length = l.length := by
  rw [List.length_append, List.length_map, List.length_take, List.length_replicate]; omega
theorem getD_get {α : Type} {xs : List α} {z : α} {i : Nat} (h : i < xs.length) : xs.getD i z = xs[i] := by
  simp [List.getD_eq_getElem?_getD, List.getElem?_eq_getElem h]
theorem all_drop {α : Type} (p : α → Bool) (l : List α) (i : Nat) (h : i < l.length) : (l.drop i).all p = (p l[i] && (l.drop (i + 1)).all p) := by
  rw [List.drop_eq_getElem_cons h, List.all_cons]
theorem drop_end {α : Type} (l : List α) : l.drop l.length = [] := by simp
theorem eq_drop {α : Type} [DecidableEq α] (a b : List α) (i : Nat) (h1 : i < a.length) (h2 : i < b.length) : decide (a.drop i = b.drop i) = (decide (a[i] = b[i]) && decide (a.drop (i + 1) = b.drop (i + 1))) := by
  rw [List.drop_eq_getElem_cons h1, List.drop_eq_getElem_cons h2]
  by_cases e : a[i] = b[i]
  · by_cases e2 : a.drop (i + 1) = b.drop (i + 1)
    · rw [decide_eq_true e, decide_eq_true e2, decide_eq_true (by rw [e, e2])]; rfl
    · rw [decide_eq_false e2, decide_eq_false (fun h => e2 (List.cons.inj h).2)]; simp
  · rw [decide_eq_false e, decide_eq_false (fun h => e (List.cons.inj h).1)]; rfl
def tab {α : Type} (g : Nat → α) (n : Nat) : List α := (List.range n).map g
theorem tab_len {α : Type} (g : Nat → α) (n : Nat) : (tab g n).length = n := by simp [tab]
theorem tab_get {α : Type} (g : Nat → α) (n i : Nat) (h : i < (tab g n).length) : (tab g n)[i] = g i := by simp [tab]
theorem tab_succ {α : Type} (g : Nat → α) (n : Nat) : tab g (n + 1) = tab g n ++ [g n] := by simp [tab, List.range_succ]
theorem set_tab {α : Type} (g : Nat → α) (l : List α) (i : Nat) (h : i < l.length) : (tab g i ++ l.drop i).set i (g i) = tab g (i + 1) ++ l.drop (i + 1) := by
  rw [List.set_append_right _ _ (by rw [tab_len]; omega), tab_len, Nat.sub_self, List.drop_eq_getElem_cons h, List.set_cons_zero, tab_succ, List.append_assoc]; rfl
theorem tab_drop_len {α : Type} (g : Nat → α) (l : List α) (i : Nat) (h : i ≤ l.length) : (tab g i ++ l.drop i).length = l.length := by
  rw [List.length_append, tab_len, List.length_drop]; omega
theorem voBefore_ev (a b : List Int) (ha : a.length ≤ 1152921504606846976) : Ev (fun k => spec_voBefore.f k a b) (lexB a b) := by
  unfold spec_voBefore.f
  have := ev_range a.length (fun k i => spec_voBefore.l0 k a b (i : Int)) (fun i => lexB (a.drop i) (b.drop i)) ?_ ?_ 0 (Nat.zero_le _)
  · simpa using this
  · refine ev_succ ?_
    simp only [spec_voBefore.l0]
    refine ev_neg (by omega) (ev_succ ?_)
    simp only [spec_voBefore.j1]
    refine ev_neg (by simp) (ev_eqv (Ev.now _) ?_)
    rw [drop_end, lexB_drop_nil]
  · intro i hi ih
    refine ev_succ ?_
    simp only [spec_voBefore.l0]
    refine ev_pos (by omega) (ev_succ ?_)
    simp only [spec_voBefore.j1]
    by_cases h2 : i < b.length
    · refine ev_pos (by simp; omega) (ev_pos (by omega) (ev_pos (by omega) (ev_pos (by omega) ?_)))
      rw [rd_get hi, rd_get h2, wrap_succ hi ha]
      show Ev _ (lexB (a.drop i) (b.drop i))
      rw [List.drop_eq_getElem_cons hi, List.drop_eq_getElem_cons h2]
      unfold lexB
      by_cases e : a[i] = b[i]
      · rw [if_pos e]; exact ev_pos e ih
      · rw [if_neg e]; exact ev_neg e (Ev.now _)
    · refine ev_neg (by simp; omega) (ev_eqv (Ev.now _) ?_)
      rw [lexB_cons_nil a b i hi h2]
theorem cmpInt_eq (a b : Int) : cmp_Compare_int.f a b = some (if a < b then -1 else if a > b then 1 else 0) := by
  unfold cmp_Compare_int.f cmp_isNaN_int.f
  simp
  repeat' split
  all_goals rfl
theorem Compare_ev (a b : List Int) (ha : a.length ≤ 1152921504606846976) : Ev (fun k => slices_Compare_int_int.f k a b) (cmpL a b) := by
  unfold slices_Compare_int_int.f
  have := ev_range a.length (fun k i => slices_Compare_int_int.l0 k a b a (a.length : Int) (i : Int)) (fun i => cmpL (a.drop i) (b.drop i)) ?_ ?_ 0 (Nat.zero_le _)
  · simpa using this
  · refine ev_succ ?_
    simp only [slices_Compare_int_int.l0]
    refine ev_neg (by omega) ?_
    rw [drop_end]
    by_cases h : a.length < b.length
    · rw [List.drop_eq_getElem_cons h]; exact ev_pos (by omega) (Ev.now _)
    · rw [List.drop_of_length_le (by omega)]; exact ev_neg (by omega) (Ev.now _)
  · intro i hi ih
    refine ev_succ ?_
    simp only [slices_Compare_int_int.l0]
    refine ev_pos (by omega) (ev_pos (by omega) (ev_pos (by omega) ?_))
    by_cases h2 : i < b.length
    · refine ev_neg (by omega) (ev_pos (by omega) ?_)
      simp only [rd_get hi, rd_get h2, wrap_succ hi ha, cmpInt_eq, Option.bind_some]
      show Ev _ (cmpL (a.drop i) (b.drop i))
      rw [List.drop_eq_getElem_cons hi, List.drop_eq_getElem_cons h2]
      unfold cmpL
      by_cases e : a[i] = b[i]
      · rw [if_pos e, if_neg (by omega), if_neg (by omega)]; exact ev_pos rfl ih
      · rw [if_neg e]
        by_cases e2 : a[i] < b[i]
        · rw [if_pos e2, if_pos e2]; exact ev_neg (by decide) (Ev.now _)
        · rw [if_neg e2, if_neg e2, if_pos (by omega)]; exact ev_neg (by decide) (Ev.now _)
    · refine ev_pos (by omega) (ev_eqv (Ev.now _) ?_)
      show 1 = cmpL (a.drop i) (b.drop i)
      have hb : b.drop i = [] := List.drop_of_length_le (by omega)
      rw [List.drop_eq_getElem_cons hi, hb]; rfl
theorem rdL1_get {xs : List (List Int)} {i : Nat} (h : i < xs.length) : rd_L1 xs (i : Int) = xs[i] := by unfold rd_L1; rw [Int.toNat_natCast]; exact getD_get h
theorem ev_anyO {α : Type} (p : Nat → α → Option Bool) (q : α → Bool) : ∀ l : List α, (∀ x ∈ l, Ev (fun k => p k x) (q x)) → Ev (fun k => anyO (p k) l) (l.any q)
  | [], _ => Ev.now _
  | x :: xs, h => by
    simp only [anyO, List.any_cons]
    refine Ev.bind (h x (List.mem_cons_self ..)) (ev_bool (fun e => ?_) (fun e => ?_))
    · rw [e]; exact Ev.now _
    · rw [e]; exact ev_anyO p q xs (fun y hy => h y (List.mem_cons_of_mem _ hy))
def allR (P : Nat → Bool) (n i : Nat) : Bool := ((List.range n).drop i).all P
theorem allR_end (P : Nat → Bool) (n : Nat) : allR P n n = true := by
  unfold allR
  rw [List.drop_of_length_le (by simp)]; rfl
theorem allR_step (P : Nat → Bool) (n i : Nat) (h : i < n) : allR P n i = (P i && allR P n (i + 1)) := by
  unfold allR
  rw [all_drop P (List.range n) i (by simpa using h), List.getElem_range]
theorem allR_iff (P : Nat → Bool) (n : Nat) : allR P n 0 = true ↔ ∀ i, i < n → P i = true := by
  unfold allR
  rw [List.drop_zero, List.all_eq_true]
  exact ⟨fun h i hi => h i (List.mem_range.2 hi), fun h i hi => h i (List.mem_range.1 hi)⟩
def mk (l : List (List Int)) (i : Nat) : Nat := maskN 0 (l.getD i [])
def rises (l : List (List Int)) (i : Nat) : Bool := decide (i = 0) || lexB (l.getD (i - 1) []) (l.getD i [])
def apartS (l : List (List Int)) (i : Nat) : Bool := allR (fun h => !(mk l i &&& mk l h == mk l i) && !(mk l i &&& mk l h == mk l h)) i 0
def apartI (l : List (List Int)) (i : Nat) : Bool := allR (fun h => decide (h = i) || !(mk l i &&& mk l h == mk l h)) l.length 0
theorem maskN_lt2 (n : Nat) (l : List Int) : ∀ m, m < 2 ^ n → (∀ x ∈ l, 0 ≤ x ∧ x ≤ (n : Int) - 1) → maskN m l < 2 ^ n := by
  induction l with
  | nil => intro m hm _; exact hm
  | cons x l ih =>
    intro m hm h
    refine ih _ ?_ (fun y hy => h y (List.mem_cons_of_mem _ hy))
    have hx := h x (List.mem_cons_self ..)
    exact Nat.or_lt_two_pow hm (Nat.pow_lt_pow_right (by decide) (by omega))
def SetsOk (m : Int) (l : List (List Int)) : Prop := (1 ≤ m ∧ m ≤ 9) ∧ ∀ x ∈ l, isSetB x m = true ∧ x.length ≤ 1048576
theorem SetsOk.elem {m : Int} {l : List (List Int)} (h : SetsOk m l) {x : List Int} (hx : x ∈ l) : ∀ y ∈ x, 0 ≤ y ∧ y ≤ (9 : Nat) - 1 := fun y hy => by
  have := isSetB_mem (h.2 x hx).1 y hy
  have := h.1
  omega
theorem SetsOk.lt {m : Int} {l : List (List Int)} (h : SetsOk m l) {i : Nat} (hi : i < l.length) : mk l i < 512 := by
  unfold mk
  rw [getD_get hi]
  exact maskN_lt2 9 _ 0 (by decide) (h.elem (List.getElem_mem hi))
theorem SetsOk.masks {m : Int} {l : List (List Int)} (h : SetsOk m l) {i : Nat} (hi : i < l.length) : Ev (fun k => impl_maskOf.f k l[i]) (mk l i : Int) ∧ Ev (fun k => spec_voBits.f k l[i]) (mk l i : Int) := by
  have hx := List.getElem_mem hi
  have := maskOf_ev l[i] (Nat.le_trans (h.2 _ hx).2 (by decide)) (fun y hy => by have := h.elem hx y hy; omega)
  unfold mk
  rw [getD_get hi]
  exact this
theorem and_eq_nat {a b c : Nat} (ha : a < 512) (hb : b < 512) : (Go.bits .and .i64 (a : Int) (b : Int) = (c : Int)) ↔ ((a &&& b == c) = true) := by
  rw [and_nat a b (by omega) (by omega), beq_iff_eq]
  omega
theorem wrap_pred2 {i : Nat} (h : i < 1152921504606846976) (h0 : 0 < i) : wrap64 ((i : Int) - 1) = ((i - 1 : Nat) : Int) := by unfold wrap64; omega
def gmOk (m : Int) (l : List (List Int)) : Bool := inB m 1 9 && (decide (l ≠ []) && ((l.all fun s => decide (s ≠ []) && isSetB s m) && allR (fun i => rises l i && apartI l i) l.length 0))
theorem SetsOk.of {m : Int} {l : List (List Int)} (hm : inB m 1 9 = true) (hs : (l.all fun s => decide (s ≠ []) && isSetB s m) = true) (hb : ∀ x ∈ l, x.length ≤ 1048576) : SetsOk m l := by
  refine ⟨inB_iff.1 hm, fun x hx => ⟨?_, hb x hx⟩⟩
  have := List.all_eq_true.1 hs x hx
  rw [Bool.and_eq_true] at this
  exact this.2
theorem rdOf_get {xs : List Bool} {i : Nat} (h : i < xs.length) : rdOf false xs (i : Int) = xs[i] := by unfold rdOf; rw [Int.toNat_natCast]; exact getD_get h
def tabB (g : Nat → Bool) (n : Nat) : List Bool := (List.range n).map g
theorem tabB_len (g : Nat → Bool) (n : Nat) : (tabB g n).length = n := by simp [tabB]
theorem tabB_get (g : Nat → Bool) (n i : Nat) (h : i < (tabB g n).length) : (tabB g n)[i] = g i := by simp [tabB]
theorem tabB_succ (g : Nat → Bool) (n : Nat) : tabB g (n + 1) = tabB g n ++ [g n] := by simp [tabB, List.range_succ]
theorem tabB_set (g : Nat → Bool) (i : Nat) (b b' : Bool) (l : List Bool) : (tabB g i ++ b :: l).set i b' = tabB g i ++ b' :: l := by
  rw [List.set_append_right _ _ (by rw [tabB_len]; omega), tabB_len, Nat.sub_self]; rfl
theorem tabB_rd (g : Nat → Bool) (i : Nat) (b : Bool) (l : List Bool) : rdOf false (tabB g i ++ b :: l) (i : Int) = b := by
  rw [rdOf_get (by rw [List.length_append, tabB_len, List.length_cons]; omega), List.getElem_append_right (by rw [tabB_len]; omega)]
  simp [tabB_len]
theorem tabB_next (g : Nat → Bool) (i : Nat) (l : List Bool) : tabB g i ++ g i :: l = tabB g (i + 1) ++ l := by rw [tabB_succ, List.append_assoc]; rfl
def winB (l : List (List Int)) (i : Nat) : Bool := l.any fun s => i &&& maskN 0 s == maskN 0 s
def winT (m : Int) (l : List (List Int)) : List Bool := tabB (winB l) (2 ^ m.toNat)
theorem and_self_nat {a b : Nat} (ha : a < 512) (hb : b < 512) : (Go.bits .and .i64 (a : Int) (b : Int) == (b : Int)) = (a &&& b == b) := by
  rw [Bool.eq_iff_iff, ← and_eq_nat ha hb, beq_iff_eq]
theorem pow_le512 {m : Int} (h : 1 ≤ m ∧ m ≤ 9) : 2 ^ m.toNat ≤ 512 := Nat.pow_le_pow_right (n := 2) (by decide) (show m.toNat ≤ 9 by omega)
theorem voAll_nat {m : Int} (h : 1 ≤ m ∧ m ≤ 9) : spec_voAll.f m = some (((2 ^ m.toNat - 1 : Nat) : Int)) := by
  rw [voAll_eq m (by omega)]
  have : 1 ≤ 2 ^ m.toNat := Nat.one_le_two_pow
  congr 1
  rw [Int.ofNat_sub this]; simp
theorem gmWins_l1 (n i : Nat) (m : Int) (l : List (List Int)) (hl : l.length ≤ 1048576) (h : SetsOk m l) (hi : i < n) (hn : n ≤ 512) (r : List Bool) (ih : Ev (fun k => spec_gmWins.l0 k l (tabB (winB l) (i + 1) ++ List.replicate (n - (i + 1)) false) (n : Int) ((i + 1 : Nat) : Int)) r) :
    ∀ j, j ≤ l.length → Ev (fun k => spec_gmWins.l1 k l (tabB (winB l) i ++ ((l.take j).any fun s => i &&& maskN 0 s == maskN 0 s) :: List.replicate (n - (i + 1)) false) (i : Int) (n : Int) (i : Int) l (l.length : Int) (j : Int)) r := by
  have hlen : ∀ b : Bool, (tabB (winB l) i ++ b :: List.replicate (n - (i + 1)) false).length = n := fun b => by rw [List.length_append, tabB_len, List.length_cons, List.length_replicate]; omega
  refine ev_range l.length (fun k j => spec_gmWins.l1 k l (tabB (winB l) i ++ ((l.take j).any fun s => i &&& maskN 0 s == maskN 0 s) :: List.replicate (n - (i + 1)) false) (i : Int) (n : Int) (i : Int) l (l.length : Int) (j : Int)) (fun _ => r) ?_ ?_
  · refine ev_succ ?_
    simp only [spec_gmWins.l1]
    refine ev_neg (Int.lt_irrefl _) ?_
    rw [List.take_length, wrap_succ hi (Nat.le_trans hn (by decide))]
    have e : (l.any fun s => i &&& maskN 0 s == maskN 0 s) = winB l i := by unfold winB; rfl
    rw [e, tabB_next]
    exact ih
  · intro j hj ihj
    refine ev_succ ?_
    simp only [spec_gmWins.l1]
    refine ev_pos (by omega) (ev_pos (by omega) (ev_pos (by omega) ?_))
    rw [rdL1_get hj, wrap_succ hj (Nat.le_trans hl (by decide))]
    have hm := (h.masks hj).2
    have hk : mk l j = maskN 0 l[j] := by unfold mk; rw [getD_get hj]
    have hlt := h.lt hj
    rw [hk] at hm hlt
    refine Ev.bind hm (ev_pos (by omega) (ev_pos (by rw [hlen]; omega) ?_))
    rw [tabB_rd, Int.toNat_natCast, tabB_set, tabB_set, and_self_nat (by omega) hlt]
    rw [List.take_succ_eq_append_getElem hj, List.any_append] at ihj
    simp only [List.any_cons, List.any_nil, Bool.or_false] at ihj
    refine ev_bool (fun e => ?_) (fun e => ?_)
    · rw [e, Bool.true_or] at ihj; exact ihj
    · rw [e, Bool.false_or] at ihj; exact ihj
theorem gmWins_l0 (n : Nat) (m : Int) (l : List (List Int)) (hl : l.length ≤ 1048576) (h : SetsOk m l) (hn : n ≤ 512) :
    Ev (fun k => spec_gmWins.l0 k l (List.replicate n false) (n : Int) 0) (tabB (winB l) n) := by
  have := ev_range n (fun k i => spec_gmWins.l0 k l (tabB (winB l) i ++ List.replicate (n - i) false) (n : Int) (i : Int)) (fun _ => tabB (winB l) n) ?_ ?_ 0 (Nat.zero_le _)
  · simpa [tabB] using this
  · refine ev_succ ?_
    simp only [spec_gmWins.l0]
    exact ev_neg (Int.lt_irrefl _) (ev_eqv (Ev.now _) (by simp))
  · intro i hi ih
    refine ev_succ ?_
    simp only [spec_gmWins.l0]
    refine ev_pos (by omega) ?_
    have := gmWins_l1 n i m l hl h hi hn _ ih 0 (Nat.zero_le _)
    rw [show n - i = (n - (i + 1)) + 1 by omega, List.replicate_succ]
    simpa using this
theorem gmWins_ev (m : Int) (l : List (List Int)) (hl : l.length ≤ 1048576) (h : SetsOk m l) : Ev (fun k => spec_gmWins.f k m l) (winT m l) := by
  have hp := pow_le512 h.1
  have h1 : 1 ≤ 2 ^ m.toNat := Nat.one_le_two_pow
  have hw : wrap64 (((2 ^ m.toNat - 1 : Nat) : Int) + 1) = ((2 ^ m.toNat : Nat) : Int) := by
    generalize 2 ^ m.toNat = n at hp h1
    unfold wrap64; omega
  have hl0 := gmWins_l0 (2 ^ m.toNat) m l hl h hp
  unfold spec_gmWins.f winT
  refine ev_bindS (voAll_nat h.1) ?_
  generalize 2 ^ m.toNat = n at *
  rw [hw]
  have hn2 : (n : Int).toNat ≤ 281474976710656 := by rw [Int.toNat_natCast]; exact Nat.le_trans hp (by decide)
  refine ev_pos (Int.natCast_nonneg n) (ev_pos hn2 (ev_bindS rfl ?_))
  simp only [Int.toNat_natCast, List.length_replicate]
  exact hl0
theorem andNot_nat (a b : Nat) (ha : a < 2 ^ 62) (hb : b < 2 ^ 62) : Go.bits .andNot .i64 (a : Int) (b : Int) = ((a ^^^ (a &&& b) : Nat) : Int) := by
  have ha' : a % 2 ^ 64 = a := Nat.mod_eq_of_lt (by omega)
  have hb' : b % 2 ^ 64 = b := Nat.mod_eq_of_lt (by omega)
  have e : a &&& (2 ^ 64 - (b + 1)) = a ^^^ (a &&& b) := by
    refine Nat.eq_of_testBit_eq fun i => ?_
    rw [Nat.testBit_and, Nat.testBit_xor, Nat.testBit_and, Nat.testBit_two_pow_sub_succ (by omega)]
    by_cases hi : i < 64
    · cases a.testBit i <;> cases b.testBit i <;> simp [hi]
    · have : a.testBit i = false := Nat.testBit_lt_two_pow (Nat.lt_of_lt_of_le (show a < 2 ^ 64 by omega) (Nat.pow_le_pow_right (by decide) (by omega)))
      simp [this]
  have h : Go.bits .andNot .i64 (a : Int) (b : Int) = IntKind.i64.wrap ((a &&& (2 ^ 64 - 1 - b % 2 ^ 64) : Nat) : Int) := by
    show IntKind.i64.wrap ((BitVec.ofInt 64 (a : Int) &&& ~~~ (BitVec.ofInt 64 (b : Int))).toNat : Int) = _
    rw [BitVec.ofInt_natCast, BitVec.ofInt_natCast, BitVec.toNat_and, BitVec.toNat_not, BitVec.toNat_ofNat, BitVec.toNat_ofNat, ha']
  rw [h, hb', show 2 ^ 64 - 1 - b = 2 ^ 64 - (b + 1) by omega, e]
  have : a ^^^ (a &&& b) < 2 ^ 62 := Nat.xor_lt_two_pow ha (Nat.and_lt_two_pow _ hb)
  exact wraps_i64 _ (by omega) (by exact_mod_cast this)
def bitB (m i : Nat) : Bool := m >>> i % 2 == 1
theorem has_eq (m i : Nat) (hm : m < 65536) (hi : i ≤ 64) : impl_has.f (m : Int) (i : Int) = some (bitB m i) := by
  unfold impl_has.f bitB
  have h2 : m >>> i < 2 ^ 62 := shr_lt _ _ (by omega)
  rw [if_pos (by omega), shr_nat _ _ hi, and_one_nat _ h2]
  congr 1
  rw [Bool.eq_iff_iff, beq_iff_eq, beq_iff_eq]
  omega
theorem tmod_bit (m i : Nat) (hi : i ≤ 64) : Int.tmod (shr .i64 (m : Int) (i : Int)) 2 = 0 ↔ bitB m i = false := by
  rw [shr_nat _ _ hi, tmod_two]
  unfold bitB
  rw [beq_eq_false_iff_ne]
  omega
theorem fin512 {P : Nat → Nat → Prop} [∀ m i, Decidable (P m i)] (h : ((List.range 512).all fun m => (List.range 9).all fun i => decide (P m i)) = true) : ∀ m i, m < 512 → i < 9 → P m i := fun m i hm hi =>
  of_decide_eq_true (List.all_eq_true.1 (List.all_eq_true.1 h m (List.mem_range.2 hm)) i (List.mem_range.2 hi))
theorem or_bit : ∀ m i, m < 512 → i < 9 → m ||| 2 ^ i = if bitB m i = true then m else m + 2 ^ i := fin512 (by decide +kernel)
theorem all_andNot : ∀ m n, m < 512 → n < 10 → m < 2 ^ n → (2 ^ n - 1) ^^^ ((2 ^ n - 1) &&& m) = 2 ^ n - 1 - m := by
  have h : ((List.range 512).all fun m => (List.range 10).all fun n => decide (m < 2 ^ n → (2 ^ n - 1) ^^^ ((2 ^ n - 1) &&& m) = 2 ^ n - 1 - m)) = true := by decide +kernel
  exact fun m n hm hn => of_decide_eq_true (List.all_eq_true.1 (List.all_eq_true.1 h m (List.mem_range.2 hm)) n (List.mem_range.2 hn))
theorem rdOf_tab {g : Nat → Bool} {N i : Nat} (h : i < N) : rdOf false (tabB g N) (i : Int) = g i := by
  rw [rdOf_get (by rw [tabB_len]; exact h), tabB_get]
theorem pow_lt9 {i n : Nat} (h : i < n) (hn : n ≤ 9) : 2 ^ i < 2 ^ n ∧ 2 ^ n ≤ 512 :=
  ⟨Nat.pow_lt_pow_right (by decide) h, Nat.pow_le_pow_right (n := 2) (by decide) hn⟩
def cntB (g : Nat → Bool) (N i : Nat) : Int := (((List.range N).drop i).filter g).length
theorem cntB_end (g : Nat → Bool) (N : Nat) : cntB g N N = 0 := by
  unfold cntB
  rw [List.drop_of_length_le (by simp)]; rfl
theorem cntB_step (g : Nat → Bool) (N i : Nat) (h : i < N) : cntB g N i = (if g i = true then 1 else 0) + cntB g N (i + 1) := by
  unfold cntB
  rw [List.drop_eq_getElem_cons (by simpa using h), List.getElem_range, List.filter_cons]
  by_cases e : g i = true
  · rw [if_pos e, if_pos e, List.length_cons]; omega
  · rw [if_neg e, if_neg e]; omega
theorem countWins_ev (a : Int) (g : Nat → Bool) (N : Nat) (hN : N ≤ 512) : Ev (fun k => impl_votes_countWins.f k a (tabB g N)) (cntB g N 0) := by
  unfold impl_votes_countWins.f
  have := ev_rangeS N (fun k i s => impl_votes_countWins.l0 k s (tabB g N) (N : Int) (i : Int)) (fun i s => s + cntB g N i) (fun i s => 0 ≤ s ∧ s ≤ i) ?_ ?_ 0 (0 : Int) (Nat.zero_le _) ⟨Int.le_refl _, Int.le_refl _⟩
  · simpa [tabB_len] using this
  · intro s _
    refine ev_succ ?_
    simp only [impl_votes_countWins.l0]
    exact ev_neg (Int.lt_irrefl _) (ev_eqv (Ev.now _) (by rw [cntB_end]; omega))
  · intro i s hi hs ih
    refine ev_succ ?_
    simp only [impl_votes_countWins.l0]
    refine ev_pos (by omega) (ev_pos (by omega) (ev_pos (by rw [tabB_len]; omega) ?_))
    rw [rdOf_tab hi, wrap_succ hi (by omega), cntB_step g N i hi]
    refine ev_bool (fun e => ?_) (fun e => ?_)
    · rw [if_pos e, wrap64_id (by omega), ← Int.add_assoc]; exact ih _ (by omega)
    · rw [if_neg (by simp [e]), Int.zero_add]; exact ih _ (by omega)
theorem pzOne_eq (b : Bool) : spec_pzOne.f b = some (if b = true then 1 else 0) := by unfold spec_pzOne.f; cases b <;> rfl
theorem oneIf_eq (b : Bool) : impl_oneIf.f b = some (if b = true then 1 else 0) := by unfold impl_oneIf.f; cases b <;> rfl
theorem pzValue_l0 (g : Nat → Bool) (N : Nat) (hN : N ≤ 512) : Ev (fun k => spec_pzValue.l0 k 0 (tabB g N) (N : Int) 0) (cntB g N 0) := by
  have := ev_rangeS N (fun k i s => spec_pzValue.l0 k s (tabB g N) (N : Int) (i : Int)) (fun i s => s + cntB g N i) (fun i s => 0 ≤ s ∧ s ≤ i) ?_ ?_ 0 (0 : Int) (Nat.zero_le _) ⟨Int.le_refl _, Int.le_refl _⟩
  · simpa using this
  · intro s _
    refine ev_succ ?_
    simp only [spec_pzValue.l0]
    exact ev_neg (Int.lt_irrefl _) (ev_eqv (Ev.now _) (by rw [cntB_end]; omega))
  · intro i s hi hs ih
    refine ev_succ ?_
    simp only [spec_pzValue.l0]
    refine ev_pos (by omega) (ev_pos (by omega) (ev_pos (by rw [tabB_len]; omega) ?_))
    rw [rdOf_tab hi, wrap_succ hi (by omega), cntB_step g N i hi]
    simp only [pzOne_eq, Option.bind_some]
    by_cases e : g i = true
    · rw [if_pos e, wrap64_id (by omega), ← Int.add_assoc]; exact ih _ (by omega)
    · rw [if_neg e, Int.zero_add, Int.add_zero, wrap64_id (by omega)]; exact ih _ (by omega)
theorem all_eq (m : Int) (l : List Bool) (h : 1 ≤ m ∧ m ≤ 9) : impl_votes_all.f m l = some (((2 ^ m.toNat - 1 : Nat) : Int)) := by
  unfold impl_votes_all.f
  rw [if_pos (by omega), all_bits m (by omega)]
  have : 1 ≤ 2 ^ m.toNat := Nat.one_le_two_pow
  congr 1
  rw [Int.ofNat_sub this]; simp
theorem rest_mask (m : Int) (h : 1 ≤ m ∧ m ≤ 9) (i : Nat) (hi : i < 2 ^ m.toNat) : Go.bits .andNot .i64 ((2 ^ m.toNat - 1 : Nat) : Int) (i : Int) = ((2 ^ m.toNat - 1 - i : Nat) : Int) := by
  have hp := pow_le512 h
  rw [andNot_nat _ _ (by omega) (by omega), all_andNot i m.toNat (by omega) (by omega) hi]
def properB (g : Nat → Bool) (N : Nat) : Bool := allR (fun i => !(g i && g (N - 1 - i))) N 0
def strongB (g : Nat → Bool) (N : Nat) : Bool := allR (fun i => g i || g (N - 1 - i)) N 0
theorem isProper_ev (m : Int) (h : 1 ≤ m ∧ m ≤ 9) (g : Nat → Bool) : Ev (fun k => impl_votes_isProper.f k m (tabB g (2 ^ m.toNat))) (properB g (2 ^ m.toNat)) := by
  unfold impl_votes_isProper.f properB
  have hp := pow_le512 h
  have hr := rest_mask m h
  have ha := all_eq m (tabB g (2 ^ m.toNat)) h
  generalize 2 ^ m.toNat = N at *
  have := ev_range N (fun k i => impl_votes_isProper.l0 k (tabB g N) (N : Int) (i : Int) m (tabB g N)) (allR (fun i => !(g i && g (N - 1 - i))) N) ?_ ?_ 0 (Nat.zero_le _)
  · simpa [tabB_len] using this
  · refine ev_succ ?_
    simp only [impl_votes_isProper.l0]
    exact ev_neg (Int.lt_irrefl _) (ev_eqv (Ev.now _) (by rw [allR_end]))
  · intro i hi ih
    refine ev_succ ?_
    simp only [impl_votes_isProper.l0]
    refine ev_pos (by omega) (ev_pos (by omega) (ev_pos (by rw [tabB_len]; omega) ?_))
    rw [rdOf_tab hi, wrap_succ hi (by omega), allR_step _ _ _ hi]
    simp only [ha, Option.bind_some, hr i hi]
    rw [rdOf_tab (show N - 1 - i < N by omega)]
    refine ev_bool (fun e => ?_) (fun e => ?_)
    · rw [e]
      refine ev_pos (by omega) (ev_pos (by rw [tabB_len]; omega) (ev_bool (fun e2 => ?_) (fun e2 => ?_)))
      · rw [e2]; exact Ev.now _
      · rw [e2]; exact ih
    · rw [e]; exact ih
theorem isStrong_ev (m : Int) (h : 1 ≤ m ∧ m ≤ 9) (g : Nat → Bool) : Ev (fun k => impl_votes_isStrong.f k m (tabB g (2 ^ m.toNat))) (strongB g (2 ^ m.toNat)) := by
  unfold impl_votes_isStrong.f strongB
  have hp := pow_le512 h
  have hr := rest_mask m h
  have ha := all_eq m (tabB g (2 ^ m.toNat)) h
  generalize 2 ^ m.toNat = N at *
  have := ev_range N (fun k i => impl_votes_isStrong.l0 k (tabB g N) (N : Int) (i : Int) m (tabB g N)) (allR (fun i => g i || g (N - 1 - i)) N) ?_ ?_ 0 (Nat.zero_le _)
  · simpa [tabB_len] using this
  · refine ev_succ ?_
    simp only [impl_votes_isStrong.l0]
    exact ev_neg (Int.lt_irrefl _) (ev_eqv (Ev.now _) (by rw [allR_end]))
  · intro i hi ih
    refine ev_succ ?_
    simp only [impl_votes_isStrong.l0]
    refine ev_pos (by omega) (ev_pos (by omega) (ev_pos (by rw [tabB_len]; omega) ?_))
    rw [rdOf_tab hi, wrap_succ hi (by omega), allR_step _ _ _ hi]
    simp only [ha, Option.bind_some, hr i hi]
    rw [rdOf_tab (show N - 1 - i < N by omega)]
    refine ev_bool (fun e => ?_) (fun e => ?_)
    · rw [e]; exact ih
    · rw [e]
      refine ev_pos (by omega) (ev_pos (by rw [tabB_len]; omega) (ev_bool (fun e2 => ?_) (fun e2 => ?_)))
      · rw [e2]; exact ih
      · rw [e2]; exact Ev.now _
theorem ev_ite {α : Type} {c : Prop} [Decidable c] {f g : Nat → Option α} {r : α} (h1 : c → Ev f r) (h2 : ¬ c → Ev g r) : Ev (fun n => if c then f n else g n) r := by
  by_cases h : c
  · exact ev_pos h (h1 h)
  · exact ev_neg h (h2 h)
theorem pzValue_l1 (kind : Int) (hk : kind = 4 ∨ kind = 5) (g : Nat → Bool) (N : Nat) (hN : N ≤ 512) (h1 : 1 ≤ N) :
    Ev (fun k => spec_pzValue.l1 k kind (tabB g N) ((N - 1 : Nat) : Int) (N : Int) 0) (if (if kind = 4 then properB g N else strongB g N) = true then 1 else 0) := by
  unfold properB strongB
  have := ev_range N (fun k i => spec_pzValue.l1 k kind (tabB g N) ((N - 1 : Nat) : Int) (N : Int) (i : Int)) (fun i => if (if kind = 4 then allR (fun i => !(g i && g (N - 1 - i))) N i else allR (fun i => g i || g (N - 1 - i)) N i) = true then 1 else 0) ?_ ?_ 0 (Nat.zero_le _)
  · simpa using this
  · refine ev_succ ?_
    simp only [spec_pzValue.l1]
    exact ev_neg (Int.lt_irrefl _) (ev_eqv (Ev.now _) (by rw [allR_end, allR_end]; simp))
  · intro i hi ih
    refine ev_succ ?_
    simp only [spec_pzValue.l1]
    have hw : wrap64 (((N - 1 : Nat) : Int) - (i : Int)) = ((N - 1 - i : Nat) : Int) := by unfold wrap64; omega
    refine ev_pos (by omega) ?_
    rw [hw, rdOf_tab hi, rdOf_tab (show N - 1 - i < N by omega), wrap_succ hi (by omega), allR_step _ _ _ hi, allR_step _ _ _ hi, tabB_len]
    rcases hk with rfl | rfl
    · refine ev_pos rfl (ev_pos (by omega) (ev_pos (by omega) ?_))
      simp only [if_true] at ih ⊢
      refine ev_bool (fun e => ?_) (fun e => ?_)
      · rw [e]
        refine ev_pos (by omega) (ev_pos (by omega) (ev_bool (fun e2 => ?_) (fun e2 => ?_)))
        · rw [e2]; exact Ev.now _
        · rw [e2]; exact ev_neg (by decide) ih
      · rw [e]; exact ev_neg (by decide) ih
    · refine ev_neg (by decide) (ev_pos rfl (ev_pos (by omega) (ev_pos (by omega) ?_)))
      simp only [show ¬ ((5 : Int) = 4) by decide, if_false] at ih ⊢
      refine ev_bool (fun e => ?_) (fun e => ?_)
      · rw [e]; exact ih
      · rw [e]
        refine ev_pos (by omega) (ev_pos (by omega) (ev_bool (fun e2 => ?_) (fun e2 => ?_)))
        · rw [e2]; exact ih
        · rw [e2]; exact Ev.now _
def swB (g : Nat → Bool) (i m : Nat) : Bool := !bitB m i && (!g m && g (m + 2 ^ i))
theorem or_shl (m i : Nat) (hm : m < 512) (hi : i < 9) (hb : bitB m i = false) : Go.bits .or .i64 (m : Int) (shl .i64 1 (i : Int)) = ((m + 2 ^ i : Nat) : Int) := by
  have hp := (pow_lt9 (show i < 9 from hi) (Nat.le_refl _)).1
  rw [shl_one_nat i (by omega), or_nat m (2 ^ i) (by omega) (by omega), or_bit m i hm hi, if_neg (by simp [hb])]
theorem add_lt (m i n : Nat) (hn : n ≤ 9) (hm : m < 2 ^ n) (hi : i < n) (hb : bitB m i = false) : m + 2 ^ i < 2 ^ n := by
  have hp := (pow_lt9 hi hn).2
  have := Nat.or_lt_two_pow hm (pow_lt9 hi hn).1
  rw [or_bit m i (by omega) (by omega), if_neg (by simp [hb])] at this
  exact this
theorem isSwing_eq (a : Int) (g : Nat → Bool) (n m i : Nat) (hn : n ≤ 9) (hm : m < 2 ^ n) (hi : i < n) : impl_votes_isSwing.f a (tabB g (2 ^ n)) (m : Int) (i : Int) = some (swB g i m) := by
  have hp := (pow_lt9 hi hn).2
  unfold impl_votes_isSwing.f swB
  rw [has_eq m i (by omega) (by omega), Option.bind_some, rdOf_tab hm, tabB_len]
  cases hb : bitB m i
  · rw [if_neg (by decide), if_pos (by omega), if_pos (by omega)]
    cases hg : g m
    · rw [if_neg (by decide), if_pos (by omega), or_shl m i (by omega) (by omega) hb, if_pos (Int.natCast_nonneg _), if_pos (Int.ofNat_lt.2 (add_lt m i n hn hm hi hb)), rdOf_tab (add_lt m i n hn hm hi hb)]
      rfl
    · rw [if_pos rfl]; rfl
  · rw [if_pos rfl]; rfl
theorem set_same {α : Type} (l : List α) (i : Nat) (h : i < l.length) (x : α) (hx : l[i] = x) : l.set i x = l := by subst hx; exact List.set_getElem_self h
theorem swings_ev (m : Int) (h : 1 ≤ m ∧ m ≤ 9) (g : Nat → Bool) : Ev (fun k => impl_votes_swings.f k m (tabB g (2 ^ m.toNat))) (tab (fun i => cntB (swB g i) (2 ^ m.toNat) 0) m.toNat) := by
  obtain ⟨n, rfl⟩ := Int.eq_ofNat_of_zero_le (show 0 ≤ m by omega)
  have hn : n ≤ 9 := by omega
  have hp := pow_le512 h
  unfold impl_votes_swings.f
  rw [Int.toNat_natCast] at *
  have key : ∀ x : List Int, x.length = n → ∀ i, i < n → rd x (i : Int) = 0 → ∀ r, Ev (fun k => impl_votes_swings.l0 k (x.set i (cntB (swB g i) (2 ^ n) 0)) (n : Int) ((i + 1 : Nat) : Int) (n : Int) (tabB g (2 ^ n))) r →
      Ev (fun k => impl_votes_swings.l1 k x (i : Int) (n : Int) (i : Int) ((2 ^ n : Nat) : Int) 0 (n : Int) (tabB g (2 ^ n))) r := by
    intro x hx i hi h0 r hr
    have := ev_rangeS (2 ^ n) (fun k j (y : List Int) => impl_votes_swings.l1 k y (i : Int) (n : Int) (i : Int) ((2 ^ n : Nat) : Int) (j : Int) (n : Int) (tabB g (2 ^ n))) (fun _ _ => r)
      (fun j y => ∃ c : Int, 0 ≤ c ∧ c ≤ j ∧ y = x.set i c ∧ c + cntB (swB g i) (2 ^ n) j = cntB (swB g i) (2 ^ n) 0) ?_ ?_ 0 x (Nat.zero_le _) ⟨0, Int.le_refl _, Int.le_refl _, ?_, by omega⟩
    · simpa using this
    · rintro y ⟨c, _, _, rfl, hc⟩
      refine ev_succ ?_
      simp only [impl_votes_swings.l1]
      refine ev_neg (Int.lt_irrefl _) ?_
      rw [cntB_end, Int.add_zero] at hc
      rw [hc, wrap_succ hi (by omega)]
      exact hr
    · rintro j y hj ⟨c, hc0, hcj, rfl, hc⟩ ih
      refine ev_succ ?_
      simp only [impl_votes_swings.l1]
      refine ev_pos (by omega) (ev_bindS (isSwing_eq _ g n j i hn hj hi) ?_)
      rw [wrap_succ hj (by omega)]
      rw [cntB_step _ _ _ hj] at hc
      refine ev_bool (fun e => ?_) (fun e => ?_)
      · rw [if_pos e] at hc
        refine ev_pos (by omega) (ev_pos (by rw [List.length_set]; omega) (ih _ ⟨c + 1, by omega, by omega, ?_, by omega⟩))
        rw [rd_get (by rw [List.length_set]; omega), List.getElem_set_self, Int.toNat_natCast, List.set_set, wrap64_id (by omega)]
      · rw [if_neg (by simp [e])] at hc
        exact ih _ ⟨c, hc0, by omega, rfl, by omega⟩
    · exact (set_same x i (by omega) 0 (by rw [rd_get (by omega)] at h0; exact h0)).symm
  refine ev_pos (by omega) (ev_pos (by omega) (ev_bindS rfl ?_))
  have := ev_range n (fun k i => impl_votes_swings.l0 k (tab (fun i => cntB (swB g i) (2 ^ n) 0) i ++ List.replicate (n - i) 0) (n : Int) (i : Int) (n : Int) (tabB g (2 ^ n))) (fun _ => tab (fun i => cntB (swB g i) (2 ^ n) 0) n) ?_ ?_ 0 (Nat.zero_le _)
  · simpa [tab] using this
  · refine ev_succ ?_
    simp only [impl_votes_swings.l0]
    exact ev_neg (Int.lt_irrefl _) (ev_eqv (Ev.now _) (by simp))
  · intro i hi ih
    refine ev_succ ?_
    simp only [impl_votes_swings.l0, tabB_len]
    have hl : (tab (fun i => cntB (swB g i) (2 ^ n) 0) i ++ List.replicate (n - i) 0).length = n := by rw [List.length_append, tab_len, List.length_replicate]; omega
    refine ev_pos (by omega) (key _ hl i hi ?_ _ ?_)
    · rw [rd_get (by omega), List.getElem_append_right (by rw [tab_len]; omega)]; simp
    · rw [show n - i = (n - (i + 1)) + 1 by omega, List.replicate_succ, List.set_append_right _ _ (by rw [tab_len]; omega), tab_len, Nat.sub_self, List.set_cons_zero]
      rw [tab_succ, List.append_assoc] at ih
      exact ih
theorem pwSwings_ev (n i : Nat) (hn : n ≤ 9) (hi : i < n) (g : Nat → Bool) : Ev (fun k => spec_pwSwings.f k (tabB g (2 ^ n)) (i : Int)) (((List.range (2 ^ n)).filter (swB g i)).map fun (x : Nat) => (x : Int)) := by
  have hp := (pow_lt9 hi hn).2
  have hp1 := (pow_lt9 hi hn).1
  unfold spec_pwSwings.f
  have := ev_rangeS (2 ^ n) (fun k j (y : List Int) => spec_pwSwings.l0 k (tabB g (2 ^ n)) (i : Int) y (tabB g (2 ^ n)) ((2 ^ n : Nat) : Int) (j : Int)) (fun j y => y ++ (((List.range (2 ^ n)).drop j).filter (swB g i)).map fun (x : Nat) => (x : Int))
      (fun j y => y.length ≤ j) ?_ ?_ 0 ([] : List Int) (Nat.zero_le _) (Nat.le_refl _)
  · simpa [tabB_len] using this
  · intro y _
    refine ev_succ ?_
    simp only [spec_pwSwings.l0]
    exact ev_neg (Int.lt_irrefl _) (ev_eqv (Ev.now _) (by rw [List.drop_of_length_le (by simp)]; simp))
  · intro j y hj hy ih
    refine ev_succ ?_
    simp only [spec_pwSwings.l0, tabB_len]
    have hd : (List.range (2 ^ n)).drop j = j :: (List.range (2 ^ n)).drop (j + 1) := by rw [List.drop_eq_getElem_cons (by simpa using hj), List.getElem_range]
    rw [hd, List.filter_cons]
    refine ev_pos (by omega) (ev_pos (by omega) (ev_pos (by omega) (ev_pos (by omega) ?_)))
    rw [wrap_succ hj (by omega), rdOf_tab hj]
    refine ev_ite (fun hb => ?_) (fun hb => ?_)
    · rw [tmod_bit j i (by omega)] at hb
      refine ev_bool (fun e => ?_) (fun e => ?_)
      · rw [if_neg (by simp [swB, e])]; exact ih y (by omega)
      · have hw : wrap64 ((j : Int) + shl .i64 1 (i : Int)) = ((j + 2 ^ i : Nat) : Int) := by
          rw [shl_one_nat i (by omega)]
          generalize 2 ^ i = q at *
          unfold wrap64; omega
        have hl := add_lt j i n hn hj hi hb
        rw [hw, rdOf_tab hl]
        refine ev_pos (Int.natCast_nonneg _) (ev_pos (Int.ofNat_lt.2 hl) (ev_bool (fun e2 => ?_) (fun e2 => ?_)))
        · refine ev_pos (by omega) (ev_eqv (ih (y ++ [(j : Int)]) (by simp; omega)) ?_)
          rw [if_pos (by simp [swB, e, hb, e2]), List.map_cons, List.append_assoc]; rfl
        · rw [if_neg (by simp [swB, e2])]; exact ih y (by omega)
    · rw [tmod_bit j i (by omega), Bool.not_eq_false] at hb
      rw [if_neg (by simp [swB, hb])]; exact ih y (by omega)
theorem rest_lt (n M : Nat) : 2 ^ n - 1 - M < 2 ^ n := by
  have : 1 ≤ 2 ^ n := Nat.one_le_two_pow
  generalize 2 ^ n = N at *
  omega
def tellA (k a : Int) (g : Nat → Bool) (N : Nat) : Int :=
  if k = 1 then cntB g N 0 else if k = 4 then (if properB g N = true then 1 else 0) else if k = 5 then (if strongB g N = true then 1 else 0) else a
def tellB (k a : Int) (g : Nat → Bool) (N : Nat) : Int :=
  if k = 0 then (if g a.toNat = true then 1 else 0) else if k = 2 then (if g (N - 1 - 2 ^ a.toNat) = true then 0 else 1) else if k = 3 then cntB (swB g a.toNat) N 0 else 0
def AskOk (n : Nat) (k a : Int) : Prop := (k = 0 → 0 ≤ a ∧ a < ((2 ^ n : Nat) : Int)) ∧ (k = 2 → 0 ≤ a ∧ a < (n : Int)) ∧ (k = 3 → 0 ≤ a ∧ a < (n : Int))
theorem told_ev (n : Nat) (h : 1 ≤ n ∧ n ≤ 9) (g : Nat → Bool) (k a : Int) (hk : 0 ≤ k ∧ k ≤ 5) (ha : AskOk n k a) :
    Ev (fun r => impl_votes_told.f r (n : Int) (tabB g (2 ^ n)) k a) (k, if k = 0 ∨ k = 1 ∨ k = 2 ∨ k = 3 ∨ k = 4 ∨ k = 5 then tellA k a g (2 ^ n) else 0, tellB k a g (2 ^ n)) := by
  have hm : 1 ≤ (n : Int) ∧ (n : Int) ≤ 9 := by omega
  have e0 : (n : Int).toNat = n := Int.toNat_natCast n
  have hj : ∀ x y z : Int, Ev (fun r => impl_votes_told.j0 r x y z) (x, y, z) := fun x y z => by
    refine ev_succ ?_
    simp only [impl_votes_told.j0]
    exact Ev.now _
  have hp : 2 ^ n ≤ 512 := Nat.pow_le_pow_right (n := 2) (by decide) (show n ≤ 9 by omega)
  unfold impl_votes_told.f
  have hcase : k = 0 ∨ k = 1 ∨ k = 2 ∨ k = 3 ∨ k = 4 ∨ k = 5 := by omega
  rw [if_pos hcase]
  rcases hcase with rfl | rfl | rfl | rfl | rfl | rfl
  · obtain ⟨h0, h1⟩ := ha.1 rfl
    obtain ⟨x, rfl⟩ := Int.eq_ofNat_of_zero_le h0
    have hx : x < 2 ^ n := by exact_mod_cast h1
    refine ev_pos rfl (ev_pos h0 (ev_pos (by rw [tabB_len]; exact h1) ?_))
    rw [rdOf_tab hx]
    refine ev_bindS (oneIf_eq _) (ev_eqv (hj _ _ _) ?_)
    unfold tellA tellB
    simp
  · refine ev_neg (by decide) (ev_pos rfl (Ev.bind (countWins_ev _ g _ hp) (ev_eqv (hj _ _ _) ?_)))
    unfold tellA tellB
    simp
  · obtain ⟨h0, h1⟩ := ha.2.1 rfl
    obtain ⟨x, rfl⟩ := Int.eq_ofNat_of_zero_le h0
    have hx : x < n := by exact_mod_cast h1
    have hq := (pow_lt9 hx h.2).1
    have hr := rest_mask (n : Int) hm (2 ^ x) (by rw [e0]; exact hq)
    have hall := all_eq (n : Int) (tabB g (2 ^ n)) hm
    rw [e0] at hr hall
    refine ev_neg (by decide) (ev_neg (by decide) (ev_pos rfl (ev_bindS hall (ev_pos h0 ?_))))
    rw [shl_one_nat x (by omega), hr, tabB_len]
    refine ev_pos (Int.natCast_nonneg _) (ev_pos (Int.ofNat_lt.2 (rest_lt n _)) ?_)
    rw [rdOf_tab (rest_lt n (2 ^ x))]
    refine ev_bindS (oneIf_eq _) (ev_eqv (hj _ _ _) ?_)
    unfold tellA tellB
    simp
    by_cases hg : g (2 ^ n - 1 - 2 ^ x) = true <;> simp [hg]
  · obtain ⟨h0, h1⟩ := ha.2.2 rfl
    obtain ⟨x, rfl⟩ := Int.eq_ofNat_of_zero_le h0
    have hx : x < n := by exact_mod_cast h1
    have hs := swings_ev (n : Int) hm g
    rw [e0] at hs
    refine ev_neg (by decide) (ev_neg (by decide) (ev_neg (by decide) (ev_pos rfl (Ev.bind hs (ev_pos h0 (ev_pos (by rw [tab_len]; exact h1) (ev_eqv (hj _ _ _) ?_)))))))
    rw [rd_get (by rw [tab_len]; exact hx), tab_get]
    unfold tellA tellB
    simp
  · have hs := isProper_ev (n : Int) hm g
    rw [e0] at hs
    refine ev_neg (by decide) (ev_neg (by decide) (ev_neg (by decide) (ev_neg (by decide) (ev_pos rfl (Ev.bind hs (ev_bindS (oneIf_eq _) (ev_eqv (hj _ _ _) ?_)))))))
    unfold tellA tellB
    simp
  · have hs := isStrong_ev (n : Int) hm g
    rw [e0] at hs
    refine ev_neg (by decide) (ev_neg (by decide) (ev_neg (by decide) (ev_neg (by decide) (ev_neg (by decide) (ev_pos rfl (Ev.bind hs (ev_bindS (oneIf_eq _) (ev_eqv (hj _ _ _) ?_))))))))
    unfold tellA tellB
    simp
def tellV (k a : Int) (g : Nat → Bool) (N : Nat) : Int := if k = 1 ∨ 3 < k then tellA k a g N else tellB k a g N
theorem pzValue_ev (n : Nat) (h : 1 ≤ n ∧ n ≤ 9) (g : Nat → Bool) (k a : Int) (hk : 0 ≤ k ∧ k ≤ 5) (ha : AskOk n k a) : Ev (fun r => spec_pzValue.f r k a (tabB g (2 ^ n))) (tellV k a g (2 ^ n)) := by
  have hp : 2 ^ n ≤ 512 := Nat.pow_le_pow_right (n := 2) (by decide) (show n ≤ 9 by omega)
  have h1p : 1 ≤ 2 ^ n := Nat.one_le_two_pow
  unfold spec_pzValue.f
  rw [tabB_len]
  have hw : wrap64 (((2 ^ n : Nat) : Int) - 1) = ((2 ^ n - 1 : Nat) : Int) := by
    generalize 2 ^ n = N at *
    unfold wrap64; omega
  rw [hw]
  have hcase : k = 0 ∨ k = 1 ∨ k = 2 ∨ k = 3 ∨ (k = 4 ∨ k = 5) := by omega
  rcases hcase with rfl | rfl | rfl | rfl | hk45
  · obtain ⟨h0, h1⟩ := ha.1 rfl
    obtain ⟨x, rfl⟩ := Int.eq_ofNat_of_zero_le h0
    have hx : x < 2 ^ n := by exact_mod_cast h1
    refine ev_pos rfl (ev_pos h0 (ev_pos h1 ?_))
    rw [rdOf_tab hx]
    refine ev_bindS (pzOne_eq _) (ev_eqv (Ev.now _) ?_)
    simp [tellV, tellB]
  · exact ev_neg (by decide) (ev_pos rfl (ev_eqv (pzValue_l0 g _ hp) (by simp [tellV, tellA])))
  · obtain ⟨h0, h1⟩ := ha.2.1 rfl
    obtain ⟨x, rfl⟩ := Int.eq_ofNat_of_zero_le h0
    have hx : x < n := by exact_mod_cast h1
    have hq := (pow_lt9 hx h.2).1
    have hw2 : wrap64 (((2 ^ n - 1 : Nat) : Int) - shl .i64 1 (x : Int)) = ((2 ^ n - 1 - 2 ^ x : Nat) : Int) := by
      rw [shl_one_nat x (by omega)]
      generalize 2 ^ n = N at *
      generalize 2 ^ x = M at *
      unfold wrap64; omega
    refine ev_neg (by decide) (ev_neg (by decide) (ev_pos rfl (ev_pos h0 ?_)))
    rw [hw2]
    refine ev_pos (Int.natCast_nonneg _) (ev_pos (Int.ofNat_lt.2 (rest_lt n _)) ?_)
    rw [rdOf_tab (rest_lt n (2 ^ x))]
    refine ev_bindS (pzOne_eq _) (ev_eqv (Ev.now _) ?_)
    simp [tellV, tellB]
    by_cases hg : g (2 ^ n - 1 - 2 ^ x) = true <;> simp [hg]
  · obtain ⟨h0, h1⟩ := ha.2.2 rfl
    obtain ⟨x, rfl⟩ := Int.eq_ofNat_of_zero_le h0
    have hx : x < n := by exact_mod_cast h1
    refine ev_neg (by decide) (ev_neg (by decide) (ev_neg (by decide) (ev_pos rfl (Ev.bind (pwSwings_ev n x h.2 hx g) (ev_eqv (Ev.now _) ?_)))))
    simp [tellV, tellB, cntB]
  · refine ev_neg (by omega) (ev_neg (by omega) (ev_neg (by omega) (ev_neg (by omega) (ev_eqv (pzValue_l1 k hk45 g _ hp h1p) ?_))))
    rcases hk45 with rfl | rfl <;> simp [tellV, tellA]
def chains9 : List (List Nat) := [[0, 1, 3, 7, 15, 31, 63, 127, 255, 511], [2, 6, 14, 30, 62, 126, 254, 510], [4, 5, 13, 29, 61, 125, 253, 509], [8, 9, 11, 27, 59, 123, 251, 507], [16, 17, 19, 23, 55, 119, 247, 503], [32, 33, 35, 39, 47, 111, 239, 495], [64, 65, 67, 71, 79, 95, 223, 479], [128, 129, 131, 135, 143, 159, 191, 447], [256, 257, 259, 263, 271, 287, 319, 383], [10, 26, 58, 122, 250, 506], [12, 28, 60, 124, 252, 508], [18, 22, 54, 118, 246, 502], [20, 21, 53, 117, 245, 501], [24, 25, 57, 121, 249, 505], [34, 38, 46, 110, 238, 494], [36, 37, 45, 109, 237, 493], [40, 41, 43, 107, 235, 491], [48, 49, 51, 115, 243, 499], [66, 70, 78, 94, 222, 478], [68, 69, 77, 93, 221, 477], [72, 73, 75, 91, 219, 475], [80, 81, 83, 87, 215, 471], [96, 97, 99, 103, 231, 487], [130, 134, 142, 158, 190, 446], [132, 133, 141, 157, 189, 445], [136, 137, 139, 155, 187, 443], [144, 145, 147, 151, 183, 439], [160, 161, 163, 167, 175, 431], [192, 193, 195, 199, 207, 463], [258, 262, 270, 286, 318, 382], [260, 261, 269, 285, 317, 381], [264, 265, 267, 283, 315, 379], [272, 273, 275, 279, 311, 375], [288, 289, 291, 295, 303, 367], [320, 321, 323, 327, 335, 351], [384, 385, 387, 391, 399, 415], [42, 106, 234, 490], [44, 108, 236, 492], [50, 114, 242, 498], [52, 116, 244, 500], [56, 120, 248, 504], [74, 90, 218, 474], [76, 92, 220, 476], [82, 86, 214, 470], [84, 85, 213, 469], [88, 89, 217, 473], [98, 102, 230, 486], [100, 101, 229, 485], [104, 105, 233, 489], [112, 113, 241, 497], [138, 154, 186, 442], [140, 156, 188, 444], [146, 150, 182, 438], [148, 149, 181, 437], [152, 153, 185, 441], [162, 166, 174, 430], [164, 165, 173, 429], [168, 169, 171, 427], [176, 177, 179, 435], [194, 198, 206, 462], [196, 197, 205, 461], [200, 201, 203, 459], [208, 209, 211, 467], [224, 225, 227, 483], [266, 282, 314, 378], [268, 284, 316, 380], [274, 278, 310, 374], [276, 277, 309, 373], [280, 281, 313, 377], [290, 294, 302, 366], [292, 293, 301, 365], [296, 297, 299, 363], [304, 305, 307, 371], [322, 326, 334, 350], [324, 325, 333, 349], [328, 329, 331, 347], [336, 337, 339, 343], [352, 353, 355, 359], [386, 390, 398, 414], [388, 389, 397, 413], [392, 393, 395, 411], [400, 401, 403, 407], [416, 417, 419, 423], [448, 449, 451, 455], [170, 426], [172, 428], [178, 434], [180, 436], [184, 440], [202, 458], [204, 460], [210, 466], [212, 468], [216, 472], [226, 482], [228, 484], [232, 488], [240, 496], [298, 362], [300, 364], [306, 370], [308, 372], [312, 376], [330, 346], [332, 348], [338, 342], [340, 341], [344, 345], [354, 358], [356, 357], [360, 361], [368, 369], [394, 410], [396, 412], [402, 406], [404, 405], [408, 409], [418, 422], [420, 421], [424, 425], [432, 433], [450, 454], [452, 453], [456, 457], [464, 465], [480, 481]]
set_option maxRecDepth 100000 in
theorem chains9_len : chains9.length = 126 := by kernel_rfl
set_option maxRecDepth 100000 in
theorem chains9_all : ((List.range 512).all fun m => chains9.any fun c => c.contains m) = true := by kernel_rfl
set_option maxRecDepth 100000 in
theorem chains9_each : (chains9.all fun c => c.all fun a => c.all fun b => (a &&& b == a) || (a &&& b == b)) = true := by kernel_rfl
theorem pigeon : ∀ (n : Nat) (l : List Nat), l.Nodup → (∀ x ∈ l, x < n) → l.length ≤ n
  | 0, [], _, _ => Nat.le_refl _
  | 0, x :: l, _, h => absurd (h x (List.mem_cons_self ..)) (by omega)
  | n + 1, l, hd, h => by
    by_cases hm : n ∈ l
    · have := pigeon n (l.erase n) (hd.erase n) (fun x hx => by
        have h1 := h x (List.mem_of_mem_erase hx)
        have h2 : x ≠ n := fun e => (List.Nodup.not_mem_erase hd) (e ▸ hx)
        omega)
      rw [List.length_erase_of_mem hm] at this
      omega
    · exact Nat.le_trans (pigeon n l hd (fun x hx => by
        have h1 := h x hx
        have h2 : x ≠ n := fun e => hm (e ▸ hx)
        omega)) (Nat.le_succ n)
theorem antichain9 (l : List Nat) (h : ∀ x ∈ l, x < 512) (ha : l.Pairwise fun a b => a &&& b ≠ a ∧ a &&& b ≠ b) : l.length ≤ 126 := by
  have hf : ∀ m, m < 512 → ∃ c ∈ chains9, m ∈ c := fun m hm => by
    have := List.all_eq_true.1 chains9_all m (List.mem_range.2 hm)
    obtain ⟨c, hc, hmc⟩ := List.any_eq_true.1 this
    exact ⟨c, hc, by simpa using hmc⟩
  let f := fun m => chains9.findIdx fun c => c.contains m
  have hlt : ∀ m, m < 512 → f m < 126 := fun m hm => by
    obtain ⟨c, hc, hmc⟩ := hf m hm
    rw [← chains9_len]
    exact List.findIdx_lt_length_of_exists ⟨c, hc, by simpa using hmc⟩
  have heq : ∀ a b, a < 512 → b < 512 → f a = f b → a &&& b = a ∨ a &&& b = b := fun a b hA hB e => by
    have la : f a < chains9.length := by rw [chains9_len]; exact hlt a hA
    have lb : f b < chains9.length := by rw [chains9_len]; exact hlt b hB
    have h1 : (chains9[f a]).contains a = true := List.findIdx_getElem (w := la)
    have h2 : (chains9[f b]).contains b = true := List.findIdx_getElem (w := lb)
    have h3 : chains9[f b] = chains9[f a] := by simp only [e]
    rw [h3] at h2
    have := List.all_eq_true.1 (List.all_eq_true.1 (List.all_eq_true.1 chains9_each _ (List.getElem_mem la)) a (by simpa using h1)) b (by simpa using h2)
    simpa using this
  have hn : (l.map f).Nodup := by
    rw [List.Nodup, List.pairwise_map]
    refine ha.imp_of_mem fun {a b} hA hB hab e => ?_
    rcases heq a b (h a hA) (h b hB) e with h1 | h1
    · exact hab.1 h1
    · exact hab.2 h1
  have := pigeon 126 (l.map f) hn (fun x hx => by
    obtain ⟨m, hm, rfl⟩ := List.mem_map.1 hx
    exact hlt m (h m hm))
  rwa [List.length_map] at this
end Go.Proofs.Ytaacaifiiedoiaa.Q
end

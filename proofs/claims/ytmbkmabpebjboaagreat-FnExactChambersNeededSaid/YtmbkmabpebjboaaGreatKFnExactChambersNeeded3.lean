/- Part 3 of the proof of FnExactChambersNeeded: what it leans on (no condition). -/
import Derived.Test.YtmbkmabpebjboaaGreatKFnExactChambersNeeded2
import Derived.Shelf.SlSortCmp.NoneTotal
import Derived.Shelf.GgClosure.Gives
section
namespace Go.Proofs.YtmbkmabpebjboaaGreat.Q
open Go.RowKit Go.Proofs.YtmbkmabpebjboaaGreatW.PrintWords Go.Proofs.YtmbkmabpebjboaaGreatW.PrintLast Go.Proofs.YtmbkmabpebjboaaGreatW.PrintMore
attribute [local go_sem] max2_int min2_int max_two min_two max_three min_three max_four min_four
set_option linter.unusedVariables false
set_option linter.unusedSimpArgs false
def laws_toGame.f (k : Nat) (a0_0 : Int) (l0_1 : List (List Int)) : Option (Int × (List (List Int))) := (laws_toIntSS.f k l0_1).bind fun t236 => (some (a0_0, t236))
set_option maxHeartbeats 8000000 in
set_option maxRecDepth 100000 in
theorem laws_toGame.calls (k : Nat) (a0_0 : Int) (A0_1 : Option Addr) (c0_1 : Nat) (l0_1 : List (List Int)) (r1 : Int) (r2 : List (List Int)) (w : World) (hr0_1 : Kd.C (Kd.slice 3 (Kd.int .i64)) w A0_1 l0_1.length l0_1) (hc0_1 : l0_1.length ≤ c0_1) (h : laws_toGame.f k a0_0 l0_1 = some (r1, r2)) :
  Calls Tryz.prog 8 #[.agg #[.int .i64 a0_0, .slice A0_1 l0_1.length c0_1]] w fun e w' => ∃ v1_ : Value, e = .returned (.agg #[.int .i64 r1, v1_]) ∧ Kd.S (Kd.slice 3 (Kd.int .i64)) 65 w' w.heap.size (fun _ => True) v1_ r2 ∧ Below w.heap.size w w' := by
 have hu24 := Tryz.underlying24
 have hu28 := Tryz.underlying28
 have HR0_1 := Aside0.mk hr0_1
 have HC0_1 := Aside0.mk hc0_1
 clear hr0_1 hc0_1
 have HB := Aside0.mk (Below.refl w.heap.size w)
 have H : ((laws_toIntSS.f k l0_1).bind fun t236 => (some (a0_0, t236))) = some (r1, r2) := h
 clear h
 replace H := Option.bind_eq_some_iff.mp H
 obtain ⟨t236, A20, H⟩ := H
 replace H : (some (a0_0, t236)) = some (r1, r2) := H
 have A2 := Aside0.mk A20
 clear A20
 simp only [Option.some.injEq, Prod.mk.injEq] at H
 obtain ⟨rfl, rfl⟩ := H
 go_enter Tryz.func8, Tryz.ntmps8
 go_wp2_with (first | ((with_reducible refine gate_dst (N := 1) rfl ?_); refine zq 1 #[.int .i64 a0_0, .slice A0_1 l0_1.length c0_1] 24 ?_; intro gb233 hg w3 hbox hb; have n2_ := Aside0.mk ((by rw [hg]; exact (below_size (zh HB.out)) : w.heap.size ≤ gb233)); replace HB := Aside0.mk (below_step (zh HB.out) hb); have BK233 := Aside0.mk hbox; have GW233 := n2_; have GE233 := n2_; clear n2_ hb hbox hg) | ((with_reducible refine gate_dst (N := 2) rfl ?_); refine zq 2 #[.int .i64 0, .slice none 0 0] 28 ?_; intro gb234 hg w4 hbox hb; have n0_ := Aside0.mk (blk_below (g := gb233) (o := .cells #[.int .i64 a0_0, .slice A0_1 l0_1.length c0_1] 24 (0, 0)) (zb BK233.out) hb); have n1_ := Aside0.mk (below_step (zh HB.out) hb); have n2_ := Aside0.mk (hbox); have n3_ := Aside0.mk ((by rw [hg]; exact (below_size (zh HB.out)) : w.heap.size ≤ gb234)); have n4_ := Aside0.mk ((by rw [hg]; exact (below_size (zh HB.out)) : w.heap.size ≤ gb234)); have n5_ := Aside0.mk ((by rw [hg]; exact Nat.ne_of_lt (blk_lt (g := gb233) (o := .cells #[.int .i64 a0_0, .slice A0_1 l0_1.length c0_1] 24 (0, 0)) (zb BK233.out)) : gb233 ≠ gb234)); have n6_ := Aside0.mk ((by rw [hg]; exact Nat.ne_of_gt (blk_lt (g := gb233) (o := .cells #[.int .i64 a0_0, .slice A0_1 l0_1.length c0_1] 24 (0, 0)) (zb BK233.out)) : gb234 ≠ gb233)); clear BK233; clear HB; have BK233 := n0_; have HB := n1_; have BK234 := n2_; have GW234 := n3_; have GE234 := n4_; have NB233_234 := n5_; have NB234_233 := n6_; clear n0_ n1_ n2_ n3_ n4_ n5_ n6_; clear hb hbox hg) | ((with_reducible refine gate_dst (N := 3) rfl ?_); refine zq 3 #[.int .i64 0, .slice none 0 0] 28 ?_; intro gb235 hg w5 hbox hb; have n0_ := Aside0.mk (blk_below (g := gb233) (o := .cells #[.int .i64 a0_0, .slice A0_1 l0_1.length c0_1] 24 (0, 0)) (zb BK233.out) hb); have n1_ := Aside0.mk (blk_below (g := gb234) (o := .cells #[.int .i64 0, .slice none 0 0] 28 (0, 0)) (zb BK234.out) hb); have n2_ := Aside0.mk (below_step (zh HB.out) hb); have n3_ := Aside0.mk (hbox); have n4_ := Aside0.mk ((by rw [hg]; exact (below_size (zh HB.out)) : w.heap.size ≤ gb235)); have n5_ := Aside0.mk ((by rw [hg]; exact (below_size (zh HB.out)) : w.heap.size ≤ gb235)); have n6_ := Aside0.mk ((by rw [hg]; exact Nat.ne_of_lt (blk_lt (g := gb233) (o := .cells #[.int .i64 a0_0, .slice A0_1 l0_1.length c0_1] 24 (0, 0)) (zb BK233.out)) : gb233 ≠ gb235)); have n7_ := Aside0.mk ((by rw [hg]; exact Nat.ne_of_gt (blk_lt (g := gb233) (o := .cells #[.int .i64 a0_0, .slice A0_1 l0_1.length c0_1] 24 (0, 0)) (zb BK233.out)) : gb235 ≠ gb233)); have n8_ := Aside0.mk ((by rw [hg]; exact Nat.ne_of_lt (blk_lt (g := gb234) (o := .cells #[.int .i64 0, .slice none 0 0] 28 (0, 0)) (zb BK234.out)) : gb234 ≠ gb235)); have n9_ := Aside0.mk ((by rw [hg]; exact Nat.ne_of_gt (blk_lt (g := gb234) (o := .cells #[.int .i64 0, .slice none 0 0] 28 (0, 0)) (zb BK234.out)) : gb235 ≠ gb234)); clear BK233; clear BK234; clear HB; have BK233 := n0_; have BK234 := n1_; have HB := n2_; have BK235 := n3_; have GW235 := n4_; have GE235 := n5_; have NB233_235 := n6_; have NB235_233 := n7_; have NB234_235 := n8_; have NB235_234 := n9_; clear n0_ n1_ n2_ n3_ n4_ n5_ n6_ n7_ n8_ n9_; clear hb hbox hg; have hnb6 := NB233_234.out; have hnc6 := NB234_233.out; have hnb7 := NB233_235.out; have hnc7 := NB235_233.out; have hcz8_0 : w5.cell? ⟨gb233, 0, none⟩ = some (.int .i64 a0_0) := (blk_cell BK233.out 0).trans rfl; have hcz8_1 : w5.cell? ⟨gb233, 1, none⟩ = some (.slice A0_1 l0_1.length c0_1) := (blk_cell BK233.out 1).trans rfl; have hfz8_0 := blk_frozen BK233.out 0; have hfz8_1 := blk_frozen BK233.out 1; have hnb9 := NB235_234.out; have hnc9 := NB234_235.out; have hcz10_0 : w5.cell? ⟨gb235, 0, none⟩ = some (.int .i64 0) := (blk_cell BK235.out 0).trans rfl; have hcz10_1 : w5.cell? ⟨gb235, 1, none⟩ = some (.slice none 0 0) := (blk_cell BK235.out 1).trans rfl; have hfz10_0 := blk_frozen BK235.out 0; have hfz10_1 := blk_frozen BK235.out 1) | ((with_reducible refine gate_callee (f := 29) rfl ?_); refine zl 9 Tryz.func29 #[.slice A0_1 l0_1.length c0_1] ?_; (with_reducible refine (laws_toIntSS.calls k _ _ l0_1 t236 _ ?side1 ?side2 A2.out).mono ?_); (case side1 => exact Kd.C_below HR0_1.out (zh HB.out)); (case side2 => exact HC0_1.out); rintro e w11 ⟨v237, rfl, ho0, hb⟩; refine ⟨_, rfl, ?_⟩; have n0_ := Aside0.mk (Kd.S_lower ho0 (below_size (zh HB.out))); have n1_ := Aside0.mk (blk_below (g := gb233) (o := .cells #[.int .i64 a0_0, .slice A0_1 l0_1.length c0_1] 24 (0, 0)) (zf1 BK233.out NB233_235.out) hb); have n2_ := Aside0.mk (blk_below (g := gb234) (o := .cells #[.int .i64 0, .slice none 0 0] 28 (0, 0)) (zf1 BK234.out NB234_235.out) hb); have n3_ := Aside0.mk (blk_below (g := gb235) (o := .cells #[.int .i64 a0_0, .slice none 0 0] 28 (0, 0)) (by (with_reducible repeat (first | refine blk_drewN ?_ _ | refine blk_drew ?_ | refine blk_alloc ?_ _)); refine blk_put (cs := #[.int .i64 0, .slice none 0 0]) ?_ 0 _ rfl; (with_reducible repeat (first | refine blk_drewN ?_ _ | refine blk_drew ?_ | refine blk_alloc ?_ _)); exact BK235.out) hb); have n4_ := Aside0.mk (below_step (zh HB.out) hb); clear BK233; clear BK234; clear BK235; clear HB; have HO238 := n0_; have BK233 := n1_; have BK234 := n2_; have BK235 := n3_; have HB := n4_; clear n0_ n1_ n2_ n3_ n4_; (try clear hb); (try clear hb2); (try clear hk); (try clear hi); (try clear ho0); obtain ⟨Ao12, co12, eo12⟩ := Kd.S_slice HO238.out; subst eo12; have hcz13_0 : w11.cell? ⟨gb235, 0, none⟩ = some (.int .i64 a0_0) := (blk_cell BK235.out 0).trans rfl; have hcz13_1 : w11.cell? ⟨gb235, 1, none⟩ = some (.slice none 0 0) := (blk_cell BK235.out 1).trans rfl; have hfz13_0 := blk_frozen BK235.out 0; have hfz13_1 := blk_frozen BK235.out 1; have hcz14_0 : w11.cell? ⟨gb234, 0, none⟩ = some (.int .i64 0) := (blk_cell BK234.out 0).trans rfl; have hcz14_1 : w11.cell? ⟨gb234, 1, none⟩ = some (.slice none 0 0) := (blk_cell BK234.out 1).trans rfl; have hfz14_0 := blk_frozen BK234.out 0; have hfz14_1 := blk_frozen BK234.out 1))
 refine bodyPost_ret (results_cell_row rfl _ _ gb234 28 #[.int .i64 a0_0, .slice Ao12 t236.length co12] (0, 0) _ rfl (by (with_reducible repeat (first | refine blk_drewN ?_ _ | refine blk_drew ?_ | refine blk_alloc ?_ _)); refine blk_put (cs := #[.int .i64 a0_0, .slice none 0 0]) ?_ 1 _ rfl; (with_reducible repeat (first | refine blk_drewN ?_ _ | refine blk_drew ?_ | refine blk_alloc ?_ _)); refine blk_put (cs := #[.int .i64 0, .slice none 0 0]) ?_ 0 _ rfl; (with_reducible repeat (first | refine blk_drewN ?_ _ | refine blk_drew ?_ | refine blk_alloc ?_ _)); refine blk_far ?_ NB234_235.out _; (with_reducible repeat (first | refine blk_drewN ?_ _ | refine blk_drew ?_ | refine blk_alloc ?_ _)); exact BK234.out) Tryz.underlying28 rfl (by kernel_rfl)) rfl ?_
 exact ⟨_, by first | rfl | (simp [*, errW_none, errW_some] <;> rfl), by (with_reducible repeat (first | apply Kd.S_alloc | apply Kd.S_drewN | apply Kd.S_drew)); exact Kd.S_mono (Kd.S_far (p := ⟨gb234, 1, none⟩) (Kd.S_far (p := ⟨gb234, 0, none⟩) (Kd.S_far (p := ⟨gb235, 1, none⟩) (Kd.S_types (Kd.S_types HO238.out BK235.out (by decide)) BK234.out (by decide)) (fun _ hk => hk.1.2) (.slice Ao12 t236.length co12)) (fun _ hk => hk.2) (.int .i64 a0_0)) (fun _ hk => hk.2) (.slice Ao12 t236.length co12)) (fun _ hk => trivial), zh HB.out⟩
def impl_isIncreasing.l0 : Nat → List Int → Int → Int → Option (Bool)
 | 0, _, _, _ => none
 | k + 1, x0, x5, x6 => if x6 < x5 then (if x6 > 0 then (if 0 ≤ x6 then (if x6 < (x0.length : Int) then (if 0 ≤ (wrap64 (x6 - 1)) then (if (wrap64 (x6 - 1)) < (x0.length : Int) then (if (rd x0 x6) ≤ (rd x0 (wrap64 (x6 - 1))) then (some false) else (impl_isIncreasing.l0 k x0 x5 (wrap64 (x6 + 1)))) else (none)) else (none)) else (none)) else (none)) else (impl_isIncreasing.l0 k x0 x5 (wrap64 (x6 + 1)))) else (some true)
def impl_isIncreasing.f (k : Nat) (l0 : List Int) : Option (Bool) := impl_isIncreasing.l0 k l0 (l0.length : Int) 0
set_option maxHeartbeats 8000000 in
set_option maxRecDepth 100000 in
theorem impl_isIncreasing.calls (k : Nat) (A0 : Option Addr) (c0 : Nat) (l0 : List Int) (r : Bool) (w : World) (hr0 : Kd.C (Kd.int .i64) w A0 l0.length l0) (hc0 : l0.length ≤ c0) (h : impl_isIncreasing.f k l0 = some r) :
  Calls Tryz.prog 142 #[.slice A0 l0.length c0] w fun e w' => e = .returned (.bool r) ∧ Drawn0 w w' := by
 have HR0 := Aside0.mk hr0
 have HC0 := Aside0.mk hc0
 clear hr0 hc0
 have H : (impl_isIncreasing.l0 k l0 (l0.length : Int) 0) = some r := h
 clear h
 have H' := Aside0.mk H
 clear H
 go_enter Tryz.func142, Tryz.ntmps142
 go_wp2
 repeat (go_quiet (fail); try go_wp2)
 go_loopg [6] k (fun kq v6 w' => ∃ (x6_1 : Int), v6 = .int .i64 x6_1 ∧ Aside0 (impl_isIncreasing.l0 kq l0 (l0.length : Int) x6_1 = some r) ∧ Aside0 (kq ≤ k) ∧ Drawn0 w w')
 case atStart => exact ⟨(0), (by first | rfl | (simp; done) | (simp [*]; done)), H', ⟨Nat.le_refl _⟩, by repeat (first | exact Drawn0.refl _ | apply Drawn0.step)⟩
 case round =>
  clear H'
  try clear c1
  obtain ⟨x6_1, rfl, HA, HK1, ⟨m1, rfl⟩⟩ := hrel
  cases gk with
  | zero => exact absurd HA.out (by simp [impl_isIncreasing.l0])
  | succ k1 =>
   have H := HA.out
   clear HA
   simp only [impl_isIncreasing.l0] at H
   by_cases c2 : x6_1 < (l0.length : Int)
   rotate_left
   ·rw [if_neg c2] at H
    have c2b0 : decide (x6_1 < (l0.length : Int)) = false := decide_eq_false c2
    clear c2
    obtain rfl := Option.some.inj H
    go_wp2
    repeat (go_quiet (fail); try go_wp2)
    go_ret
    exact za1
   rw [if_pos c2] at H
   have c2b0 : decide (x6_1 < (l0.length : Int)) = true := decide_eq_true c2
   clear c2
   by_cases c3 : x6_1 > 0
   rotate_left
   ·rw [if_neg c3] at H
    have c3b0 : decide (0 < x6_1) = false := decide_eq_false c3
    clear c3
    have H' := Aside0.mk H
    clear H
    go_wp2
    repeat (go_quiet (fail); try go_wp2)
    go_roundg k1
    case measure => have := HK1.out; omega
    case rel => exact ⟨(wrap64 (x6_1 + 1)), (by first | rfl | (simp; done) | (simp [*]; done)), H', ⟨by have := HK1.out; omega⟩, by repeat (first | exact Drawn0.refl _ | apply Drawn0.step)⟩
   rw [if_pos c3] at H
   have c3b0 : decide (0 < x6_1) = true := decide_eq_true c3
   clear c3
   by_cases c4 : 0 ≤ x6_1
   rotate_left
   ·rw [if_neg c4] at H
    exact absurd H (by simp)
   rw [if_pos c4] at H
   have c4b0 : decide (0 ≤ x6_1) = true := decide_eq_true c4
   clear c4
   by_cases c5 : x6_1 < (l0.length : Int)
   rotate_left
   ·rw [if_neg c5] at H
    exact absurd H (by simp)
   rw [if_pos c5] at H
   have c5b0 : decide (x6_1 < (l0.length : Int)) = true := decide_eq_true c5
   clear c5
   obtain ⟨ji6, hji6⟩ : ∃ j_ : Int, (wrap64 (x6_1 - 1)) = j_ := ⟨_, rfl⟩
   replace H : (if 0 ≤ (ji6) then (if (ji6) < (l0.length : Int) then (if (rd l0 x6_1) ≤ (rd l0 (ji6)) then (some false) else (impl_isIncreasing.l0 k1 l0 (l0.length : Int) (wrap64 (x6_1 + 1)))) else (none)) else (none)) = some r := by first | (rw [hji6] at H; exact H) | (simp only [hji6] at H ⊢; exact H)
   have hji6w : (IntKind.i64.wrap (x6_1 - 1)) = ji6 := (i64_w _).trans hji6
   by_cases c7 : 0 ≤ (ji6)
   rotate_left
   ·rw [if_neg c7] at H
    exact absurd H (by simp)
   rw [if_pos c7] at H
   have c7b0 : decide (0 ≤ (ji6)) = true := decide_eq_true c7
   clear c7
   by_cases c8 : (ji6) < (l0.length : Int)
   rotate_left
   ·rw [if_neg c8] at H
    exact absurd H (by simp)
   rw [if_pos c8] at H
   have c8b0 : decide ((ji6) < (l0.length : Int)) = true := decide_eq_true c8
   clear c8
   by_cases c9 : (rd l0 x6_1) ≤ (rd l0 (ji6))
   ·rw [if_pos c9] at H
    have c9b0 : decide ((rd l0 x6_1) ≤ (rd l0 (ji6))) = true := decide_eq_true c9
    clear c9
    obtain rfl := Option.some.inj H
    have p239 : 0 ≤ (x6_1 : Int) := zk
    have q239 : x6_1 < (l0.length : Int) := zk
    obtain ⟨ad239, e239, hx239_0⟩ := Kd.at_int HR0.out x6_1 p239 q239
    cases e239
    replace p239 := eq_true p239
    replace q239 := eq_true q239
    have p240 : 0 ≤ ((ji6) : Int) := zk
    have q240 : (ji6) < (l0.length : Int) := zk
    obtain ⟨ad240, e240, hx240_0⟩ := Kd.at_int HR0.out (ji6) p240 q240
    obtain rfl : ad239 = ad240 := (by injection e240)
    replace p240 := eq_true p240
    replace q240 := eq_true q240
    go_wp2
    repeat (go_quiet (fail); try go_wp2)
    go_ret
    exact ⟨by first | rfl | (simp; done) | (simp only [← hji6] <;> (first | rfl | simp)) | (simp [*]; done), by repeat (first | exact Drawn0.refl _ | apply Drawn0.step)⟩
   rw [if_neg c9] at H
   have c9b0 : decide ((rd l0 x6_1) ≤ (rd l0 (ji6))) = false := decide_eq_false c9
   clear c9
   have H' := Aside0.mk H
   clear H
   have p239 : 0 ≤ (x6_1 : Int) := zk
   have q239 : x6_1 < (l0.length : Int) := zk
   obtain ⟨ad239, e239, hx239_0⟩ := Kd.at_int HR0.out x6_1 p239 q239
   cases e239
   replace p239 := eq_true p239
   replace q239 := eq_true q239
   have p240 : 0 ≤ ((ji6) : Int) := zk
   have q240 : (ji6) < (l0.length : Int) := zk
   obtain ⟨ad240, e240, hx240_0⟩ := Kd.at_int HR0.out (ji6) p240 q240
   obtain rfl : ad239 = ad240 := (by injection e240)
   replace p240 := eq_true p240
   replace q240 := eq_true q240
   go_wp2
   repeat (go_quiet (fail); try go_wp2)
   go_roundg k1
   case measure => have := HK1.out; omega
   case rel => exact ⟨(wrap64 (x6_1 + 1)), (by first | rfl | (simp; done) | (simp [*]; done)), H', ⟨by have := HK1.out; omega⟩, by repeat (first | exact Drawn0.refl _ | apply Drawn0.step)⟩
def impl_votes_table.l0 : Nat → Int → List Bool → Int → Int → Option (Int)
 | 0, _, _, _, _ => none
 | k + 1, x3, x7, x8, x9 => if x9 < x8 then (if 0 ≤ x9 then (if x9 < (x7.length : Int) then (if rdOf false x7 x9 = true then (impl_votes_table.l0 k (Go.bits .or .i64 x3 (shl .i64 1 x9)) x7 x8 (wrap64 (x9 + 1))) else (impl_votes_table.l0 k x3 x7 x8 (wrap64 (x9 + 1)))) else (none)) else (none)) else (some x3)
def impl_votes_table.f (k : Nat) (a0_0 : Int) (l0_1 : List Bool) : Option (Int) := impl_votes_table.l0 k 0 l0_1 (l0_1.length : Int) 0
set_option maxHeartbeats 8000000 in
set_option maxRecDepth 100000 in
theorem impl_votes_table.calls (k : Nat) (a0_0 : Int) (A0_1 : Option Addr) (c0_1 : Nat) (l0_1 : List Bool) (r : Int) (w : World) (hr0_1 : Kd.C Kd.bool w A0_1 l0_1.length l0_1) (hc0_1 : l0_1.length ≤ c0_1) (h : impl_votes_table.f k a0_0 l0_1 = some r) :
  Calls Tryz.prog 57 #[.agg #[.int .i64 a0_0, .slice A0_1 l0_1.length c0_1]] w fun e w' => e = .returned (.int .i64 r) ∧ Below w.heap.size w w' := by
 have hu61 := Tryz.underlying61
 have HR0_1 := Aside0.mk hr0_1
 have HC0_1 := Aside0.mk hc0_1
 clear hr0_1 hc0_1
 have HB := Aside0.mk (Below.refl w.heap.size w)
 have H : (impl_votes_table.l0 k 0 l0_1 (l0_1.length : Int) 0) = some r := h
 clear h
 have H' := Aside0.mk H
 clear H
 go_enter Tryz.func57, Tryz.ntmps57
 go_wp2_with (first | ((with_reducible refine gate_dst (N := 1) rfl ?_); refine zq 1 #[.int .i64 a0_0, .slice A0_1 l0_1.length c0_1] 61 ?_; intro gb287 hg w2 hbox hb; have n2_ := Aside0.mk ((by rw [hg]; exact (below_size (zh HB.out)) : w.heap.size ≤ gb287)); replace HB := Aside0.mk (below_step (zh HB.out) hb); have BK287 := Aside0.mk hbox; have GW287 := n2_; have GE287 := n2_; clear n2_ hb hbox hg; have hcz3_0 : w2.cell? ⟨gb287, 0, none⟩ = some (.int .i64 a0_0) := (blk_cell BK287.out 0).trans rfl; have hcz3_1 : w2.cell? ⟨gb287, 1, none⟩ = some (.slice A0_1 l0_1.length c0_1) := (blk_cell BK287.out 1).trans rfl; have hfz3_0 := blk_frozen BK287.out 0; have hfz3_1 := blk_frozen BK287.out 1))
 go_loopg [3, 9] k (fun kq v3 v9 w' => ∃ (x3_1 : Int) (x9_1 : Int), v3 = .int .i64 x3_1 ∧ v9 = .int .i64 x9_1 ∧ Aside0 (impl_votes_table.l0 kq x3_1 l0_1 (l0_1.length : Int) x9_1 = some r) ∧ Aside0 (kq ≤ k) ∧ Aside0 (w'.heap[gb287]? = some (.cells #[.int .i64 a0_0, (.slice A0_1 l0_1.length c0_1)] 61 (0, 0))) ∧ Aside0 (Below w.heap.size w w'))
 case atStart => exact ⟨(0), (0), (by first | rfl | (simp; done) | (simp [*]; done)), (by first | rfl | (simp; done) | (simp [*]; done)), H', ⟨Nat.le_refl _⟩, ⟨zb BK287.out⟩, ⟨zh HB.out⟩⟩
 case round =>
  clear H'
  try clear p2
  try clear hcz3_0
  try clear hcz3_1
  try clear hfz3_0
  try clear hfz3_1
  obtain ⟨x3_1, x9_1, rfl, rfl, HA, HK1, BK287, HB⟩ := hrel
  cases gk with
  | zero => exact absurd HA.out (by simp [impl_votes_table.l0])
  | succ k1 =>
   have H := HA.out
   clear HA
   simp only [impl_votes_table.l0] at H
   by_cases c4 : x9_1 < (l0_1.length : Int)
   rotate_left
   ·rw [if_neg c4] at H
    have c4b0 : decide (x9_1 < (l0_1.length : Int)) = false := decide_eq_false c4
    clear c4
    obtain rfl := Option.some.inj H
    go_wp2
    go_ret
    exact ⟨by first | rfl | (simp [*, errW_none, errW_some] <;> rfl), zh HB.out⟩
   rw [if_pos c4] at H
   have c4b0 : decide (x9_1 < (l0_1.length : Int)) = true := decide_eq_true c4
   clear c4
   by_cases c5 : 0 ≤ x9_1
   rotate_left
   ·rw [if_neg c5] at H
    exact absurd H (by simp)
   rw [if_pos c5] at H
   have c5b0 : decide (0 ≤ x9_1) = true := decide_eq_true c5
   clear c5
   by_cases c6 : x9_1 < (l0_1.length : Int)
   rotate_left
   ·rw [if_neg c6] at H
    exact absurd H (by simp)
   rw [if_pos c6] at H
   have c6b0 : decide (x9_1 < (l0_1.length : Int)) = true := decide_eq_true c6
   clear c6
   obtain ⟨bq7, hbq7⟩ : ∃ b_ : Bool, b_ = (rdOf false l0_1 x9_1) := ⟨_, rfl⟩
   replace H : (if bq7 = true then (impl_votes_table.l0 k1 (Go.bits .or .i64 x3_1 (shl .i64 1 x9_1)) l0_1 (l0_1.length : Int) (wrap64 (x9_1 + 1))) else (impl_votes_table.l0 k1 x3_1 l0_1 (l0_1.length : Int) (wrap64 (x9_1 + 1)))) = some r := by rw [← hbq7] at H; exact H
   have Nbq7 := Aside0.mk hbq7
   clear hbq7
   by_cases c8 : bq7 = true
   rotate_left
   ·replace c8 := Bool.eq_false_iff.mpr c8
    subst c8
    have H1 : (impl_votes_table.l0 k1 x3_1 l0_1 (l0_1.length : Int) (wrap64 (x9_1 + 1))) = some r := by rw [if_neg (show ¬ (false = true) by decide)] at H; exact H
    clear H
    have H := H1
    clear H1
    have H' := Aside0.mk H
    clear H
    have p288 : 0 ≤ (x9_1 : Int) := zk
    have q288 : x9_1 < (l0_1.length : Int) := zk
    obtain ⟨ad288, e288, hx288_0⟩ := Kd.at_bool HR0_1.out x9_1 p288 q288
    (try rw [← Nbq7.out] at hx288_0)
    cases e288
    replace hx288_0 := zx HB.out hx288_0
    replace p288 := eq_true p288
    replace q288 := eq_true q288
    go_wp2
    go_roundg k1
    case measure => have := HK1.out; omega
    case rel => exact ⟨(x3_1), (wrap64 (x9_1 + 1)), (by first | rfl | (simp; done) | (simp [*]; done)), (by first | rfl | (simp; done) | (simp [*]; done)), H', ⟨by have := HK1.out; omega⟩, ⟨zb BK287.out⟩, ⟨zh HB.out⟩⟩
   subst c8
   have H1 : (impl_votes_table.l0 k1 (Go.bits .or .i64 x3_1 (shl .i64 1 x9_1)) l0_1 (l0_1.length : Int) (wrap64 (x9_1 + 1))) = some r := by rw [if_pos rfl] at H; exact H
   clear H
   have H := H1
   clear H1
   have c9b0 := eq_true (zk : 0 ≤ x9_1)
   obtain ⟨ji10, hji10⟩ : ∃ j_ : Int, (shl .i64 1 x9_1) = j_ := ⟨_, rfl⟩
   replace H : (impl_votes_table.l0 k1 (Go.bits .or .i64 x3_1 (ji10)) l0_1 (l0_1.length : Int) (wrap64 (x9_1 + 1))) = some r := by first | (rw [hji10] at H; exact H) | (simp only [hji10] at H ⊢; exact H)
   have hji10_ : (IntKind.i64.wrap (1 * 2 ^ min x9_1.toNat 64)) = ji10 := hji10
   have hji10z : x9_1 ≤ 64 → (IntKind.i64.wrap (1 * 2 ^ x9_1.toNat)) = ji10 := shl_small hji10
   have hji10u : (IntKind.i64.wrap (2 ^ min x9_1.toNat 64)) = ji10 := by have h_ := hji10_; rw [Int.one_mul] at h_; exact h_
   have hji10v : x9_1 ≤ 64 → (IntKind.i64.wrap (2 ^ x9_1.toNat)) = ji10 := fun hle_ => by have h_ := hji10z hle_; rw [Int.one_mul] at h_; exact h_
   have hji10y : (wrap64 (1 * 2 ^ min x9_1.toNat 64)) = ji10 := (i64_w _).symm.trans hji10_
   have hji10x : x9_1 ≤ 64 → (wrap64 (1 * 2 ^ x9_1.toNat)) = ji10 := fun h_ => (i64_w _).symm.trans (hji10z h_)
   have H' := Aside0.mk H
   clear H
   have p288 : 0 ≤ (x9_1 : Int) := zk
   have q288 : x9_1 < (l0_1.length : Int) := zk
   obtain ⟨ad288, e288, hx288_0⟩ := Kd.at_bool HR0_1.out x9_1 p288 q288
   (try rw [← Nbq7.out] at hx288_0)
   cases e288
   replace hx288_0 := zx HB.out hx288_0
   replace p288 := eq_true p288
   replace q288 := eq_true q288
   go_wp2
   go_roundg k1
   case measure => have := HK1.out; omega
   case rel => exact ⟨(Go.bits .or .i64 x3_1 (ji10)), (wrap64 (x9_1 + 1)), (by first | rfl | (simp; done) | (simp only [← hji10] <;> (first | rfl | simp)) | (simp [*]; done)), (by first | rfl | (simp; done) | (simp [*]; done)), H', ⟨by have := HK1.out; omega⟩, ⟨zb BK287.out⟩, ⟨zh HB.out⟩⟩
def slices_Index_int_int.l0 : Nat → List Int → Int → Int → Int → Option (Int)
 | 0, _, _, _, _ => none
 | k + 1, x0, x1, x7, x8 => if x8 < x7 then (if 0 ≤ x8 then (if x8 < (x0.length : Int) then (if x1 = (rd x0 x8) then (some x8) else (slices_Index_int_int.l0 k x0 x1 x7 (wrap64 (x8 + 1)))) else (none)) else (none)) else (some (-1))
def slices_Index_int_int.f (k : Nat) (l0 : List Int) (a1 : Int) : Option (Int) := slices_Index_int_int.l0 k l0 a1 (l0.length : Int) 0
set_option maxHeartbeats 8000000 in
set_option maxRecDepth 100000 in
theorem slices_Index_int_int.calls (k : Nat) (A0 : Option Addr) (c0 : Nat) (l0 : List Int) (a1 : Int) (r : Int) (w : World) (hr0 : Kd.C (Kd.int .i64) w A0 l0.length l0) (hc0 : l0.length ≤ c0) (h : slices_Index_int_int.f k l0 a1 = some r) :
  Calls Tryz.prog 157 #[.slice A0 l0.length c0, .int .i64 a1] w fun e w' => e = .returned (.int .i64 r) ∧ Drawn0 w w' := by
 have HR0 := Aside0.mk hr0
 have HC0 := Aside0.mk hc0
 clear hr0 hc0
 have H : (slices_Index_int_int.l0 k l0 a1 (l0.length : Int) 0) = some r := h
 clear h
 have H' := Aside0.mk H
 clear H
 go_enter Tryz.func157, Tryz.ntmps157
 go_wp2
 go_loopg [8] k (fun kq v8 w' => ∃ (x8_1 : Int), v8 = .int .i64 x8_1 ∧ Aside0 (slices_Index_int_int.l0 kq l0 a1 (l0.length : Int) x8_1 = some r) ∧ Aside0 (kq ≤ k) ∧ Drawn0 w w')
 case atStart => exact ⟨(0), (by first | rfl | (simp; done) | (simp [*]; done)), H', ⟨Nat.le_refl _⟩, by repeat (first | exact Drawn0.refl _ | apply Drawn0.step)⟩
 case round =>
  clear H'
  try clear c1
  try clear p2
  obtain ⟨x8_1, rfl, HA, HK1, ⟨m1, rfl⟩⟩ := hrel
  cases gk with
  | zero => exact absurd HA.out (by simp [slices_Index_int_int.l0])
  | succ k1 =>
   have H := HA.out
   clear HA
   simp only [slices_Index_int_int.l0] at H
   by_cases c3 : x8_1 < (l0.length : Int)
   rotate_left
   ·rw [if_neg c3] at H
    have c3b0 : decide (x8_1 < (l0.length : Int)) = false := decide_eq_false c3
    clear c3
    obtain rfl := Option.some.inj H
    go_wp2
    go_ret
    exact za1
   rw [if_pos c3] at H
   have c3b0 : decide (x8_1 < (l0.length : Int)) = true := decide_eq_true c3
   clear c3
   by_cases c4 : 0 ≤ x8_1
   rotate_left
   ·rw [if_neg c4] at H
    exact absurd H (by simp)
   rw [if_pos c4] at H
   have c4b0 : decide (0 ≤ x8_1) = true := decide_eq_true c4
   clear c4
   by_cases c5 : x8_1 < (l0.length : Int)
   rotate_left
   ·rw [if_neg c5] at H
    exact absurd H (by simp)
   rw [if_pos c5] at H
   have c5b0 : decide (x8_1 < (l0.length : Int)) = true := decide_eq_true c5
   clear c5
   by_cases c6 : a1 = (rd l0 x8_1)
   ·rw [if_pos c6] at H
    have c6b0 : (a1 == (rd l0 x8_1)) = true := beq_iff_eq.mpr c6
    have c6b1 : (a1 != (rd l0 x8_1)) = false := bne_eq_false_iff_eq.mpr c6
    clear c6
    obtain rfl := Option.some.inj H
    have p367 : 0 ≤ (x8_1 : Int) := zk
    have q367 : x8_1 < (l0.length : Int) := zk
    obtain ⟨ad367, e367, hx367_0⟩ := Kd.at_int HR0.out x8_1 p367 q367
    cases e367
    replace p367 := eq_true p367
    replace q367 := eq_true q367
    go_wp2
    go_ret
    exact za1
   rw [if_neg c6] at H
   have c6b0 : (a1 == (rd l0 x8_1)) = false := beq_eq_false_iff_ne.mpr c6
   have c6b1 : (a1 != (rd l0 x8_1)) = true := bne_iff_ne.mpr c6
   have H' := Aside0.mk H
   clear H
   have p367 : 0 ≤ (x8_1 : Int) := zk
   have q367 : x8_1 < (l0.length : Int) := zk
   obtain ⟨ad367, e367, hx367_0⟩ := Kd.at_int HR0.out x8_1 p367 q367
   cases e367
   replace p367 := eq_true p367
   replace q367 := eq_true q367
   go_wp2
   go_roundg k1
   case measure => have := HK1.out; omega
   case rel => exact ⟨(wrap64 (x8_1 + 1)), (by first | rfl | (simp; done) | (simp [*]; done)), H', ⟨by have := HK1.out; omega⟩, by repeat (first | exact Drawn0.refl _ | apply Drawn0.step)⟩
def slices_Contains_int_int.f (k : Nat) (l0 : List Int) (a1 : Int) : Option (Bool) := (slices_Index_int_int.f k l0 a1).bind fun t368 => (some (decide (t368 ≥ 0)))
set_option maxHeartbeats 8000000 in
set_option maxRecDepth 100000 in
theorem slices_Contains_int_int.calls (k : Nat) (A0 : Option Addr) (c0 : Nat) (l0 : List Int) (a1 : Int) (r : Bool) (w : World) (hr0 : Kd.C (Kd.int .i64) w A0 l0.length l0) (hc0 : l0.length ≤ c0) (h : slices_Contains_int_int.f k l0 a1 = some r) :
  Calls Tryz.prog 133 #[.slice A0 l0.length c0, .int .i64 a1] w fun e w' => e = .returned (.bool r) ∧ Drawn0 w w' := by
 have HR0 := Aside0.mk hr0
 have HC0 := Aside0.mk hc0
 clear hr0 hc0
 have H : ((slices_Index_int_int.f k l0 a1).bind fun t368 => (some (decide (t368 ≥ 0)))) = some r := h
 clear h
 replace H := Option.bind_eq_some_iff.mp H
 obtain ⟨t368, A30, H⟩ := H
 replace H : (some (decide (t368 ≥ 0))) = some r := H
 have A3 := Aside0.mk A30
 clear A30
 obtain rfl := Option.some.inj H
 go_enter Tryz.func133, Tryz.ntmps133
 go_wp2_with (first | ((with_reducible refine gate_callee (f := 157) rfl ?_); refine zl 7 Tryz.func157 #[.slice A0 l0.length c0, .int .i64 a1] ?_; (with_reducible refine (slices_Index_int_int.calls k _ _ l0 a1 t368 _ ?side1 ?side2 A3.out).mono ?_); (case side1 => repeat (first | exact HR0.out | (with_reducible refine Kd.C_alloc ?_ _) | (with_reducible refine Kd.C_drewN ?_ _) | (with_reducible refine Kd.C_drew ?_))); (case side2 => exact HC0.out); rintro e w' ⟨rfl, ⟨nd, rfl⟩⟩; refine ⟨_, rfl, ?_⟩))
 go_ret
 exact za1
mutual
def impl_chosen.l0 : Nat → List Int → Int → Int → Int → Int → Option (List Int × Bool)
 | 0, _, _, _, _, _ => none
 | k + 1, x0, x2, x3, x4, x12 => if x12 < (x0.length : Int) then (if 0 ≤ x12 then ((impl_chosen.f k x0 (wrap64 (x12 + 1)) (wrap64 (x2 - 1)) (Go.bits .and .i64 x3 (rd x0 x12)) x4).bind fun bt429 => (if bt429.2 = true then ((some (([x12] : List Int) : List Int)).bind fun y433 => (if y433.length + bt429.1.length < 17592186044416 then (some ((y433 ++ bt429.1), true)) else (none))) else (impl_chosen.l0 k x0 x2 x3 x4 (wrap64 (x12 + 1))))) else (none)) else (some (([] : List Int), false))
def impl_chosen.f : Nat → List Int → Int → Int → Int → Int → Option (List Int × Bool)
 | 0, _, _, _, _, _ => none
 | k + 1, l0, a1, a2, a3, a4 => if a2 = 0 then (some (([] : List Int), (a3 == a4))) else (impl_chosen.l0 k l0 a2 a3 a4 a1)
end
set_option maxHeartbeats 8000000 in
set_option maxRecDepth 100000 in
theorem impl_chosen.calls (k : Nat) : ∀ (A0 : Option Addr) (c0 : Nat) (l0 : List Int) (a1 : Int) (a2 : Int) (a3 : Int) (a4 : Int) (r1 : List Int) (r2 : Bool) (w : World) (hr0 : Kd.C (Kd.int .i64) w A0 l0.length l0) (hc0 : l0.length ≤ c0) (h : impl_chosen.f k l0 a1 a2 a3 a4 = some (r1, r2)),
  Calls Tryz.prog 60 #[.slice A0 l0.length c0, .int .i64 a1, .int .i64 a2, .int .i64 a3, .int .i64 a4] w fun e w' => ∃ v0_ : Value, e = .returned (.tuple #[v0_, .bool r2]) ∧ Kd.R (Kd.int .i64) 3 w' w.heap.size (fun _ => True) v0_ r1 ∧ Below w.heap.size w w' := by
 induction k using Nat.strongRecOn with
 | _ k ih =>
 intro A0 c0 l0 a1 a2 a3 a4 r1 r2 w hr0 hc0 h
 cases k with
 | zero => exact absurd h (by simp [impl_chosen.f])
 | succ k =>
 simp only [impl_chosen.f] at h
 have HR0 := Aside0.mk hr0
 have HC0 := Aside0.mk hc0
 clear hr0 hc0
 have HB := Aside0.mk (Below.refl w.heap.size w)
 have H : (if a2 = 0 then (some (([] : List Int), (a3 == a4))) else (impl_chosen.l0 k l0 a2 a3 a4 a1)) = some (r1, r2) := h
 clear h
 by_cases c6 : a2 = 0
 ·rw [if_pos c6] at H
  have c6b0 : (a2 == 0) = true := beq_iff_eq.mpr c6
  have c6b1 : (a2 != 0) = false := bne_eq_false_iff_eq.mpr c6
  clear c6
  simp only [Option.some.injEq, Prod.mk.injEq] at H
  obtain ⟨rfl, rfl⟩ := H
  go_enter Tryz.func60, Tryz.ntmps60
  go_wp2
  go_ret2
  exact ⟨_, by first | rfl | (simp [*, errW_none, errW_some] <;> rfl), by first | exact Kd.R_nil _ _ _ _ _ | exact Kd.N_nil _ _ _ _ _ | exact Kd.V_nil _ _ _ _ _ | exact Kd.Q_nil _ _ _ _ _ | exact Kd.S_nil _ _ _ _ _, zh HB.out⟩
 rw [if_neg c6] at H
 have c6b0 : (a2 == 0) = false := beq_eq_false_iff_ne.mpr c6
 have c6b1 : (a2 != 0) = true := bne_iff_ne.mpr c6
 have H' := Aside0.mk H
 clear H
 go_enter Tryz.func60, Tryz.ntmps60
 go_wp2
 go_loopg [12] k (fun kq v12 w' => ∃ (x12_1 : Int), v12 = .int .i64 x12_1 ∧ Aside0 (impl_chosen.l0 kq l0 a2 a3 a4 x12_1 = some (r1, r2)) ∧ Aside0 (kq ≤ k) ∧ Aside0 (Below w.heap.size w w'))
 case atStart => exact ⟨(a1), (by first | rfl | (simp; done) | (simp [*]; done)), H', ⟨Nat.le_refl _⟩, ⟨zh HB.out⟩⟩
 case round =>
  clear H'
  try clear p2
  try clear c6
  try clear c6b0
  try clear c6b1
  obtain ⟨x12_1, rfl, HA, HK1, HB⟩ := hrel
  cases gk with
  | zero => exact absurd HA.out (by simp [impl_chosen.l0])
  | succ k1 =>
   have H := HA.out
   clear HA
   simp only [impl_chosen.l0] at H
   by_cases c7 : x12_1 < (l0.length : Int)
   rotate_left
   ·rw [if_neg c7] at H
    have c7b0 : decide (x12_1 < (l0.length : Int)) = false := decide_eq_false c7
    clear c7
    simp only [Option.some.injEq, Prod.mk.injEq] at H
    obtain ⟨rfl, rfl⟩ := H
    go_wp2
    go_ret2
    exact ⟨_, by first | rfl | (simp [*, errW_none, errW_some] <;> rfl), by first | exact Kd.R_nil _ _ _ _ _ | exact Kd.N_nil _ _ _ _ _ | exact Kd.V_nil _ _ _ _ _ | exact Kd.Q_nil _ _ _ _ _ | exact Kd.S_nil _ _ _ _ _, zh HB.out⟩
   rw [if_pos c7] at H
   have c7b0 : decide (x12_1 < (l0.length : Int)) = true := decide_eq_true c7
   clear c7
   by_cases c8 : 0 ≤ x12_1
   rotate_left
   ·rw [if_neg c8] at H
    exact absurd H (by simp)
   rw [if_pos c8] at H
   have c8b0 : decide (0 ≤ x12_1) = true := decide_eq_true c8
   clear c8
   replace H := Option.bind_eq_some_iff.mp H
   obtain ⟨⟨t429, t430⟩, A90, H⟩ := H
   replace H : (if t430 = true then ((some (([x12_1] : List Int) : List Int)).bind fun y433 => (if y433.length + t429.length < 17592186044416 then (some ((y433 ++ t429), true)) else (none))) else (impl_chosen.l0 k1 l0 a2 a3 a4 (wrap64 (x12_1 + 1)))) = some (r1, r2) := H
   have A9 := Aside0.mk A90
   clear A90
   by_cases c10 : t430 = true
   rotate_left
   ·replace c10 := Bool.eq_false_iff.mpr c10
    subst c10
    have H1 : (impl_chosen.l0 k1 l0 a2 a3 a4 (wrap64 (x12_1 + 1))) = some (r1, r2) := by rw [if_neg (show ¬ (false = true) by decide)] at H; exact H
    clear H
    have H := H1
    clear H1
    have H' := Aside0.mk H
    clear H
    have p428 : 0 ≤ (x12_1 : Int) := zk
    have q428 : x12_1 < (l0.length : Int) := zk
    obtain ⟨ad428, e428, hx428_0⟩ := Kd.at_int HR0.out x12_1 p428 q428
    cases e428
    replace hx428_0 := zx HB.out hx428_0
    replace p428 := eq_true p428
    replace q428 := eq_true q428
    go_wp2_with (first | ((with_reducible refine gate_callee (f := 60) rfl ?_); refine zl 40 Tryz.func60 #[.slice (some ad428) l0.length c0, .int .i64 (wrap64 (x12_1 + 1)), .int .i64 (wrap64 (a2 - 1)), .int .i64 (Go.bits .and .i64 a3 (rd l0 x12_1)), .int .i64 a4] ?_; (with_reducible refine (ih k1 (by have := HK1.out; omega) _ _ l0 (wrap64 (x12_1 + 1)) (wrap64 (a2 - 1)) (Go.bits .and .i64 a3 (rd l0 x12_1)) a4 t429 false _ ?side1 ?side2 A9.out).mono ?_); (case side1 => repeat (first | exact (Kd.C_below HR0.out HB.out) | (with_reducible refine Kd.C_alloc ?_ _) | (with_reducible refine Kd.C_drewN ?_ _) | (with_reducible refine Kd.C_drew ?_))); (case side2 => exact HC0.out); rintro e w17 ⟨v431, rfl, ho0, hb⟩; refine ⟨_, rfl, ?_⟩; have n0_ := Aside0.mk (Kd.R_lower ho0 (below_size (zh HB.out))); have n1_ := Aside0.mk (below_step (zh HB.out) hb); clear HB; have HO432 := n0_; have HB := n1_; clear n0_ n1_; (try clear hb); (try clear hb2); (try clear hk); (try clear hi); (try clear ho0)))
    go_roundg k1
    case measure => have := HK1.out; omega
    case rel => exact ⟨(wrap64 (x12_1 + 1)), (by first | rfl | (simp; done) | (simp [*]; done)), H', ⟨by have := HK1.out; omega⟩, ⟨zh HB.out⟩⟩
   subst c10
   have H1 : ((some (([x12_1] : List Int) : List Int)).bind fun y433 => (if y433.length + t429.length < 17592186044416 then (some ((y433 ++ t429), true)) else (none))) = some (r1, r2) := by rw [if_pos rfl] at H; exact H
   clear H
   have H := H1
   clear H1
   obtain ⟨y433, hy433⟩ : ∃ y_ : List Int, y_ = (([x12_1] : List Int)) := ⟨_, rfl⟩
   replace H : (if y433.length + t429.length < 17592186044416 then (some ((y433 ++ t429), true)) else (none)) = some (r1, r2) := by first | (rw [hy433]; with_reducible exact H) | (have H2_ := (Option.bind_some _ _).symm.trans H; rw [hy433]; with_reducible exact H2_) | (have H2_ := (Option.bind_some _ _).symm.trans H; with_reducible exact H2_) | with_reducible exact H | (rw [hy433]; exact H) | exact H
   have Ny433 := Aside0.mk hy433
   clear hy433
   by_cases c11 : y433.length + t429.length < 17592186044416
   rotate_left
   ·rw [if_neg c11] at H
    exact absurd H (by simp)
   rw [if_pos c11] at H
   have LMc11 := Aside0.mk c11
   clear c11
   obtain ⟨y436, hy436⟩ : ∃ y_ : List Int, y_ = (y433 ++ t429) := ⟨_, rfl⟩
   replace H : (some (y436, true)) = some (r1, r2) := by first | (rw [hy436]; with_reducible exact H) | (have H2_ := (Option.bind_some _ _).symm.trans H; rw [hy436]; with_reducible exact H2_) | (have H2_ := (Option.bind_some _ _).symm.trans H; with_reducible exact H2_) | with_reducible exact H | (rw [hy436]; exact H) | exact H
   have Ny436 := Aside0.mk hy436
   clear hy436
   simp only [Option.some.injEq, Prod.mk.injEq] at H
   obtain ⟨rfl, rfl⟩ := H
   have p428 : 0 ≤ (x12_1 : Int) := zk
   have q428 : x12_1 < (l0.length : Int) := zk
   obtain ⟨ad428, e428, hx428_0⟩ := Kd.at_int HR0.out x12_1 p428 q428
   cases e428
   replace hx428_0 := zx HB.out hx428_0
   replace p428 := eq_true p428
   replace q428 := eq_true q428
   go_wp2_with (first | ((with_reducible refine gate_callee (f := 60) rfl ?_); refine zl 40 Tryz.func60 #[.slice (some ad428) l0.length c0, .int .i64 (wrap64 (x12_1 + 1)), .int .i64 (wrap64 (a2 - 1)), .int .i64 (Go.bits .and .i64 a3 (rd l0 x12_1)), .int .i64 a4] ?_; (with_reducible refine (ih k1 (by have := HK1.out; omega) _ _ l0 (wrap64 (x12_1 + 1)) (wrap64 (a2 - 1)) (Go.bits .and .i64 a3 (rd l0 x12_1)) a4 t429 true _ ?side1 ?side2 A9.out).mono ?_); (case side1 => repeat (first | exact (Kd.C_below HR0.out HB.out) | (with_reducible refine Kd.C_alloc ?_ _) | (with_reducible refine Kd.C_drewN ?_ _) | (with_reducible refine Kd.C_drew ?_))); (case side2 => exact HC0.out); rintro e w12 ⟨v431, rfl, ho0, hb⟩; refine ⟨_, rfl, ?_⟩; have n0_ := Aside0.mk (Kd.R_lower ho0 (below_size (zh HB.out))); have n1_ := Aside0.mk (below_step (zh HB.out) hb); clear HB; have HO432 := n0_; have HB := n1_; clear n0_ n1_; (try clear hb); (try clear hb2); (try clear hk); (try clear hi); (try clear ho0)) | ((with_reducible refine gate_dst (N := 45) rfl ?_); refine Kd.R_lit (Kd.int .i64) _ 3 ?hg (N := 45) ?hd (xs := ([x12_1] : List Int)) (inner := [.int .i64 x12_1]) (ok := fun _ => True) (okp := fun _ => True) ?hr ?hp (fun _ hk => hk) trivial (Below.refl _ _) (Nat.le_refl _) (by simp) ?_; (case hd => rfl); (case hg => rfl); (case hr => first | (go_simp; done) | (go_simp; rfl)); (case hp => exact (Reps.one (show Kd.M (Kd.int .i64) _ _ _ x12_1 [.int .i64 x12_1] from rfl) (Reps.none _ _))); intro v434 w13 ho14 hb hg_ hnew_; clear hg_ hnew_; (first | rw [← Ny433.out] at ho14 | (simp only [Int.reduceToNat] at ho14; rw [← Ny433.out] at ho14)); have n0_ := Aside0.mk (Kd.R_elder' (zr HO432.out) (Kd.R_base ho14) hb); have n1_ := Aside0.mk (Kd.R_lower (Kd.R_new' ho14 (Kd.R_lt (zr HO432.out))) (below_size (zh HB.out))); have n2_ := Aside0.mk (below_step (zh HB.out) hb); clear HO432; clear HB; have HO432 := n0_; have HO435 := n1_; have HB := n2_; clear n0_ n1_ n2_; clear hb ho14; obtain ⟨Ao16, co16, eo16⟩ := Kd.R_slice HO432.out; subst eo16) | ((with_reducible refine gate_builtin (b := .append) (xs := #[.tmp 45, .tmp 46]) rfl ?_); at_builtin; refine Kd.R_append_rows (Kd.int .i64) (w0 := w) w.heap.size rfl (.tmp 45) (.tmp 46) 65 3 (.int .i64 0) 8 rfl Tryz.underlying65 info3 rfl (by decide) (by omega) v434 y433 t429 _ _ _ (fun k_ => some k_ ≠ (.slice Ao16 t429.length co16 : Value).ownBlock) (fun _ => False) rfl rfl ?aO ?aR (fun _ _ h => h) (fun _ h => h.elim) ?aF ?aB ?aS ?aL ?_; (case aR => repeat (first | exact (Kd.R_reads' HO432.out).2.2 | (with_reducible refine Kd.C_alloc ?_ _) | (with_reducible refine Kd.C_drewN ?_ _) | (with_reducible refine Kd.C_drew ?_))); (case aB => exact (zh HB.out)); (case aF => exact (fun k_ hk => Kd.fresh' (Kd.R_lt (zr HO432.out)) k_ hk)); (case aO => exact (zr (Kd.R_mono HO435.out (fun _ hk => hk.2)))); (case aS => exact (below_size (zh HB.out))); (case aL => have := LMc11.out; omega); intro v437 w15 ho hb hg hat; rw [← Ny436.out] at ho; have n0_ := Aside0.mk (Kd.R_after (ok := (fun _ => True)) (zr HO432.out) hg hat); have n1_ := Aside0.mk (hb); have n2_ := Aside0.mk (ho); clear HO432; clear HB; clear HO435; have HO432 := n0_; have HB := n1_; have HO438 := n2_; clear n0_ n1_ n2_; clear ho hb hg hat))
   go_ret2
   exact ⟨_, by first | rfl | (simp [*, errW_none, errW_some] <;> rfl), by (with_reducible repeat (first | apply Kd.R_alloc | apply Kd.R_drewN | apply Kd.R_drew)); exact Kd.R_mono HO438.out (fun _ hk => trivial), zh HB.out⟩
end Go.Proofs.YtmbkmabpebjboaaGreat.Q
end
section
namespace Go.Proofs.YtmbkmabpebjboaaGreat.Q
open Go.RowKit Go.Proofs.YtmbkmabpebjboaaGreatW.PrintWords Go.Proofs.YtmbkmabpebjboaaGreatW.PrintLast Go.Proofs.YtmbkmabpebjboaaGreatW.PrintMore
set_option linter.unusedVariables false
set_option linter.unusedSimpArgs false
section
variable {P : Program} {ops : Array Oper} {Q : Exit → Act → World → Prop}
theorem goesF_ {oi : Oper} {N : Option Tmp} {a : Act} {w : World} {K : Act → World → Prop} {g : Nat} {fa lb : Array Value} {c : Operand} {os : Array Operand} {ts : Array TypeId} (eg : ∀ args w, (callFunc g args).run P w = .ok (.enter g args) w) (hc : a.eval c = .func (.func g) fa lb) (args : Array Value)
    (hw : Region.wanted oi (yielded ops a.tmps) = true) (hN : oi.dst = N) (hop : oi.op = .call { callee := .value c, args := os, argTypes := ts }) (hargs : os.map a.eval = args)
    (h : Calls P g (fa ++ args ++ lb) w fun e w' => ∃ v, e = .returned v ∧ K (a.put N v) w') : if Region.wanted oi (yielded ops a.tmps) = true then Oper.wp P oi a w K Q else K (a.put N undef) w := by
  refine call_ g (fa ++ args ++ lb) hw hN ?_ h
  have he := eg (fa ++ args ++ lb) w
  have he2 := he
  rw [Array.append_assoc] at he2
  unfold execOp
  simp [hop, resolve, Deferred.ofValue, invoke, hc, hargs, he, he2]
theorem goesLF_ {rest : List Oper} {oi : Oper} {a : Act} {w : World} (N : Option Tmp) (hd : oi.dst = N) (hg : oi.guard = none) {g : Nat} {fa lb : Array Value} {c : Operand} {os : Array Operand} {ts : Array TypeId} (eg : ∀ args w, (callFunc g args).run P w = .ok (.enter g args) w) (hc : a.eval c = .func (.func g) fa lb) (args : Array Value)
    (hop : oi.op = .call { callee := .value c, args := os, argTypes := ts }) (hargs : os.map a.eval = args)
    (h : Calls P g (fa ++ args ++ lb) w fun e w' => ∃ v, e = .returned v ∧ wpList P ops Q rest (a.put N v) w') : wpList P ops Q (oi :: rest) a w := by
  refine wpList_plain hg fun K hK => ?_
  have he := eg (fa ++ args ++ lb) w
  have he2 := he
  rw [Array.append_assoc] at he2
  have hrun : (execOp a.eval oi).run P w = .ok (.enter g (fa ++ args ++ lb)) w := by
    unfold execOp
    simp [hop, resolve, Deferred.ofValue, invoke, hc, hargs, he, he2]
  unfold Oper.wp
  rw [hrun, Oper.upon_enter]
  refine h.mono fun e w'' hh => ?_
  obtain ⟨v, rfl, hk⟩ := hh
  subst hd
  exact hK _ _ hk
end
@[reducible] def PredI (P : Program) (g : Nat) (fa lb : Array Value) (w : World) (p : Int → Option Bool) : Prop :=
  ∀ (W : World) (x : Int) (b : Bool), Below w.heap.size w W → p x = some b → Calls P g (fa ++ #[.int .i64 x] ++ lb) W fun e w' => e = .returned (.bool b) ∧ Below W.heap.size W w'
@[reducible] def PredI4 (P : Program) (g : Nat) (fa lb : Array Value) (w : World) (p : Int → Int → Int → Int → Option Bool) : Prop :=
  ∀ (W : World) (x y z u : Int) (b : Bool), Below w.heap.size w W → p x y z u = some b → Calls P g (fa ++ #[.int .i64 x, .int .i64 y, .int .i64 z, .int .i64 u] ++ lb) W fun e w' => e = .returned (.bool b) ∧ Below W.heap.size W w'
end Go.Proofs.YtmbkmabpebjboaaGreat.Q
end
section
namespace Go.Proofs.YtmbkmabpebjboaaGreat.Q
open Go.RowKit Go.Proofs.YtmbkmabpebjboaaGreatW.PrintWords Go.Proofs.YtmbkmabpebjboaaGreatW.PrintLast Go.Proofs.YtmbkmabpebjboaaGreatW.PrintMore
attribute [local go_sem] max2_int min2_int max_two min_two max_three min_three max_four min_four
set_option linter.unusedVariables false
set_option linter.unusedSimpArgs false
def cmp_Compare_int.f (a0 : Int) (a1 : Int) : Option (Int) := (cmp_isNaN_int.f a0).bind fun t243 => ((cmp_isNaN_int.f a1).bind fun t244 => (if t243 = true then (if t244 = true then (some 0) else (some (-1))) else (if t244 = true then (some 1) else (if a0 < a1 then (some (-1)) else (if a0 > a1 then (some 1) else (some 0))))))
set_option maxHeartbeats 8000000 in
set_option maxRecDepth 100000 in
theorem cmp_Compare_int.calls (a0 : Int) (a1 : Int) (r : Int) (w : World) (h : cmp_Compare_int.f a0 a1 = some r) :
  Calls Tryz.prog 126 #[.int .i64 a0, .int .i64 a1] w fun e w' => e = .returned (.int .i64 r) ∧ Drawn0 w w' := by
 have H : ((cmp_isNaN_int.f a0).bind fun t243 => ((cmp_isNaN_int.f a1).bind fun t244 => (if t243 = true then (if t244 = true then (some 0) else (some (-1))) else (if t244 = true then (some 1) else (if a0 < a1 then (some (-1)) else (if a0 > a1 then (some 1) else (some 0))))))) = some r := h
 clear h
 replace H := Option.bind_eq_some_iff.mp H
 obtain ⟨t243, A30, H⟩ := H
 replace H : ((cmp_isNaN_int.f a1).bind fun t244 => (if t243 = true then (if t244 = true then (some 0) else (some (-1))) else (if t244 = true then (some 1) else (if a0 < a1 then (some (-1)) else (if a0 > a1 then (some 1) else (some 0)))))) = some r := H
 have A3 := Aside0.mk A30
 clear A30
 replace H := Option.bind_eq_some_iff.mp H
 obtain ⟨t244, A40, H⟩ := H
 replace H : (if t243 = true then (if t244 = true then (some 0) else (some (-1))) else (if t244 = true then (some 1) else (if a0 < a1 then (some (-1)) else (if a0 > a1 then (some 1) else (some 0))))) = some r := H
 have A4 := Aside0.mk A40
 clear A40
 by_cases c5 : t243 = true
 ·subst c5
  have H1 : (if t244 = true then (some 0) else (some (-1))) = some r := by rw [if_pos rfl] at H; exact H
  clear H
  have H := H1
  clear H1
  by_cases c6 : t244 = true
  ·subst c6
   have H1 : (some 0) = some r := by rw [if_pos rfl] at H; exact H
   clear H
   have H := H1
   clear H1
   obtain rfl := Option.some.inj H
   go_enter Tryz.func126, Tryz.ntmps126
   go_wp2_with (first | ((with_reducible refine gate_callee (f := 143) rfl ?_); refine zl 8 Tryz.func143 #[.int .i64 a0] ?_; (with_reducible refine (cmp_isNaN_int.calls a0 true _ A3.out).mono ?_); rintro e w' ⟨rfl, ⟨nd, rfl⟩⟩; refine ⟨_, rfl, ?_⟩) | ((with_reducible refine gate_callee (f := 143) rfl ?_); refine zl 10 Tryz.func143 #[.int .i64 a1] ?_; (with_reducible refine (cmp_isNaN_int.calls a1 true _ A4.out).mono ?_); rintro e w' ⟨rfl, ⟨nd, rfl⟩⟩; refine ⟨_, rfl, ?_⟩))
   go_ret
   exact za1
  replace c6 := Bool.eq_false_iff.mpr c6
  subst c6
  have H1 : (some (-1)) = some r := by rw [if_neg (show ¬ (false = true) by decide)] at H; exact H
  clear H
  have H := H1
  clear H1
  obtain rfl := Option.some.inj H
  go_enter Tryz.func126, Tryz.ntmps126
  go_wp2_with (first | ((with_reducible refine gate_callee (f := 143) rfl ?_); refine zl 8 Tryz.func143 #[.int .i64 a0] ?_; (with_reducible refine (cmp_isNaN_int.calls a0 true _ A3.out).mono ?_); rintro e w' ⟨rfl, ⟨nd, rfl⟩⟩; refine ⟨_, rfl, ?_⟩) | ((with_reducible refine gate_callee (f := 143) rfl ?_); refine zl 10 Tryz.func143 #[.int .i64 a1] ?_; (with_reducible refine (cmp_isNaN_int.calls a1 false _ A4.out).mono ?_); rintro e w' ⟨rfl, ⟨nd, rfl⟩⟩; refine ⟨_, rfl, ?_⟩))
  go_ret
  exact za1
 replace c5 := Bool.eq_false_iff.mpr c5
 subst c5
 have H1 : (if t244 = true then (some 1) else (if a0 < a1 then (some (-1)) else (if a0 > a1 then (some 1) else (some 0)))) = some r := by rw [if_neg (show ¬ (false = true) by decide)] at H; exact H
 clear H
 have H := H1
 clear H1
 by_cases c7 : t244 = true
 ·subst c7
  have H1 : (some 1) = some r := by rw [if_pos rfl] at H; exact H
  clear H
  have H := H1
  clear H1
  obtain rfl := Option.some.inj H
  go_enter Tryz.func126, Tryz.ntmps126
  go_wp2_with (first | ((with_reducible refine gate_callee (f := 143) rfl ?_); refine zl 8 Tryz.func143 #[.int .i64 a0] ?_; (with_reducible refine (cmp_isNaN_int.calls a0 false _ A3.out).mono ?_); rintro e w' ⟨rfl, ⟨nd, rfl⟩⟩; refine ⟨_, rfl, ?_⟩) | ((with_reducible refine gate_callee (f := 143) rfl ?_); refine zl 10 Tryz.func143 #[.int .i64 a1] ?_; (with_reducible refine (cmp_isNaN_int.calls a1 true _ A4.out).mono ?_); rintro e w' ⟨rfl, ⟨nd, rfl⟩⟩; refine ⟨_, rfl, ?_⟩))
  go_ret
  exact za1
 replace c7 := Bool.eq_false_iff.mpr c7
 subst c7
 have H1 : (if a0 < a1 then (some (-1)) else (if a0 > a1 then (some 1) else (some 0))) = some r := by rw [if_neg (show ¬ (false = true) by decide)] at H; exact H
 clear H
 have H := H1
 clear H1
 by_cases c8 : a0 < a1
 ·rw [if_pos c8] at H
  have c8b0 : decide (a0 < a1) = true := decide_eq_true c8
  clear c8
  obtain rfl := Option.some.inj H
  go_enter Tryz.func126, Tryz.ntmps126
  go_wp2_with (first | ((with_reducible refine gate_callee (f := 143) rfl ?_); refine zl 8 Tryz.func143 #[.int .i64 a0] ?_; (with_reducible refine (cmp_isNaN_int.calls a0 false _ A3.out).mono ?_); rintro e w' ⟨rfl, ⟨nd, rfl⟩⟩; refine ⟨_, rfl, ?_⟩) | ((with_reducible refine gate_callee (f := 143) rfl ?_); refine zl 10 Tryz.func143 #[.int .i64 a1] ?_; (with_reducible refine (cmp_isNaN_int.calls a1 false _ A4.out).mono ?_); rintro e w' ⟨rfl, ⟨nd, rfl⟩⟩; refine ⟨_, rfl, ?_⟩))
  go_ret
  exact za1
 rw [if_neg c8] at H
 have c8b0 : decide (a0 < a1) = false := decide_eq_false c8
 clear c8
 by_cases c9 : a0 > a1
 ·rw [if_pos c9] at H
  have c9b0 : decide (a1 < a0) = true := decide_eq_true c9
  clear c9
  obtain rfl := Option.some.inj H
  go_enter Tryz.func126, Tryz.ntmps126
  go_wp2_with (first | ((with_reducible refine gate_callee (f := 143) rfl ?_); refine zl 8 Tryz.func143 #[.int .i64 a0] ?_; (with_reducible refine (cmp_isNaN_int.calls a0 false _ A3.out).mono ?_); rintro e w' ⟨rfl, ⟨nd, rfl⟩⟩; refine ⟨_, rfl, ?_⟩) | ((with_reducible refine gate_callee (f := 143) rfl ?_); refine zl 10 Tryz.func143 #[.int .i64 a1] ?_; (with_reducible refine (cmp_isNaN_int.calls a1 false _ A4.out).mono ?_); rintro e w' ⟨rfl, ⟨nd, rfl⟩⟩; refine ⟨_, rfl, ?_⟩))
  go_ret
  exact za1
 rw [if_neg c9] at H
 have c9b0 : decide (a1 < a0) = false := decide_eq_false c9
 clear c9
 obtain rfl := Option.some.inj H
 go_enter Tryz.func126, Tryz.ntmps126
 go_wp2_with (first | ((with_reducible refine gate_callee (f := 143) rfl ?_); refine zl 8 Tryz.func143 #[.int .i64 a0] ?_; (with_reducible refine (cmp_isNaN_int.calls a0 false _ A3.out).mono ?_); rintro e w' ⟨rfl, ⟨nd, rfl⟩⟩; refine ⟨_, rfl, ?_⟩) | ((with_reducible refine gate_callee (f := 143) rfl ?_); refine zl 10 Tryz.func143 #[.int .i64 a1] ?_; (with_reducible refine (cmp_isNaN_int.calls a1 false _ A4.out).mono ?_); rintro e w' ⟨rfl, ⟨nd, rfl⟩⟩; refine ⟨_, rfl, ?_⟩))
 go_ret
 exact za1
def slices_Compare_int_int.l0 : Nat → List Int → List Int → List Int → Int → Int → Option (Int)
 | 0, _, _, _, _, _ => none
 | k + 1, x0, x1, x9, x10, x11 => if x11 < x10 then (if 0 ≤ x11 then (if x11 < (x9.length : Int) then (if x11 ≥ (x1.length : Int) then (some 1) else (if x11 < (x1.length : Int) then ((cmp_Compare_int.f (rd x9 x11) (rd x1 x11)).bind fun t247 => (if t247 = 0 then (slices_Compare_int_int.l0 k x0 x1 x9 x10 (wrap64 (x11 + 1))) else (some t247))) else (none))) else (none)) else (none)) else (if (x0.length : Int) < (x1.length : Int) then (some (-1)) else (some 0))
def slices_Compare_int_int.f (k : Nat) (l0 : List Int) (l1 : List Int) : Option (Int) := slices_Compare_int_int.l0 k l0 l1 l0 (l0.length : Int) 0
set_option maxHeartbeats 8000000 in
set_option maxRecDepth 100000 in
theorem slices_Compare_int_int.calls (k : Nat) (A0 : Option Addr) (c0 : Nat) (l0 : List Int) (A1 : Option Addr) (c1 : Nat) (l1 : List Int) (r : Int) (w : World) (hr0 : Kd.C (Kd.int .i64) w A0 l0.length l0) (hc0 : l0.length ≤ c0) (hr1 : Kd.C (Kd.int .i64) w A1 l1.length l1) (hc1 : l1.length ≤ c1) (h : slices_Compare_int_int.f k l0 l1 = some r) :
  Calls Tryz.prog 90 #[.slice A0 l0.length c0, .slice A1 l1.length c1] w fun e w' => e = .returned (.int .i64 r) ∧ Drawn0 w w' := by
 have HR0 := Aside0.mk hr0
 have HC0 := Aside0.mk hc0
 clear hr0 hc0
 have HR1 := Aside0.mk hr1
 have HC1 := Aside0.mk hc1
 clear hr1 hc1
 have H : (slices_Compare_int_int.l0 k l0 l1 l0 (l0.length : Int) 0) = some r := h
 clear h
 have H' := Aside0.mk H
 clear H
 go_enter Tryz.func90, Tryz.ntmps90
 go_wp2
 go_loopg [11] k (fun kq v11 w' => ∃ (x11_1 : Int), v11 = .int .i64 x11_1 ∧ Aside0 (slices_Compare_int_int.l0 kq l0 l1 l0 (l0.length : Int) x11_1 = some r) ∧ Aside0 (kq ≤ k) ∧ Drawn0 w w')
 case atStart => exact ⟨(0), (by first | rfl | (simp; done) | (simp [*]; done)), H', ⟨Nat.le_refl _⟩, by repeat (first | exact Drawn0.refl _ | apply Drawn0.step)⟩
 case round =>
  clear H'
  try clear c1
  try clear p2
  obtain ⟨x11_1, rfl, HA, HK1, ⟨m1, rfl⟩⟩ := hrel
  cases gk with
  | zero => exact absurd HA.out (by simp [slices_Compare_int_int.l0])
  | succ k1 =>
   have H := HA.out
   clear HA
   simp only [slices_Compare_int_int.l0] at H
   by_cases c3 : x11_1 < (l0.length : Int)
   rotate_left
   ·rw [if_neg c3] at H
    have c3b0 : decide (x11_1 < (l0.length : Int)) = false := decide_eq_false c3
    clear c3
    by_cases c10 : (l0.length : Int) < (l1.length : Int)
    ·rw [if_pos c10] at H
     have c10b0 : decide ((l0.length : Int) < (l1.length : Int)) = true := decide_eq_true c10
     have c10b1 : decide (l0.length < l1.length) = true := decide_eq_true (Int.ofNat_lt.mp c10)
     clear c10
     obtain rfl := Option.some.inj H
     go_wp2
     go_ret
     exact za1
    rw [if_neg c10] at H
    have c10b0 : decide ((l0.length : Int) < (l1.length : Int)) = false := decide_eq_false c10
    have c10b1 : decide (l0.length < l1.length) = false := decide_eq_false (fun h => c10 (Int.ofNat_lt.mpr h))
    clear c10
    obtain rfl := Option.some.inj H
    go_wp2
    go_ret
    exact za1
   rw [if_pos c3] at H
   have c3b0 : decide (x11_1 < (l0.length : Int)) = true := decide_eq_true c3
   clear c3
   by_cases c4 : 0 ≤ x11_1
   rotate_left
   ·rw [if_neg c4] at H
    exact absurd H (by simp)
   rw [if_pos c4] at H
   have c4b0 : decide (0 ≤ x11_1) = true := decide_eq_true c4
   clear c4
   by_cases c5 : x11_1 < (l0.length : Int)
   rotate_left
   ·rw [if_neg c5] at H
    exact absurd H (by simp)
   rw [if_pos c5] at H
   have c5b0 : decide (x11_1 < (l0.length : Int)) = true := decide_eq_true c5
   clear c5
   by_cases c6 : x11_1 ≥ (l1.length : Int)
   ·rw [if_pos c6] at H
    have c6b0 : decide ((l1.length : Int) ≤ x11_1) = true := decide_eq_true c6
    clear c6
    obtain rfl := Option.some.inj H
    have p245 : 0 ≤ (x11_1 : Int) := zk
    have q245 : x11_1 < (l0.length : Int) := zk
    obtain ⟨ad245, e245, hx245_0⟩ := Kd.at_int HR0.out x11_1 p245 q245
    cases e245
    replace p245 := eq_true p245
    replace q245 := eq_true q245
    go_wp2
    go_ret
    exact za1
   rw [if_neg c6] at H
   have c6b0 : decide ((l1.length : Int) ≤ x11_1) = false := decide_eq_false c6
   clear c6
   by_cases c7 : x11_1 < (l1.length : Int)
   rotate_left
   ·rw [if_neg c7] at H
    exact absurd H (by simp)
   rw [if_pos c7] at H
   have c7b0 : decide (x11_1 < (l1.length : Int)) = true := decide_eq_true c7
   clear c7
   replace H := Option.bind_eq_some_iff.mp H
   obtain ⟨t247, A80, H⟩ := H
   replace H : (if t247 = 0 then (slices_Compare_int_int.l0 k1 l0 l1 l0 (l0.length : Int) (wrap64 (x11_1 + 1))) else (some t247)) = some r := H
   have A8 := Aside0.mk A80
   clear A80
   by_cases c9 : t247 = 0
   rotate_left
   ·rw [if_neg c9] at H
    have c9b0 : (t247 == 0) = false := beq_eq_false_iff_ne.mpr c9
    have c9b1 : (t247 != 0) = true := bne_iff_ne.mpr c9
    obtain rfl := Option.some.inj H
    have p245 : 0 ≤ (x11_1 : Int) := zk
    have q245 : x11_1 < (l0.length : Int) := zk
    obtain ⟨ad245, e245, hx245_0⟩ := Kd.at_int HR0.out x11_1 p245 q245
    cases e245
    replace p245 := eq_true p245
    replace q245 := eq_true q245
    have p246 : 0 ≤ (x11_1 : Int) := zk
    have q246 : x11_1 < (l1.length : Int) := zk
    obtain ⟨ad246, e246, hx246_0⟩ := Kd.at_int HR1.out x11_1 p246 q246
    cases e246
    replace p246 := eq_true p246
    replace q246 := eq_true q246
    go_wp2_with (first | ((with_reducible refine gate_callee (f := 126) rfl ?_); refine zl 26 Tryz.func126 #[.int .i64 (rd l0 x11_1), .int .i64 (rd l1 x11_1)] ?_; (with_reducible refine (cmp_Compare_int.calls (rd l0 x11_1) (rd l1 x11_1) t247 _ A8.out).mono ?_); rintro e w' ⟨rfl, ⟨nd, rfl⟩⟩; refine ⟨_, rfl, ?_⟩))
    go_ret
    exact za1
   rw [if_pos c9] at H
   have c9b0 : (t247 == 0) = true := beq_iff_eq.mpr c9
   have c9b1 : (t247 != 0) = false := bne_eq_false_iff_eq.mpr c9
   clear c9
   have H' := Aside0.mk H
   clear H
   have p245 : 0 ≤ (x11_1 : Int) := zk
   have q245 : x11_1 < (l0.length : Int) := zk
   obtain ⟨ad245, e245, hx245_0⟩ := Kd.at_int HR0.out x11_1 p245 q245
   cases e245
   replace p245 := eq_true p245
   replace q245 := eq_true q245
   have p246 : 0 ≤ (x11_1 : Int) := zk
   have q246 : x11_1 < (l1.length : Int) := zk
   obtain ⟨ad246, e246, hx246_0⟩ := Kd.at_int HR1.out x11_1 p246 q246
   cases e246
   replace p246 := eq_true p246
   replace q246 := eq_true q246
   go_wp2_with (first | ((with_reducible refine gate_callee (f := 126) rfl ?_); refine zl 26 Tryz.func126 #[.int .i64 (rd l0 x11_1), .int .i64 (rd l1 x11_1)] ?_; (with_reducible refine (cmp_Compare_int.calls (rd l0 x11_1) (rd l1 x11_1) t247 _ A8.out).mono ?_); rintro e w' ⟨rfl, ⟨nd, rfl⟩⟩; refine ⟨_, rfl, ?_⟩))
   go_roundg k1
   case measure => have := HK1.out; omega
   case rel => exact ⟨(wrap64 (x11_1 + 1)), (by first | rfl | (simp; done) | (simp [*]; done)), H', ⟨by have := HK1.out; omega⟩, by repeat (first | exact Drawn0.refl _ | apply Drawn0.step)⟩
def impl_maskOf.l0 : Nat → Int → List Int → Int → Int → Option (Int)
 | 0, _, _, _, _ => none
 | k + 1, x3, x6, x7, x8 => if x8 < x7 then (if 0 ≤ x8 then (if x8 < (x6.length : Int) then (if 0 ≤ (rd x6 x8) then (impl_maskOf.l0 k (Go.bits .or .i64 x3 (shl .i64 1 (rd x6 x8))) x6 x7 (wrap64 (x8 + 1))) else (none)) else (none)) else (none)) else (some x3)
def impl_maskOf.f (k : Nat) (l0 : List Int) : Option (Int) := impl_maskOf.l0 k 0 l0 (l0.length : Int) 0
set_option maxHeartbeats 8000000 in
set_option maxRecDepth 100000 in
theorem impl_maskOf.calls (k : Nat) (A0 : Option Addr) (c0 : Nat) (l0 : List Int) (r : Int) (w : World) (hr0 : Kd.C (Kd.int .i64) w A0 l0.length l0) (hc0 : l0.length ≤ c0) (h : impl_maskOf.f k l0 = some r) :
  Calls Tryz.prog 91 #[.slice A0 l0.length c0] w fun e w' => e = .returned (.int .i64 r) ∧ Drawn0 w w' := by
 have HR0 := Aside0.mk hr0
 have HC0 := Aside0.mk hc0
 clear hr0 hc0
 have H : (impl_maskOf.l0 k 0 l0 (l0.length : Int) 0) = some r := h
 clear h
 have H' := Aside0.mk H
 clear H
 go_enter Tryz.func91, Tryz.ntmps91
 go_wp2
 go_loopg [3, 8] k (fun kq v3 v8 w' => ∃ (x3_1 : Int) (x8_1 : Int), v3 = .int .i64 x3_1 ∧ v8 = .int .i64 x8_1 ∧ Aside0 (impl_maskOf.l0 kq x3_1 l0 (l0.length : Int) x8_1 = some r) ∧ Aside0 (kq ≤ k) ∧ Drawn0 w w')
 case atStart => exact ⟨(0), (0), (by first | rfl | (simp; done) | (simp [*]; done)), (by first | rfl | (simp; done) | (simp [*]; done)), H', ⟨Nat.le_refl _⟩, by repeat (first | exact Drawn0.refl _ | apply Drawn0.step)⟩
 case round =>
  clear H'
  obtain ⟨x3_1, x8_1, rfl, rfl, HA, HK1, ⟨m1, rfl⟩⟩ := hrel
  cases gk with
  | zero => exact absurd HA.out (by simp [impl_maskOf.l0])
  | succ k1 =>
   have H := HA.out
   clear HA
   simp only [impl_maskOf.l0] at H
   by_cases c2 : x8_1 < (l0.length : Int)
   ·rw [if_pos c2] at H
    have c2b0 : decide (x8_1 < (l0.length : Int)) = true := decide_eq_true c2
    clear c2
    by_cases c3 : 0 ≤ x8_1
    ·rw [if_pos c3] at H
     have c3b0 : decide (0 ≤ x8_1) = true := decide_eq_true c3
     clear c3
     by_cases c4 : x8_1 < (l0.length : Int)
     ·rw [if_pos c4] at H
      have c4b0 : decide (x8_1 < (l0.length : Int)) = true := decide_eq_true c4
      clear c4
      by_cases c5 : 0 ≤ (rd l0 x8_1)
      ·rw [if_pos c5] at H
       have c5b0 := eq_true c5
       have c5b1 : decide (0 ≤ (rd l0 x8_1)) = true := decide_eq_true c5
       clear c5
       obtain ⟨ji6, hji6⟩ : ∃ j_ : Int, (shl .i64 1 (rd l0 x8_1)) = j_ := ⟨_, rfl⟩
       replace H : (impl_maskOf.l0 k1 (Go.bits .or .i64 x3_1 (ji6)) l0 (l0.length : Int) (wrap64 (x8_1 + 1))) = some r := by first | (rw [hji6] at H; exact H) | (simp only [hji6] at H ⊢; exact H)
       have hji6_ : (IntKind.i64.wrap (1 * 2 ^ min (rd l0 x8_1).toNat 64)) = ji6 := hji6
       have hji6z : (rd l0 x8_1) ≤ 64 → (IntKind.i64.wrap (1 * 2 ^ (rd l0 x8_1).toNat)) = ji6 := shl_small hji6
       have hji6u : (IntKind.i64.wrap (2 ^ min (rd l0 x8_1).toNat 64)) = ji6 := by have h_ := hji6_; rw [Int.one_mul] at h_; exact h_
       have hji6v : (rd l0 x8_1) ≤ 64 → (IntKind.i64.wrap (2 ^ (rd l0 x8_1).toNat)) = ji6 := fun hle_ => by have h_ := hji6z hle_; rw [Int.one_mul] at h_; exact h_
       have hji6y : (wrap64 (1 * 2 ^ min (rd l0 x8_1).toNat 64)) = ji6 := (i64_w _).symm.trans hji6_
       have hji6x : (rd l0 x8_1) ≤ 64 → (wrap64 (1 * 2 ^ (rd l0 x8_1).toNat)) = ji6 := fun h_ => (i64_w _).symm.trans (hji6z h_)
       have H' := Aside0.mk H
       clear H
       have p248 : 0 ≤ (x8_1 : Int) := zk
       have q248 : x8_1 < (l0.length : Int) := zk
       obtain ⟨ad248, e248, hx248_0⟩ := Kd.at_int HR0.out x8_1 p248 q248
       cases e248
       replace p248 := eq_true p248
       replace q248 := eq_true q248
       go_wp2
       go_roundg k1
       case measure => have := HK1.out; omega
       case rel => exact ⟨(Go.bits .or .i64 x3_1 (ji6)), (wrap64 (x8_1 + 1)), (by first | rfl | (simp; done) | (simp only [← hji6] <;> (first | rfl | simp)) | (simp [*]; done)), (by first | rfl | (simp; done) | (simp [*]; done)), H', ⟨by have := HK1.out; omega⟩, by repeat (first | exact Drawn0.refl _ | apply Drawn0.step)⟩
      ·rw [if_neg c5] at H
       exact absurd H (by simp)
     ·rw [if_neg c4] at H
      exact absurd H (by simp)
    ·rw [if_neg c3] at H
     exact absurd H (by simp)
   ·rw [if_neg c2] at H
    have c2b0 : decide (x8_1 < (l0.length : Int)) = false := decide_eq_false c2
    clear c2
    obtain rfl := Option.some.inj H
    go_wp2
    go_ret
    exact za1
section
variable (a1 : Int → Option Bool)
def impl_votesOf.l0 : Nat → Int → Int → Int → List Bool → Option (Int × List Bool)
 | 0, _, _, _, _ => none
 | k + 1, x14, x15, x265000, x265001 => if x15 < x14 then ((a1 x15).bind fun t265 => (if 0 ≤ x15 then (if x15 < (x265001.length : Int) then (impl_votesOf.l0 k x14 (wrap64 (x15 + 1)) x265000 (x265001.set (x15 : Int).toNat t265)) else (none)) else (none))) else (some (x265000, x265001))
def impl_votesOf.f (k : Nat) (a0 : Int) (a1 : Int → Option Bool) : Option (Int × List Bool) := if 0 ≤ a0 then (if 0 ≤ (shl .i64 1 a0) then (if (shl .i64 1 a0 : Int).toNat ≤ 281474976710656 then ((some (List.replicate (shl .i64 1 a0 : Int).toNat false : List Bool)).bind fun y261 => (impl_votesOf.l0 a1 k (y261.length : Int) 0 a0 y261)) else (none)) else (none)) else (none)
theorem impl_votesOf.mono_l : ∀ k, (∀ y0 y1 y2 y3, LeO (impl_votesOf.l0 a1 k y0 y1 y2 y3) (impl_votesOf.l0 a1 (k + 1) y0 y1 y2 y3))
 | 0 => fun _ _ _ _ r h => by simp [impl_votesOf.l0] at h
 | k + 1 => by
  have ih0 := impl_votesOf.mono_l k
  ·intro y0 y1 y2 y3
   unfold impl_votesOf.l0
   repeat' first
   | (with_reducible exact ih0 _ _ _ _)
   | (with_reducible exact LeO.refl _)
   | (with_reducible exact LeO.none _)
   | (with_reducible refine LeO.ite ?_ ?_)
   | (with_reducible refine LeO.bind ?_ (fun _ => ?_))
   | exact ih0 _ _ _ _
   | exact LeO.none _
   | refine LeO.ite ?_ ?_
   | refine LeO.bind ?_ (fun _ => ?_)
theorem impl_votesOf.mono : ∀ a0 a1 k, LeO (impl_votesOf.f k a0 a1) (impl_votesOf.f (k + 1) a0 a1) := by
 intro a0 a1 k
 have ih0 := impl_votesOf.mono_l a1 k
 unfold impl_votesOf.f
 repeat' first
   | (with_reducible exact ih0 _ _ _ _)
   | (with_reducible exact LeO.refl _)
   | (with_reducible exact LeO.none _)
   | (with_reducible refine LeO.ite ?_ ?_)
   | (with_reducible refine LeO.bind ?_ (fun _ => ?_))
   | exact ih0 _ _ _ _
   | exact LeO.none _
   | refine LeO.ite ?_ ?_
   | refine LeO.bind ?_ (fun _ => ?_)
def impl_votesOf.T5 : Bool × List (List Nat × List Nat) := (true, [([], []), ([0], [0]), ([], []), ([], []), ([], []), ([3, 4], [3, 4]), ([1, 2, 0, 1, 2, 3, 4, 5], [1, 2]), ([6, 5, 5, 0, 1, 2, 3, 4, 5], [5, 6])])
def impl_votesOf.B5 : List Nat := [0, 1, 0, 0, 0, 24, 63, 127]
theorem impl_votesOf.tab5 : rtab .any (opsOf Tryz.f92 5) = impl_votesOf.T5 := by kernel_rfl
theorem impl_votesOf.bits5 : waitsOk impl_votesOf.T5.2 impl_votesOf.B5 = true := by kernel_rfl
set_option maxHeartbeats 8000000 in
set_option maxRecDepth 100000 in
theorem impl_votesOf.calls (k : Nat) (a0 : Int) (a1 : Int → Option Bool) (g_ : Nat) (fa_ lb_ : Array Value) (eg_ : ∀ args w, (callFunc g_ args).run Tryz.prog w = .ok (.enter g_ args) w) (r1 : Int) (r2 : List Bool) (w : World) (hp0_ : PredI Tryz.prog g_ fa_ lb_ w a1) (h : impl_votesOf.f k a0 a1 = some (r1, r2)) :
  Calls Tryz.prog 92 #[.int .i64 a0, .func (.func g_) fa_ lb_] w fun e w' => ∃ v1_ : Value, e = .returned (.agg #[.int .i64 r1, v1_]) ∧ Kd.R Kd.bool 4 w' w.heap.size (fun _ => True) v1_ r2 ∧ Below w.heap.size w w' := by
 have hp_ := Aside0.mk hp0_
 clear hp0_
 have hu61 := Tryz.underlying61
 have HB := Aside0.mk (Below.refl w.heap.size w)
 have H : (if 0 ≤ a0 then (if 0 ≤ (shl .i64 1 a0) then (if (shl .i64 1 a0 : Int).toNat ≤ 281474976710656 then ((some (List.replicate (shl .i64 1 a0 : Int).toNat false : List Bool)).bind fun y261 => (impl_votesOf.l0 a1 k (y261.length : Int) 0 a0 y261)) else (none)) else (none)) else (none)) = some (r1, r2) := h
 clear h
 by_cases c3 : 0 ≤ a0
 ·rw [if_pos c3] at H
  have c3b0 := eq_true c3
  have c3b1 : decide (0 ≤ a0) = true := decide_eq_true c3
  clear c3
  obtain ⟨ji4, hji4⟩ : ∃ j_ : Int, (shl .i64 1 a0) = j_ := ⟨_, rfl⟩
  replace H : (if 0 ≤ (ji4) then (if (ji4 : Int).toNat ≤ 281474976710656 then ((some (List.replicate (ji4 : Int).toNat false : List Bool)).bind fun y261 => (impl_votesOf.l0 a1 k (y261.length : Int) 0 a0 y261)) else (none)) else (none)) = some (r1, r2) := by first | (rw [hji4] at H; exact H) | (simp only [hji4] at H ⊢; exact H)
  have hji4_ : (IntKind.i64.wrap (1 * 2 ^ min a0.toNat 64)) = ji4 := hji4
  have hji4z : a0 ≤ 64 → (IntKind.i64.wrap (1 * 2 ^ a0.toNat)) = ji4 := shl_small hji4
  have hji4u : (IntKind.i64.wrap (2 ^ min a0.toNat 64)) = ji4 := by have h_ := hji4_; rw [Int.one_mul] at h_; exact h_
  have hji4v : a0 ≤ 64 → (IntKind.i64.wrap (2 ^ a0.toNat)) = ji4 := fun hle_ => by have h_ := hji4z hle_; rw [Int.one_mul] at h_; exact h_
  have hji4y : (wrap64 (1 * 2 ^ min a0.toNat 64)) = ji4 := (i64_w _).symm.trans hji4_
  have hji4x : a0 ≤ 64 → (wrap64 (1 * 2 ^ a0.toNat)) = ji4 := fun h_ => (i64_w _).symm.trans (hji4z h_)
  by_cases c5 : 0 ≤ (ji4)
  ·rw [if_pos c5] at H
   have c5b0 := eq_true c5
   have c5b1 : decide (0 ≤ (ji4)) = true := decide_eq_true c5
   clear c5
   by_cases c6 : (ji4 : Int).toNat ≤ 281474976710656
   ·rw [if_pos c6] at H
    have c6b0 := eq_true c6
    have c6b1 : decide ((ji4 : Int).toNat ≤ 281474976710656) = true := decide_eq_true c6
    clear c6
    obtain ⟨y261, hy261⟩ : ∃ y_ : List Bool, y_ = (List.replicate (ji4 : Int).toNat false) := ⟨_, rfl⟩
    replace H : (impl_votesOf.l0 a1 k (y261.length : Int) 0 a0 y261) = some (r1, r2) := by first | (rw [hy261]; with_reducible exact H) | (have H2_ := (Option.bind_some _ _).symm.trans H; rw [hy261]; with_reducible exact H2_) | (have H2_ := (Option.bind_some _ _).symm.trans H; with_reducible exact H2_) | with_reducible exact H | (rw [hy261]; exact H) | exact H
    have Ny261 := Aside0.mk hy261
    clear hy261
    have H' := Aside0.mk H
    clear H
    go_enter Tryz.func92, Tryz.ntmps92
    go_wp2_with (first | ((with_reducible refine gate_dst (N := 4) rfl ?_); refine zq 4 #[.int .i64 0, .slice none 0 0] 61 ?_; intro gb260 hg w7 hbox hb; have n2_ := Aside0.mk ((by rw [hg]; exact (below_size (zh HB.out)) : w.heap.size ≤ gb260)); replace HB := Aside0.mk (below_step (zh HB.out) hb); have BK260 := Aside0.mk hbox; have GW260 := n2_; have GE260 := n2_; clear n2_ hb hbox hg) | ((with_reducible refine gate_dst (N := 10) rfl ?_); refine Kd.R_make Kd.bool _ 4 rfl (N := 10) rfl 59 _ _ rfl ji4 rfl rfl Tryz.underlying59 (.bool false) 1 info4 rfl (by decide) (by omega) false (ok := fun _ => True) (okp := fun _ => True) rfl (fun _ hk => hk) trivial (zk) (Nat.le_trans (Nat.mul_le_mul_right _ (zk : ji4.toNat ≤ 281474976710656)) (by omega)) (Below.refl _ _) (Nat.le_refl _) ?_; intro v262 w8 ho9 hb hg_ hnew_; clear hg_ hnew_; (first | rw [← Ny261.out] at ho9 | (simp only [Int.reduceToNat] at ho9; rw [← Ny261.out] at ho9)); have n0_ := Aside0.mk (Kd.R_lower ho9 (below_size (zh HB.out))); have n1_ := Aside0.mk (blk_below (g := gb260) (o := .cells #[.int .i64 0, .slice none 0 0] 61 (0, 0)) (zb BK260.out) hb); have n2_ := Aside0.mk (below_step (zh HB.out) hb); clear BK260; clear HB; have HO263 := n0_; have BK260 := n1_; have HB := n2_; clear n0_ n1_ n2_; clear hb ho9; obtain ⟨Ao10, co10, eo10⟩ := Kd.R_slice HO263.out; subst eo10) | ((with_reducible refine gate_dst (N := 5) rfl ?_); refine zq 5 #[.int .i64 0, .slice none 0 0] 61 ?_; intro gb264 hg w11 hbox hb; have n0_ := Aside0.mk (Kd.R_below (zr HO263.out) hb); have n1_ := Aside0.mk (blk_below (g := gb260) (o := .cells #[.int .i64 0, .slice none 0 0] 61 (0, 0)) (zb BK260.out) hb); have n2_ := Aside0.mk (below_step (zh HB.out) hb); have n3_ := Aside0.mk (hbox); have n4_ := Aside0.mk ((by rw [hg]; exact (below_size (zh HB.out)) : w.heap.size ≤ gb264)); have n5_ := Aside0.mk ((by rw [hg]; exact (below_size (zh HB.out)) : w.heap.size ≤ gb264)); have n6_ := Aside0.mk ((by rw [hg]; exact Nat.ne_of_lt (blk_lt (g := gb260) (o := .cells #[.int .i64 0, .slice none 0 0] 61 (0, 0)) (zb BK260.out)) : gb260 ≠ gb264)); have n7_ := Aside0.mk ((by rw [hg]; exact Nat.ne_of_gt (blk_lt (g := gb260) (o := .cells #[.int .i64 0, .slice none 0 0] 61 (0, 0)) (zb BK260.out)) : gb264 ≠ gb260)); clear HO263; clear BK260; clear HB; have HO263 := n0_; have BK260 := n1_; have HB := n2_; have BK264 := n3_; have GW264 := n4_; have GE264 := n5_; have NB260_264 := n6_; have NB264_260 := n7_; clear n0_ n1_ n2_ n3_ n4_ n5_ n6_ n7_; clear hb hbox hg; have hnb12 := NB264_260.out; have hnc12 := NB260_264.out; have hcz13_0 : w11.cell? ⟨gb264, 0, none⟩ = some (.int .i64 0) := (blk_cell BK264.out 0).trans rfl; have hcz13_1 : w11.cell? ⟨gb264, 1, none⟩ = some (.slice none 0 0) := (blk_cell BK264.out 1).trans rfl; have hfz13_0 := blk_frozen BK264.out 0; have hfz13_1 := blk_frozen BK264.out 1))
    go_loopg [15] k (fun kq v15 w' => ∃ (x15_1 : Int) (x265001_1 : List Bool) (u265001 : Value), v15 = .int .i64 x15_1 ∧ Aside0 (impl_votesOf.l0 a1 kq (y261.length : Int) x15_1 a0 x265001_1 = some (r1, r2)) ∧ Aside0 (kq ≤ k) ∧ Aside0 (Kd.R Kd.bool 4 w' w.heap.size (fun _ => True) u265001 x265001_1) ∧ Aside0 (w'.heap[gb260]? = some (.cells #[.int .i64 0, (.slice none 0 0)] 61 (0, 0))) ∧ Aside0 (w'.heap[gb264]? = some (.cells #[.int .i64 a0, u265001] 61 (0, 0))) ∧ Aside0 (Below w.heap.size w w'))
    case atStart => exact ⟨(0), (y261), (.slice Ao10 y261.length co10), (by first | rfl | (simp; done) | (simp [*]; done)), H', ⟨Nat.le_refl _⟩, ⟨by (with_reducible repeat (first | apply Kd.R_alloc | apply Kd.R_drewN | apply Kd.R_drew)); exact Kd.R_mono (Kd.R_far (p := ⟨gb264, 1, none⟩) (Kd.R_far (p := ⟨gb264, 0, none⟩) (Kd.R_types HO263.out BK264.out (by decide)) (fun _ hk => hk.2) (.int .i64 a0)) (fun _ hk => hk.2) (.slice Ao10 y261.length co10)) (fun _ hk => trivial)⟩, ⟨zf2 BK260.out NB260_264.out NB260_264.out⟩, ⟨by (with_reducible repeat (first | refine blk_drewN ?_ _ | refine blk_drew ?_ | refine blk_alloc ?_ _)); refine blk_put (cs := #[.int .i64 a0, .slice none 0 0]) ?_ 1 _ rfl; (with_reducible repeat (first | refine blk_drewN ?_ _ | refine blk_drew ?_ | refine blk_alloc ?_ _)); refine blk_put (cs := #[.int .i64 0, .slice none 0 0]) ?_ 0 _ rfl; (with_reducible repeat (first | refine blk_drewN ?_ _ | refine blk_drew ?_ | refine blk_alloc ?_ _)); exact BK264.out⟩, ⟨zh HB.out⟩⟩
    case round =>
     clear H'
     try clear c1
     try clear p2
     try clear c3
     try clear c3b0
     try clear c3b1
     try clear c5
     try clear c5b0
     try clear c5b1
     try clear c6
     try clear c6b0
     try clear c6b1
     try clear p6
     try clear c9
     try clear c12
     try clear hcz13_0
     try clear hcz13_1
     try clear hfz13_0
     try clear hfz13_1
     obtain ⟨x15_1, x265001_1, u265001, rfl, HA, HK1, HO_265001, BK260, BK264, HB⟩ := hrel
     cases gk with
     | zero => exact absurd HA.out (by simp [impl_votesOf.l0])
     | succ k1 =>
      have H := HA.out
      clear HA
      simp only [impl_votesOf.l0] at H
      by_cases c14 : x15_1 < (y261.length : Int)
      ·rw [if_pos c14] at H
       have c14b0 : decide (x15_1 < (y261.length : Int)) = true := decide_eq_true c14
       clear c14
       replace H := Option.bind_eq_some_iff.mp H
       obtain ⟨t265, A150, H⟩ := H
       replace H : (if 0 ≤ x15_1 then (if x15_1 < (x265001_1.length : Int) then (impl_votesOf.l0 a1 k1 (y261.length : Int) (wrap64 (x15_1 + 1)) a0 (x265001_1.set (x15_1 : Int).toNat t265)) else (none)) else (none)) = some (r1, r2) := H
       have A15 := Aside0.mk A150
       clear A150
       by_cases c16 : 0 ≤ x15_1
       ·rw [if_pos c16] at H
        have c16b0 : decide (0 ≤ x15_1) = true := decide_eq_true c16
        clear c16
        by_cases c17 : x15_1 < (x265001_1.length : Int)
        ·rw [if_pos c17] at H
         have c17b0 : decide (x15_1 < (x265001_1.length : Int)) = true := decide_eq_true c17
         clear c17
         obtain ⟨y266, hy266⟩ : ∃ y_ : List Bool, y_ = (x265001_1.set (x15_1 : Int).toNat t265) := ⟨_, rfl⟩
         replace H : (impl_votesOf.l0 a1 k1 (y261.length : Int) (wrap64 (x15_1 + 1)) a0 y266) = some (r1, r2) := by first | (rw [hy266]; with_reducible exact H) | (have H2_ := (Option.bind_some _ _).symm.trans H; rw [hy266]; with_reducible exact H2_) | (have H2_ := (Option.bind_some _ _).symm.trans H; with_reducible exact H2_) | with_reducible exact H | (rw [hy266]; exact H) | exact H
         have Ny266 := Aside0.mk hy266
         clear hy266
         have H' := Aside0.mk H
         clear H
         try go_wp2
         have n0_ := Aside0.mk (Kd.R_drew HO_265001.out)
         have n1_ := Aside0.mk (blk_drew BK260.out)
         have n2_ := Aside0.mk (blk_drew BK264.out)
         have n3_ := Aside0.mk (below_drew1 HB.out)
         clear HO_265001
         clear BK260
         clear BK264
         clear HB
         have HO_265001 := n0_
         have BK260 := n1_
         have BK264 := n2_
         have HB := n3_
         clear n0_ n1_ n2_ n3_
         refine start_ (n := 8) (S := fun w' => w'.cell? ⟨gb264, 0, none⟩ = some (.int .i64 a0) ∧ w'.cell? ⟨gb264, 1, none⟩ = some (u265001)) (ds := [7]) (tb 8 0) (by kernel_rfl) rfl rfl ⟨(blk_cell BK264.out 0).trans rfl, (blk_cell BK264.out 1).trans rfl⟩ (fun hHeld => ?_); refine with_tabW impl_votesOf.tab5 impl_votesOf.bits5 (fun HT_ HW_ => ?_)
         generalize wr.drew = w19 at HO_265001 BK260 BK264 HB hHeld ⊢
         refine zu (i := 0) (N := some 18) (tb 8 1) rfl rfl HT_ ?_
         refine zu (i := 2) (N := some 20) (tb 8 5) rfl rfl HT_ ?_
         refine zu (i := 3) (N := some 21) (tb 8 13) rfl rfl HT_ ?_
         refine zu (i := 4) (N := some 22) (tb 8 29) rfl rfl HT_ ?_
         refine zt (i := 1) (N := some 19) (tb 8 31) rfl rfl (take_ofW HT_.out HW_.out (by kernel_rfl)) hHeld ?_
         refine one_ (i := 5) (N := some 23) (tb 8 63) rfl rfl (one_of HT_.out (by kernel_rfl)) (by decide) (fun K hK => ?_)
         refine goesF_ eg_ (by rfl) #[.int .i64 x15_1] (by rfl) rfl rfl (by (try simp only [List.map_toArray, List.map_cons, List.map_nil]); first | done | rfl | (simp only [List.length_drop, List.length_take]; rfl)) ?_
         with_reducible refine (hp_.out _ x15_1 t265 (zh HB.out) A15.out).mono ?_
         rintro e w20 ⟨rfl, hb⟩
         refine ⟨_, rfl, ?_⟩
         have n0_ := Aside0.mk (Kd.R_below (zr HO_265001.out) hb)
         have n1_ := Aside0.mk (blk_below (g := gb260) (o := .cells #[.int .i64 0, .slice none 0 0] 61 (0, 0)) (zb BK260.out) hb)
         have n2_ := Aside0.mk (blk_below (g := gb264) (o := .cells #[.int .i64 a0, u265001] 61 (0, 0)) (zb BK264.out) hb)
         have n3_ := Aside0.mk (below_step (zh HB.out) hb)
         clear HO_265001
         clear BK260
         clear BK264
         clear HB
         have HO_265001 := n0_
         have BK260 := n1_
         have BK264 := n2_
         have HB := n3_
         clear n0_ n1_ n2_ n3_
         (try clear hb)
         (try clear hb2)
         (try clear hk)
         (try clear hi)
         have p18 : 0 ≤ (x15_1 : Int) := zk
         have q18 : (x15_1 : Int) < ((x265001_1.length : Int) : Int) := zk
         obtain ⟨go18, co18, eo18, gb18, gl18, cl18, HG18⟩ := Kd.R_form HO_265001.out (by omega)
         (first | cases eo18 | (injection eo18 with ea_ en_ ec_; (first | subst ea_ | (injection ea_ with ea_; subst ea_)); subst ec_; clear en_))
         have GB18 := Aside0.mk gb18
         have GG18 := Aside0.mk HG18
         clear gb18 gl18 HG18
         obtain ⟨hx18_0, hf18_0⟩ := Kd.R_celln false HO_265001.out (x15_1 : Int) p18 q18
         replace p18 := eq_true p18
         replace q18 := eq_true q18
         have HP21 := Kd.R_putn HO_265001.out (x15_1 : Int) t265
         rw [← Ny266.out] at HP21
         have HQ21 := Aside0.mk HP21
         clear HP21
         refine hK.out _ _ ⟨(blk_cell BK264.out 0).trans rfl, (blk_cell BK264.out 1).trans rfl⟩ (fun hHeld => ?_)
         clear hK K
         refine zn1 ?_
         refine zu (i := 6) (N := some 24) (tb 8 127) rfl rfl HT_ ?_
         refine last_ (i := 7) (N := none) (tb 8 255) rfl rfl (one_of HT_.out (by kernel_rfl)) (by decide) (fun K hK => ?_)
         refine skip_ (w1 := ?_) (by rfl) rfl ?_ ?_
         rotate_left
         ·go_simp
          rfl
         refine hK.out _ _ ?_
         clear hK K
         refine done_ (done_of HT_.out (by kernel_rfl)) ?_
         try go_wp2
         go_roundg k1
         case measure => have := HK1.out; omega
         case rel => exact ⟨(wrap64 (x15_1 + 1)), (y266), (.slice (some ⟨go18, 0, none⟩) x265001_1.length co18), (by first | rfl | (simp; done) | (simp [*]; done)), H', ⟨by have := HK1.out; omega⟩, ⟨zr HQ21.out⟩, ⟨by (with_reducible repeat (first | refine blk_drewN ?_ _ | refine blk_drew ?_ | refine blk_alloc ?_ _)); refine blk_far ?_ (by have h_ := Kd.R_ne HO_265001.out BK260.out (by decide); intro e_; exact h_ (by rw [e_]; rfl)) _; (with_reducible repeat (first | refine blk_drewN ?_ _ | refine blk_drew ?_ | refine blk_alloc ?_ _)); exact BK260.out⟩, ⟨by (with_reducible repeat (first | refine blk_drewN ?_ _ | refine blk_drew ?_ | refine blk_alloc ?_ _)); refine blk_far ?_ (by have h_ := Kd.R_ne HO_265001.out BK264.out (by decide); intro e_; exact h_ (by rw [e_]; rfl)) _; (with_reducible repeat (first | refine blk_drewN ?_ _ | refine blk_drew ?_ | refine blk_alloc ?_ _)); exact BK264.out⟩, ⟨zh HB.out⟩⟩
        ·rw [if_neg c17] at H
         exact absurd H (by simp)
       ·rw [if_neg c16] at H
        exact absurd H (by simp)
      ·rw [if_neg c14] at H
       have c14b0 : decide (x15_1 < (y261.length : Int)) = false := decide_eq_false c14
       clear c14
       simp only [Option.some.injEq, Prod.mk.injEq] at H
       obtain ⟨rfl, rfl⟩ := H
       have hnb22 := NB264_260.out
       have hnc22 := NB260_264.out
       have hcz23_0 : wr.cell? ⟨gb264, 0, none⟩ = some (.int .i64 a0) := (blk_cell BK264.out 0).trans rfl
       have hcz23_1 : wr.cell? ⟨gb264, 1, none⟩ = some (u265001) := (blk_cell BK264.out 1).trans rfl
       have hfz23_0 := blk_frozen BK264.out 0
       have hfz23_1 := blk_frozen BK264.out 1
       have hcz24_0 : wr.cell? ⟨gb260, 0, none⟩ = some (.int .i64 0) := (blk_cell BK260.out 0).trans rfl
       have hcz24_1 : wr.cell? ⟨gb260, 1, none⟩ = some (.slice none 0 0) := (blk_cell BK260.out 1).trans rfl
       have hfz24_0 := blk_frozen BK260.out 0
       have hfz24_1 := blk_frozen BK260.out 1
       obtain ⟨Ao25, co25, eo25⟩ := Kd.R_slice HO_265001.out
       subst eo25
       go_wp2
       refine bodyPost_ret (results_cell_row rfl _ _ gb260 61 #[.int .i64 a0, .slice Ao25 x265001_1.length co25] (0, 0) _ rfl (by (with_reducible repeat (first | refine blk_drewN ?_ _ | refine blk_drew ?_ | refine blk_alloc ?_ _)); refine blk_put (cs := #[.int .i64 a0, .slice none 0 0]) ?_ 1 _ rfl; (with_reducible repeat (first | refine blk_drewN ?_ _ | refine blk_drew ?_ | refine blk_alloc ?_ _)); refine blk_put (cs := #[.int .i64 0, .slice none 0 0]) ?_ 0 _ rfl; (with_reducible repeat (first | refine blk_drewN ?_ _ | refine blk_drew ?_ | refine blk_alloc ?_ _)); exact BK260.out) Tryz.underlying61 rfl (by kernel_rfl)) rfl ?_
       exact ⟨_, by first | rfl | (simp [errW_none, errW_some] <;> rfl) | (simp only [← hji4]; first | rfl | (simp [errW_none, errW_some] <;> rfl)) | (simp [*, errW_none, errW_some] <;> rfl), by (with_reducible repeat (first | apply Kd.R_alloc | apply Kd.R_drewN | apply Kd.R_drew)); exact Kd.R_mono (Kd.R_far (p := ⟨gb260, 1, none⟩) (Kd.R_far (p := ⟨gb260, 0, none⟩) (Kd.R_types HO_265001.out BK260.out (by decide)) (fun _ hk => hk.2) (.int .i64 a0)) (fun _ hk => hk.2) (.slice Ao25 x265001_1.length co25)) (fun _ hk => trivial), zh HB.out⟩
   ·rw [if_neg c6] at H
    exact absurd H (by simp)
  ·rw [if_neg c5] at H
   exact absurd H (by simp)
 ·rw [if_neg c3] at H
  exact absurd H (by simp)
end
mutual
def impl_tables.l0 : Nat → Int → List Int → List Int → List Int → Int → Int → Option (List Int)
 | 0, _, _, _, _, _, _ => none
 | k + 1, x0, x3, x4, x16, x17, x18 => if x18 < x17 then (if 0 ≤ x18 then (if x18 < (x16.length : Int) then (impl_tables.l1 k x0 x3 x4 (rd x16 x18) x16 x17 x18 x3 (x3.length : Int) 0) else (none)) else (none)) else (some x4)
def impl_tables.l1 : Nat → Int → List Int → List Int → Int → List Int → Int → Int → List Int → Int → Int → Option (List Int)
 | 0, _, _, _, _, _, _, _, _, _, _ => none
 | k + 1, x0, x3, x4, x6, x16, x17, x18, x22, x23, x24 => if x24 < x23 then (if 0 ≤ x24 then (if x24 < (x22.length : Int) then (if (Go.bits .and .i64 x6 (rd x22 x24)) = x6 then (if 0 ≤ (wrap64 (x0 - 1)) then (if x4.length < 17592186044416 then (impl_tables.l1 k x0 x3 (x4 ++ [Go.bits .or .i64 (shl .i64 (rd x22 x24) (shl .u64 1 (wrap64 (x0 - 1)))) x6]) x6 x16 x17 x18 x22 x23 (wrap64 (x24 + 1))) else (none)) else (none)) else (impl_tables.l1 k x0 x3 x4 x6 x16 x17 x18 x22 x23 (wrap64 (x24 + 1)))) else (none)) else (none)) else (impl_tables.l0 k x0 x3 x4 x16 x17 (wrap64 (x18 + 1)))
def impl_tables.f : Nat → Int → Option (List Int)
 | 0, _ => none
 | k + 1, a0 => if a0 = 0 then (some (([0, 1] : List Int))) else ((impl_tables.f k (wrap64 (a0 - 1))).bind fun t292 => (impl_tables.l0 k a0 t292 (([] : List Int)) t292 (t292.length : Int) 0))
end
theorem impl_tables.mono_l : ∀ k, (∀ y0, LeO (impl_tables.f k y0) (impl_tables.f (k + 1) y0)) ∧ (∀ y0 y1 y2 y3 y4 y5, LeO (impl_tables.l0 k y0 y1 y2 y3 y4 y5) (impl_tables.l0 (k + 1) y0 y1 y2 y3 y4 y5)) ∧ (∀ y0 y1 y2 y3 y4 y5 y6 y7 y8 y9, LeO (impl_tables.l1 k y0 y1 y2 y3 y4 y5 y6 y7 y8 y9) (impl_tables.l1 (k + 1) y0 y1 y2 y3 y4 y5 y6 y7 y8 y9))
 | 0 => ⟨fun _ r h => by simp [impl_tables.f] at h, fun _ _ _ _ _ _ r h => by simp [impl_tables.l0] at h, fun _ _ _ _ _ _ _ _ _ _ r h => by simp [impl_tables.l1] at h⟩
 | k + 1 => by
  obtain ⟨ih0, ih1, ih2⟩ := impl_tables.mono_l k
  refine ⟨?_, ?_, ?_⟩
  ·intro y0
   unfold impl_tables.f
   repeat' first
   | (with_reducible exact ih0 _)
   | (with_reducible exact ih1 _ _ _ _ _ _)
   | (with_reducible exact ih2 _ _ _ _ _ _ _ _ _ _)
   | (with_reducible exact LeO.refl _)
   | (with_reducible exact LeO.none _)
   | (with_reducible refine LeO.ite ?_ ?_)
   | (with_reducible refine LeO.bind ?_ (fun _ => ?_))
   | exact ih0 _
   | exact ih1 _ _ _ _ _ _
   | exact ih2 _ _ _ _ _ _ _ _ _ _
   | exact LeO.none _
   | refine LeO.ite ?_ ?_
   | refine LeO.bind ?_ (fun _ => ?_)
  ·intro y0 y1 y2 y3 y4 y5
   unfold impl_tables.l0
   repeat' first
   | (with_reducible exact ih0 _)
   | (with_reducible exact ih1 _ _ _ _ _ _)
   | (with_reducible exact ih2 _ _ _ _ _ _ _ _ _ _)
   | (with_reducible exact LeO.refl _)
   | (with_reducible exact LeO.none _)
   | (with_reducible refine LeO.ite ?_ ?_)
   | (with_reducible refine LeO.bind ?_ (fun _ => ?_))
   | exact ih0 _
   | exact ih1 _ _ _ _ _ _
   | exact ih2 _ _ _ _ _ _ _ _ _ _
   | exact LeO.none _
   | refine LeO.ite ?_ ?_
   | refine LeO.bind ?_ (fun _ => ?_)
  ·intro y0 y1 y2 y3 y4 y5 y6 y7 y8 y9
   unfold impl_tables.l1
   repeat' first
   | (with_reducible exact ih0 _)
   | (with_reducible exact ih1 _ _ _ _ _ _)
   | (with_reducible exact ih2 _ _ _ _ _ _ _ _ _ _)
   | (with_reducible exact LeO.refl _)
   | (with_reducible exact LeO.none _)
   | (with_reducible refine LeO.ite ?_ ?_)
   | (with_reducible refine LeO.bind ?_ (fun _ => ?_))
   | exact ih0 _
   | exact ih1 _ _ _ _ _ _
   | exact ih2 _ _ _ _ _ _ _ _ _ _
   | exact LeO.none _
   | refine LeO.ite ?_ ?_
   | refine LeO.bind ?_ (fun _ => ?_)
theorem impl_tables.mono : ∀ a0 k, LeO (impl_tables.f k a0) (impl_tables.f (k + 1) a0) := by
 intro a0 k
 obtain ⟨ih0, ih1, ih2⟩ := impl_tables.mono_l k
 exact ih0 a0
set_option maxHeartbeats 8000000 in
set_option maxRecDepth 100000 in
theorem impl_tables.calls (k : Nat) : ∀ (a0 : Int) (r : List Int) (w : World) (h : impl_tables.f k a0 = some r),
  Calls Tryz.prog 96 #[.int .i64 a0] w fun e w' => ∃ v0_ : Value, e = .returned (v0_) ∧ Kd.R (Kd.int .i64) 3 w' w.heap.size (fun _ => True) v0_ r ∧ Below w.heap.size w w' := by
 induction k using Nat.strongRecOn with
 | _ k ih =>
 intro a0 r w h
 cases k with
 | zero => exact absurd h (by simp [impl_tables.f])
 | succ k =>
 simp only [impl_tables.f] at h
 have HB := Aside0.mk (Below.refl w.heap.size w)
 have H : (if a0 = 0 then (some (([0, 1] : List Int))) else ((impl_tables.f k (wrap64 (a0 - 1))).bind fun t292 => (impl_tables.l0 k a0 t292 (([] : List Int)) t292 (t292.length : Int) 0))) = some r := h
 clear h
 by_cases c2 : a0 = 0
 ·rw [if_pos c2] at H
  have c2b0 : (a0 == 0) = true := beq_iff_eq.mpr c2
  have c2b1 : (a0 != 0) = false := bne_eq_false_iff_eq.mpr c2
  clear c2
  obtain ⟨y289, hy289⟩ : ∃ y_ : List Int, y_ = (([0, 1] : List Int)) := ⟨_, rfl⟩
  replace H : (some y289) = some r := by first | (rw [hy289]; with_reducible exact H) | (have H2_ := (Option.bind_some _ _).symm.trans H; rw [hy289]; with_reducible exact H2_) | (have H2_ := (Option.bind_some _ _).symm.trans H; with_reducible exact H2_) | with_reducible exact H | (rw [hy289]; exact H) | exact H
  have Ny289 := Aside0.mk hy289
  clear hy289
  obtain rfl := Option.some.inj H
  go_enter Tryz.func96, Tryz.ntmps96
  go_wp2_with (first | ((with_reducible refine gate_dst (N := 11) rfl ?_); refine Kd.R_lit (Kd.int .i64) _ 3 ?hg (N := 11) ?hd (xs := ([0, 1] : List Int)) (inner := [.int .i64 0, .int .i64 1]) (ok := fun _ => True) (okp := fun _ => True) ?hr ?hp (fun _ hk => hk) trivial (Below.refl _ _) (Nat.le_refl _) (by simp) ?_; (case hd => rfl); (case hg => rfl); (case hr => first | (go_simp; done) | (go_simp; rfl)); (case hp => exact (Reps.one (show Kd.M (Kd.int .i64) _ _ _ 0 [.int .i64 0] from rfl) (Reps.one (show Kd.M (Kd.int .i64) _ _ _ 1 [.int .i64 1] from rfl) (Reps.none _ _)))); intro v290 w3 ho4 hb hg_ hnew_; clear hg_ hnew_; (first | rw [← Ny289.out] at ho4 | (simp only [Int.reduceToNat] at ho4; rw [← Ny289.out] at ho4)); have n0_ := Aside0.mk (Kd.R_lower ho4 (below_size (zh HB.out))); have n1_ := Aside0.mk (below_step (zh HB.out) hb); clear HB; have HO291 := n0_; have HB := n1_; clear n0_ n1_; clear hb ho4))
  go_ret
  exact ⟨_, by first | rfl | (simp [*, errW_none, errW_some] <;> rfl), by (with_reducible repeat (first | apply Kd.R_alloc | apply Kd.R_drewN | apply Kd.R_drew)); exact HO291.out, zh HB.out⟩
 rw [if_neg c2] at H
 have c2b0 : (a0 == 0) = false := beq_eq_false_iff_ne.mpr c2
 have c2b1 : (a0 != 0) = true := bne_iff_ne.mpr c2
 replace H := Option.bind_eq_some_iff.mp H
 obtain ⟨t292, A50, H⟩ := H
 replace H : (impl_tables.l0 k a0 t292 (([] : List Int)) t292 (t292.length : Int) 0) = some r := H
 have A5 := Aside0.mk A50
 clear A50
 obtain ⟨y295, hy295⟩ : ∃ y_ : List Int, y_ = (([] : List Int)) := ⟨_, rfl⟩
 replace H : (impl_tables.l0 k a0 t292 y295 t292 (t292.length : Int) 0) = some r := by first | (rw [hy295]; with_reducible exact H) | (have H2_ := (Option.bind_some _ _).symm.trans H; rw [hy295]; with_reducible exact H2_) | (have H2_ := (Option.bind_some _ _).symm.trans H; with_reducible exact H2_) | with_reducible exact H | (rw [hy295]; exact H) | exact H
 have Ny295 := Aside0.mk hy295
 clear hy295
 have H' := Aside0.mk H
 clear H
 go_enter Tryz.func96, Tryz.ntmps96
 go_wp2_with (first | ((with_reducible refine gate_callee (f := 96) rfl ?_); refine zl 14 Tryz.func96 #[.int .i64 (wrap64 (a0 - 1))] ?_; (with_reducible refine (ih k (by omega) (wrap64 (a0 - 1)) t292 _ A5.out).mono ?_); rintro e w6 ⟨v293, rfl, ho0, hb⟩; refine ⟨_, rfl, ?_⟩; have n0_ := Aside0.mk (Kd.R_lower ho0 (below_size (zh HB.out))); have n1_ := Aside0.mk (below_step (zh HB.out) hb); clear HB; have HO294 := n0_; have HB := n1_; clear n0_ n1_; (try clear hb); (try clear hb2); (try clear hk); (try clear hi); (try clear ho0)) | ((with_reducible refine gate_dst (N := 15) rfl ?_); refine Kd.R_lit (Kd.int .i64) _ 3 ?hg (N := 15) ?hd (xs := ([] : List Int)) (inner := []) (ok := fun _ => True) (okp := fun _ => True) ?hr ?hp (fun _ hk => hk) trivial (Below.refl _ _) (Nat.le_refl _) (by simp) ?_; (case hd => rfl); (case hg => rfl); (case hr => first | (go_simp; done) | (go_simp; rfl)); (case hp => exact (Reps.none _ _)); intro v296 w7 ho8 hb hg_ hnew_; clear hg_ hnew_; (first | rw [← Ny295.out] at ho8 | (simp only [Int.reduceToNat] at ho8; rw [← Ny295.out] at ho8)); have n0_ := Aside0.mk (Kd.R_elder' (zr HO294.out) (Kd.R_base ho8) hb); have n1_ := Aside0.mk (Kd.R_lower (Kd.R_new' ho8 (Kd.R_lt (zr HO294.out))) (below_size (zh HB.out))); have n2_ := Aside0.mk (below_step (zh HB.out) hb); clear HO294; clear HB; have HO294 := n0_; have HO297 := n1_; have HB := n2_; clear n0_ n1_ n2_; clear hb ho8; obtain ⟨Ao9, co9, eo9⟩ := Kd.R_slice HO294.out; subst eo9))
 go_loopg [4, 18] k (fun kq v4 v18 w' => ∃ (x4_1 : List Int) (x18_1 : Int), v18 = .int .i64 x18_1 ∧ Aside0 (impl_tables.l0 kq a0 t292 x4_1 t292 (t292.length : Int) x18_1 = some r) ∧ Aside0 (kq ≤ k) ∧ Aside0 (Kd.R (Kd.int .i64) 3 w' w.heap.size (fun k_ => some k_ ≠ (v4 : Value).ownBlock) (.slice Ao9 t292.length co9) t292) ∧ Aside0 (Kd.R (Kd.int .i64) 3 w' w.heap.size (fun k_ => some k_ ≠ ((.slice Ao9 t292.length co9) : Value).ownBlock ∧ some k_ ≠ ((.slice Ao9 t292.length co9) : Value).ownBlock) v4 x4_1) ∧ Aside0 (Kd.R (Kd.int .i64) 3 w' w.heap.size (fun k_ => some k_ ≠ (v4 : Value).ownBlock) (.slice Ao9 t292.length co9) t292) ∧ Aside0 (Below w.heap.size w w'))
 case atStart => exact ⟨(y295), (0), (by first | rfl | (simp; done) | (simp [*]; done)), H', ⟨Nat.le_refl _⟩, ⟨by (with_reducible repeat (first | apply Kd.R_alloc | apply Kd.R_drewN | apply Kd.R_drew)); exact Kd.R_mono HO294.out (fun _ hk => hk.2)⟩, ⟨by (with_reducible repeat (first | apply Kd.R_alloc | apply Kd.R_drewN | apply Kd.R_drew)); exact Kd.R_mono HO297.out (fun _ hk => ⟨hk.2, hk.2⟩)⟩, ⟨by (with_reducible repeat (first | apply Kd.R_alloc | apply Kd.R_drewN | apply Kd.R_drew)); exact Kd.R_mono HO294.out (fun _ hk => hk.2)⟩, ⟨zh HB.out⟩⟩
 case round =>
  clear H'
  try clear c2
  try clear c2b0
  try clear c2b1
  try clear p2
  try clear p6
  try clear c9
  obtain ⟨x4_1, x18_1, rfl, HA, HK1, HO_3, HO_4, HO_16, HB⟩ := hrel
  cases gk with
  | zero => exact absurd HA.out (by simp [impl_tables.l0])
  | succ k1 =>
   have H := HA.out
   clear HA
   simp only [impl_tables.l0] at H
   by_cases c10 : x18_1 < (t292.length : Int)
   rotate_left
   ·rw [if_neg c10] at H
    have c10b0 : decide (x18_1 < (t292.length : Int)) = false := decide_eq_false c10
    clear c10
    obtain rfl := Option.some.inj H
    go_wp2
    go_ret
    exact ⟨_, by first | rfl | (simp [*, errW_none, errW_some] <;> rfl), by (with_reducible repeat (first | apply Kd.R_alloc | apply Kd.R_drewN | apply Kd.R_drew)); exact Kd.R_mono HO_4.out (fun _ hk => trivial), zh HB.out⟩
   rw [if_pos c10] at H
   have c10b0 : decide (x18_1 < (t292.length : Int)) = true := decide_eq_true c10
   clear c10
   by_cases c11 : 0 ≤ x18_1
   rotate_left
   ·rw [if_neg c11] at H
    exact absurd H (by simp)
   rw [if_pos c11] at H
   have c11b0 : decide (0 ≤ x18_1) = true := decide_eq_true c11
   clear c11
   by_cases c12 : x18_1 < (t292.length : Int)
   rotate_left
   ·rw [if_neg c12] at H
    exact absurd H (by simp)
   rw [if_pos c12] at H
   have c12b0 : decide (x18_1 < (t292.length : Int)) = true := decide_eq_true c12
   clear c12
   have H' := Aside0.mk H
   clear H
   have p298 : 0 ≤ (x18_1 : Int) := zk
   have q298 : x18_1 < (t292.length : Int) := zk
   obtain ⟨ad298, e298, hx298_0⟩ := Kd.at_int (Kd.R_reads' HO_16.out).2.2 x18_1 p298 q298
   cases e298
   replace p298 := eq_true p298
   replace q298 := eq_true q298
   go_wp2
   go_loopg [4, 24] k1 (fun kq v4 v24 w' => ∃ (x4_2 : List Int) (x24_2 : Int), v24 = .int .i64 x24_2 ∧ Aside0 (impl_tables.l1 kq a0 t292 x4_2 (rd t292 x18_1) t292 (t292.length : Int) x18_1 t292 (t292.length : Int) x24_2 = some r) ∧ Aside0 (kq ≤ k1) ∧ Aside0 (Kd.R (Kd.int .i64) 3 w' w.heap.size (fun k_ => some k_ ≠ (v4 : Value).ownBlock) (.slice (some ad298) t292.length co9) t292) ∧ Aside0 (Kd.R (Kd.int .i64) 3 w' w.heap.size (fun k_ => some k_ ≠ ((.slice (some ad298) t292.length co9) : Value).ownBlock ∧ some k_ ≠ ((.slice (some ad298) t292.length co9) : Value).ownBlock ∧ some k_ ≠ ((.slice (some ad298) t292.length co9) : Value).ownBlock) v4 x4_2) ∧ Aside0 (Kd.R (Kd.int .i64) 3 w' w.heap.size (fun k_ => some k_ ≠ (v4 : Value).ownBlock) (.slice (some ad298) t292.length co9) t292) ∧ Aside0 (Kd.R (Kd.int .i64) 3 w' w.heap.size (fun k_ => some k_ ≠ (v4 : Value).ownBlock) (.slice (some ad298) t292.length co9) t292) ∧ Aside0 (Below w.heap.size w w'))
   case atStart => exact ⟨(x4_1), (0), (by first | rfl | (simp; done) | (simp [*]; done)), H', ⟨Nat.le_refl _⟩, ⟨zr HO_3.out⟩, ⟨by (with_reducible repeat (first | apply Kd.R_alloc | apply Kd.R_drewN | apply Kd.R_drew)); exact Kd.R_mono HO_4.out (fun _ hk => ⟨hk.1, ⟨hk.2, hk.1⟩⟩)⟩, ⟨zr HO_16.out⟩, ⟨zr HO_3.out⟩, ⟨zh HB.out⟩⟩
   case round =>
    clear H'
    try clear c1
    try clear c2
    try clear c2b0
    try clear c2b1
    try clear p2
    try clear q2
    try clear hx2
    try clear p6
    try clear c9
    try clear c10
    try clear c10b0
    try clear c11
    try clear c11b0
    try clear c12
    try clear c12b0
    try clear hx298_0
    try clear p2
    try clear p298
    try clear p6
    try clear q298
    obtain ⟨x4_2, x24_2, rfl, HA, HK2, HO_3, HO_4, HO_16, HO_22, HB⟩ := hrel
    cases gk with
    | zero => exact absurd HA.out (by simp [impl_tables.l1])
    | succ k2 =>
     have H := HA.out
     clear HA
     simp only [impl_tables.l1] at H
     by_cases c13 : x24_2 < (t292.length : Int)
     rotate_left
     ·rw [if_neg c13] at H
      have c13b0 : decide (x24_2 < (t292.length : Int)) = false := decide_eq_false c13
      clear c13
      have H' := Aside0.mk H
      clear H
      go_wp2
      try subst hji17
      try subst hji19
      try subst hji20
      go_roundg k2
      case measure => have := HK1.out; have := HK2.out; omega
      case rel => exact ⟨(x4_2), (wrap64 (x18_1 + 1)), (by first | rfl | (simp; done) | (simp [*]; done)), H', ⟨by have := HK1.out; have := HK2.out; omega⟩, ⟨zr HO_3.out⟩, ⟨by (with_reducible repeat (first | apply Kd.R_alloc | apply Kd.R_drewN | apply Kd.R_drew)); exact Kd.R_mono HO_4.out (fun _ hk => ⟨hk.1, hk.2.1⟩)⟩, ⟨zr HO_16.out⟩, ⟨zh HB.out⟩⟩
     rw [if_pos c13] at H
     have c13b0 : decide (x24_2 < (t292.length : Int)) = true := decide_eq_true c13
     clear c13
     by_cases c14 : 0 ≤ x24_2
     rotate_left
     ·rw [if_neg c14] at H
      exact absurd H (by simp)
     rw [if_pos c14] at H
     have c14b0 : decide (0 ≤ x24_2) = true := decide_eq_true c14
     clear c14
     by_cases c15 : x24_2 < (t292.length : Int)
     rotate_left
     ·rw [if_neg c15] at H
      exact absurd H (by simp)
     rw [if_pos c15] at H
     have c15b0 : decide (x24_2 < (t292.length : Int)) = true := decide_eq_true c15
     clear c15
     by_cases c16 : (Go.bits .and .i64 (rd t292 x18_1) (rd t292 x24_2)) = (rd t292 x18_1)
     rotate_left
     ·rw [if_neg c16] at H
      have c16b0 : ((Go.bits .and .i64 (rd t292 x18_1) (rd t292 x24_2)) == (rd t292 x18_1)) = false := beq_eq_false_iff_ne.mpr c16
      have c16b1 : ((Go.bits .and .i64 (rd t292 x18_1) (rd t292 x24_2)) != (rd t292 x18_1)) = true := bne_iff_ne.mpr c16
      have H' := Aside0.mk H
      clear H
      have p299 : 0 ≤ (x24_2 : Int) := zk
      have q299 : x24_2 < (t292.length : Int) := zk
      obtain ⟨ad299, e299, hx299_0⟩ := Kd.at_int (Kd.R_reads' HO_22.out).2.2 x24_2 p299 q299
      obtain rfl : ad298 = ad299 := (by injection e299)
      replace p299 := eq_true p299
      replace q299 := eq_true q299
      go_wp2
      try subst hji17
      try subst hji19
      try subst hji20
      go_roundg k2
      case measure => have := HK1.out; have := HK2.out; omega
      case rel => exact ⟨(x4_2), (wrap64 (x24_2 + 1)), (by first | rfl | (simp; done) | (simp [*]; done)), H', ⟨by have := HK1.out; have := HK2.out; omega⟩, ⟨zr HO_3.out⟩, ⟨zr HO_4.out⟩, ⟨zr HO_16.out⟩, ⟨zr HO_22.out⟩, ⟨zh HB.out⟩⟩
     rw [if_pos c16] at H
     have c16b0 : ((Go.bits .and .i64 (rd t292 x18_1) (rd t292 x24_2)) == (rd t292 x18_1)) = true := beq_iff_eq.mpr c16
     have c16b1 : ((Go.bits .and .i64 (rd t292 x18_1) (rd t292 x24_2)) != (rd t292 x18_1)) = false := bne_eq_false_iff_eq.mpr c16
     clear c16
     obtain ⟨ji17, hji17⟩ : ∃ j_ : Int, (wrap64 (a0 - 1)) = j_ := ⟨_, rfl⟩
     replace H : (if 0 ≤ (ji17) then (if x4_2.length < 17592186044416 then (impl_tables.l1 k2 a0 t292 (x4_2 ++ [Go.bits .or .i64 (shl .i64 (rd t292 x24_2) (shl .u64 1 (ji17))) (rd t292 x18_1)]) (rd t292 x18_1) t292 (t292.length : Int) x18_1 t292 (t292.length : Int) (wrap64 (x24_2 + 1))) else (none)) else (none)) = some r := by first | (rw [hji17] at H; exact H) | (simp only [hji17] at H ⊢; exact H)
     have hji17w : (IntKind.i64.wrap (a0 - 1)) = ji17 := (i64_w _).trans hji17
     by_cases c18 : 0 ≤ (ji17)
     rotate_left
     ·rw [if_neg c18] at H
      exact absurd H (by simp)
     rw [if_pos c18] at H
     have c18b0 := eq_true c18
     have c18b1 : decide (0 ≤ (ji17)) = true := decide_eq_true c18
     clear c18
     obtain ⟨ji19, hji19⟩ : ∃ j_ : Int, (shl .u64 1 (ji17)) = j_ := ⟨_, rfl⟩
     replace H : (if x4_2.length < 17592186044416 then (impl_tables.l1 k2 a0 t292 (x4_2 ++ [Go.bits .or .i64 (shl .i64 (rd t292 x24_2) (ji19)) (rd t292 x18_1)]) (rd t292 x18_1) t292 (t292.length : Int) x18_1 t292 (t292.length : Int) (wrap64 (x24_2 + 1))) else (none)) = some r := by first | (rw [hji19] at H; exact H) | (simp only [hji19] at H ⊢; exact H)
     have hji19_ : (IntKind.u64.wrap (1 * 2 ^ min (ji17).toNat 64)) = ji19 := hji19
     have hji19n : 0 ≤ ji19 := by rw [← hji19_]; exact u64_wrap_nn _
     have hji19n0 := eq_true hji19n
     have hji19n1 : decide (0 ≤ ji19) = true := decide_eq_true hji19n
     have hji19z : (ji17) ≤ 64 → (IntKind.u64.wrap (1 * 2 ^ (ji17).toNat)) = ji19 := shl_small hji19
     have hji19u : (IntKind.u64.wrap (2 ^ min (ji17).toNat 64)) = ji19 := by have h_ := hji19_; rw [Int.one_mul] at h_; exact h_
     have hji19v : (ji17) ≤ 64 → (IntKind.u64.wrap (2 ^ (ji17).toNat)) = ji19 := fun hle_ => by have h_ := hji19z hle_; rw [Int.one_mul] at h_; exact h_
     obtain ⟨ji20, hji20⟩ : ∃ j_ : Int, (shl .i64 (rd t292 x24_2) (ji19)) = j_ := ⟨_, rfl⟩
     replace H : (if x4_2.length < 17592186044416 then (impl_tables.l1 k2 a0 t292 (x4_2 ++ [Go.bits .or .i64 (ji20) (rd t292 x18_1)]) (rd t292 x18_1) t292 (t292.length : Int) x18_1 t292 (t292.length : Int) (wrap64 (x24_2 + 1))) else (none)) = some r := by first | (rw [hji20] at H; exact H) | (simp only [hji20] at H ⊢; exact H)
     have hji20_ : (IntKind.i64.wrap ((rd t292 x24_2) * 2 ^ min (ji19).toNat 64)) = ji20 := hji20
     have hji20z : (ji19) ≤ 64 → (IntKind.i64.wrap ((rd t292 x24_2) * 2 ^ (ji19).toNat)) = ji20 := shl_small hji20
     have hji20y : (wrap64 ((rd t292 x24_2) * 2 ^ min (ji19).toNat 64)) = ji20 := (i64_w _).symm.trans hji20_
     have hji20x : (ji19) ≤ 64 → (wrap64 ((rd t292 x24_2) * 2 ^ (ji19).toNat)) = ji20 := fun h_ => (i64_w _).symm.trans (hji20z h_)
     by_cases c21 : x4_2.length < 17592186044416
     rotate_left
     ·rw [if_neg c21] at H
      exact absurd H (by simp)
     rw [if_pos c21] at H
     have LMc21 := Aside0.mk c21
     clear c21
     obtain ⟨y300, hy300⟩ : ∃ y_ : List Int, y_ = (x4_2 ++ [Go.bits .or .i64 (ji20) (rd t292 x18_1)]) := ⟨_, rfl⟩
     replace H : (impl_tables.l1 k2 a0 t292 y300 (rd t292 x18_1) t292 (t292.length : Int) x18_1 t292 (t292.length : Int) (wrap64 (x24_2 + 1))) = some r := by first | (rw [hy300]; with_reducible exact H) | (have H2_ := (Option.bind_some _ _).symm.trans H; rw [hy300]; with_reducible exact H2_) | (have H2_ := (Option.bind_some _ _).symm.trans H; with_reducible exact H2_) | with_reducible exact H | (rw [hy300]; exact H) | exact H
     have Ny300 := Aside0.mk hy300
     clear hy300
     have H' := Aside0.mk H
     clear H
     have p299 : 0 ≤ (x24_2 : Int) := zk
     have q299 : x24_2 < (t292.length : Int) := zk
     obtain ⟨ad299, e299, hx299_0⟩ := Kd.at_int (Kd.R_reads' HO_22.out).2.2 x24_2 p299 q299
     obtain rfl : ad298 = ad299 := (by injection e299)
     replace p299 := eq_true p299
     replace q299 := eq_true q299
     go_wp2_with (first | ((with_reducible refine gate_builtin (b := .append) (xs := #[.tmp 33, .tmp 41]) rfl ?_); at_builtin; refine Kd.R_append (Kd.int .i64) (w0 := w) w.heap.size rfl (.tmp 33) (.tmp 41) 65 3 (.int .i64 0) 8 rfl Tryz.underlying65 info3 rfl (by decide) (by omega) u4 x4_2 (Go.bits .or .i64 (ji20) (rd t292 x18_1)) [.int .i64 (Go.bits .or .i64 (ji20) (rd t292 x18_1))] (fun k_ => some k_ ≠ (.slice (some ad298) t292.length co9 : Value).ownBlock ∧ some k_ ≠ (.slice (some ad298) t292.length co9 : Value).ownBlock ∧ some k_ ≠ (.slice (some ad298) t292.length co9 : Value).ownBlock) (fun _ => False) rfl rfl ?aP (fun _ hk => hk.elim) ?aF ?aO ?aB ?aS ?aL ?_; (case aP => exact rfl); (case aB => exact (zh HB.out)); (case aF => exact (fun k_ hk => ⟨Kd.fresh' (Kd.R_lt (zr HO_3.out)) k_ hk, Kd.fresh' (Kd.R_lt (zr HO_16.out)) k_ hk, Kd.fresh' (Kd.R_lt (zr HO_22.out)) k_ hk⟩)); (case aO => exact (zr HO_4.out)); (case aS => exact (below_size (zh HB.out))); (case aL => have := LMc21.out; omega); intro v301 w22 ho hb hg hat; rw [← Ny300.out] at ho; have n0_ := Aside0.mk (Kd.R_after (ok := (fun _ => True)) (by (with_reducible repeat (first | apply Kd.R_alloc | apply Kd.R_drewN | apply Kd.R_drew)); exact Kd.R_mono HO_3.out (fun _ hk => ⟨trivial, hk⟩)) hg hat); have n1_ := Aside0.mk (Kd.R_after (ok := (fun _ => True)) (by (with_reducible repeat (first | apply Kd.R_alloc | apply Kd.R_drewN | apply Kd.R_drew)); exact Kd.R_mono HO_16.out (fun _ hk => ⟨trivial, hk⟩)) hg hat); have n2_ := Aside0.mk (Kd.R_after (ok := (fun _ => True)) (by (with_reducible repeat (first | apply Kd.R_alloc | apply Kd.R_drewN | apply Kd.R_drew)); exact Kd.R_mono HO_22.out (fun _ hk => ⟨trivial, hk⟩)) hg hat); have n3_ := Aside0.mk (hb); have n4_ := Aside0.mk (ho); clear HO_3; clear HO_16; clear HO_22; clear HB; clear HO_4; have HO_3 := n0_; have HO_16 := n1_; have HO_22 := n2_; have HB := n3_; have HO302 := n4_; clear n0_ n1_ n2_ n3_ n4_; clear ho hb hg hat))
     try subst hji17
     try subst hji19
     try subst hji20
     go_roundg k2
     case measure => have := HK1.out; have := HK2.out; omega
     case rel => exact ⟨(y300), (wrap64 (x24_2 + 1)), (by first | rfl | (simp; done) | (simp [*]; done)), H', ⟨by have := HK1.out; have := HK2.out; omega⟩, ⟨by (with_reducible repeat (first | apply Kd.R_alloc | apply Kd.R_drewN | apply Kd.R_drew)); exact Kd.R_mono HO_3.out (fun _ hk => hk.2)⟩, ⟨zr HO302.out⟩, ⟨by (with_reducible repeat (first | apply Kd.R_alloc | apply Kd.R_drewN | apply Kd.R_drew)); exact Kd.R_mono HO_16.out (fun _ hk => hk.2)⟩, ⟨by (with_reducible repeat (first | apply Kd.R_alloc | apply Kd.R_drewN | apply Kd.R_drew)); exact Kd.R_mono HO_22.out (fun _ hk => hk.2)⟩, ⟨zh HB.out⟩⟩
def impl_has.f (a0 : Int) (a1 : Int) : Option (Bool) := if 0 ≤ a1 then (some ((Go.bits .and .i64 (shr .i64 a0 a1) 1) == 1)) else (none)
set_option maxHeartbeats 8000000 in
set_option maxRecDepth 100000 in
theorem impl_has.calls (a0 : Int) (a1 : Int) (r : Bool) (w : World) (h : impl_has.f a0 a1 = some r) :
  Calls Tryz.prog 98 #[.int .i64 a0, .int .i64 a1] w fun e w' => e = .returned (.bool r) ∧ Drawn0 w w' := by
 have H : (if 0 ≤ a1 then (some ((Go.bits .and .i64 (shr .i64 a0 a1) 1) == 1)) else (none)) = some r := h
 clear h
 by_cases c3 : 0 ≤ a1
 rotate_left
 ·rw [if_neg c3] at H
  exact absurd H (by simp)
 rw [if_pos c3] at H
 have c3b0 := eq_true c3
 have c3b1 : decide (0 ≤ a1) = true := decide_eq_true c3
 clear c3
 obtain ⟨ji4, hji4⟩ : ∃ j_ : Int, (shr .i64 a0 a1) = j_ := ⟨_, rfl⟩
 replace H : (some ((Go.bits .and .i64 (ji4) 1) == 1)) = some r := by first | (rw [hji4] at H; exact H) | (simp only [hji4] at H ⊢; exact H)
 have hji4_ : (a0 / 2 ^ min a1.toNat 64) = ji4 := hji4
 have hji4z : a1 ≤ 64 → (a0 / 2 ^ a1.toNat) = ji4 := shr_small hji4
 obtain rfl := Option.some.inj H
 go_enter Tryz.func98, Tryz.ntmps98
 go_wp2
 go_ret
 exact ⟨by first | rfl | (simp; done) | (simp only [← hji4] <;> (first | rfl | simp)) | (simp [*]; done), by repeat (first | exact Drawn0.refl _ | apply Drawn0.step)⟩
def impl_votes_all.f (a0_0 : Int) (l0_1 : List Bool) : Option (Int) := if 0 ≤ a0_0 then (some (wrap64 ((shl .i64 1 a0_0) - 1))) else (none)
set_option maxHeartbeats 8000000 in
set_option maxRecDepth 100000 in
theorem impl_votes_all.calls (a0_0 : Int) (A0_1 : Option Addr) (c0_1 : Nat) (l0_1 : List Bool) (r : Int) (w : World) (hr0_1 : Kd.C Kd.bool w A0_1 l0_1.length l0_1) (hc0_1 : l0_1.length ≤ c0_1) (h : impl_votes_all.f a0_0 l0_1 = some r) :
  Calls Tryz.prog 99 #[.agg #[.int .i64 a0_0, .slice A0_1 l0_1.length c0_1]] w fun e w' => e = .returned (.int .i64 r) ∧ Below w.heap.size w w' := by
 have hu61 := Tryz.underlying61
 have HR0_1 := Aside0.mk hr0_1
 have HC0_1 := Aside0.mk hc0_1
 clear hr0_1 hc0_1
 have HB := Aside0.mk (Below.refl w.heap.size w)
 have H : (if 0 ≤ a0_0 then (some (wrap64 ((shl .i64 1 a0_0) - 1))) else (none)) = some r := h
 clear h
 by_cases c2 : 0 ≤ a0_0
 rotate_left
 ·rw [if_neg c2] at H
  exact absurd H (by simp)
 rw [if_pos c2] at H
 have c2b0 := eq_true c2
 have c2b1 : decide (0 ≤ a0_0) = true := decide_eq_true c2
 clear c2
 obtain ⟨ji3, hji3⟩ : ∃ j_ : Int, (shl .i64 1 a0_0) = j_ := ⟨_, rfl⟩
 replace H : (some (wrap64 ((ji3) - 1))) = some r := by first | (rw [hji3] at H; exact H) | (simp only [hji3] at H ⊢; exact H)
 have hji3_ : (IntKind.i64.wrap (1 * 2 ^ min a0_0.toNat 64)) = ji3 := hji3
 have hji3z : a0_0 ≤ 64 → (IntKind.i64.wrap (1 * 2 ^ a0_0.toNat)) = ji3 := shl_small hji3
 have hji3u : (IntKind.i64.wrap (2 ^ min a0_0.toNat 64)) = ji3 := by have h_ := hji3_; rw [Int.one_mul] at h_; exact h_
 have hji3v : a0_0 ≤ 64 → (IntKind.i64.wrap (2 ^ a0_0.toNat)) = ji3 := fun hle_ => by have h_ := hji3z hle_; rw [Int.one_mul] at h_; exact h_
 have hji3y : (wrap64 (1 * 2 ^ min a0_0.toNat 64)) = ji3 := (i64_w _).symm.trans hji3_
 have hji3x : a0_0 ≤ 64 → (wrap64 (1 * 2 ^ a0_0.toNat)) = ji3 := fun h_ => (i64_w _).symm.trans (hji3z h_)
 obtain rfl := Option.some.inj H
 go_enter Tryz.func99, Tryz.ntmps99
 go_wp2_with (first | ((with_reducible refine gate_dst (N := 1) rfl ?_); refine zq 1 #[.int .i64 a0_0, .slice A0_1 l0_1.length c0_1] 61 ?_; intro gb303 hg w4 hbox hb; have n2_ := Aside0.mk ((by rw [hg]; exact (below_size (zh HB.out)) : w.heap.size ≤ gb303)); replace HB := Aside0.mk (below_step (zh HB.out) hb); have BK303 := Aside0.mk hbox; have GW303 := n2_; have GE303 := n2_; clear n2_ hb hbox hg; have hcz5_0 : w4.cell? ⟨gb303, 0, none⟩ = some (.int .i64 a0_0) := (blk_cell BK303.out 0).trans rfl; have hcz5_1 : w4.cell? ⟨gb303, 1, none⟩ = some (.slice A0_1 l0_1.length c0_1) := (blk_cell BK303.out 1).trans rfl; have hfz5_0 := blk_frozen BK303.out 0; have hfz5_1 := blk_frozen BK303.out 1))
 go_ret
 exact ⟨by first | rfl | (simp [errW_none, errW_some] <;> rfl) | (simp only [← hji3]; first | rfl | (simp [errW_none, errW_some] <;> rfl)) | (simp [*, errW_none, errW_some] <;> rfl), zh HB.out⟩
def impl_setOf.l0 : Nat → Int → List Int → Int → Option (List Int)
 | 0, _, _, _ => none
 | k + 1, x0, x3, x4 => if 0 ≤ x4 then (if (shr .i64 x0 x4) > 0 then (if (Go.bits .and .i64 (shr .i64 x0 x4) 1) = 1 then (if x3.length < 17592186044416 then (impl_setOf.l0 k x0 (x3 ++ [x4]) (wrap64 (x4 + 1))) else (none)) else (impl_setOf.l0 k x0 x3 (wrap64 (x4 + 1)))) else (some x3)) else (none)
def impl_setOf.f (k : Nat) (a0 : Int) : Option (List Int) := impl_setOf.l0 k a0 (([] : List Int)) 0
theorem impl_setOf.mono_l : ∀ k, (∀ y0 y1 y2, LeO (impl_setOf.l0 k y0 y1 y2) (impl_setOf.l0 (k + 1) y0 y1 y2))
 | 0 => fun _ _ _ r h => by simp [impl_setOf.l0] at h
 | k + 1 => by
  have ih0 := impl_setOf.mono_l k
  ·intro y0 y1 y2
   unfold impl_setOf.l0
   repeat' first
   | (with_reducible exact ih0 _ _ _)
   | (with_reducible exact LeO.refl _)
   | (with_reducible exact LeO.none _)
   | (with_reducible refine LeO.ite ?_ ?_)
   | (with_reducible refine LeO.bind ?_ (fun _ => ?_))
   | exact ih0 _ _ _
   | exact LeO.none _
   | refine LeO.ite ?_ ?_
   | refine LeO.bind ?_ (fun _ => ?_)
theorem impl_setOf.mono : ∀ a0 k, LeO (impl_setOf.f k a0) (impl_setOf.f (k + 1) a0) := by
 intro a0 k
 have ih0 := impl_setOf.mono_l k
 unfold impl_setOf.f
 repeat' first
   | (with_reducible exact ih0 _ _ _)
   | (with_reducible exact LeO.refl _)
   | (with_reducible exact LeO.none _)
   | (with_reducible refine LeO.ite ?_ ?_)
   | (with_reducible refine LeO.bind ?_ (fun _ => ?_))
   | exact ih0 _ _ _
   | exact LeO.none _
   | refine LeO.ite ?_ ?_
   | refine LeO.bind ?_ (fun _ => ?_)
set_option maxHeartbeats 8000000 in
set_option maxRecDepth 100000 in
theorem impl_setOf.calls (k : Nat) (a0 : Int) (r : List Int) (w : World) (h : impl_setOf.f k a0 = some r) :
  Calls Tryz.prog 158 #[.int .i64 a0] w fun e w' => ∃ v0_ : Value, e = .returned (v0_) ∧ Kd.R (Kd.int .i64) 3 w' w.heap.size (fun _ => True) v0_ r ∧ Below w.heap.size w w' := by
 have HB := Aside0.mk (Below.refl w.heap.size w)
 have H : (impl_setOf.l0 k a0 (([] : List Int)) 0) = some r := h
 clear h
 obtain ⟨y304, hy304⟩ : ∃ y_ : List Int, y_ = (([] : List Int)) := ⟨_, rfl⟩
 replace H : (impl_setOf.l0 k a0 y304 0) = some r := by first | (rw [hy304]; with_reducible exact H) | (have H2_ := (Option.bind_some _ _).symm.trans H; rw [hy304]; with_reducible exact H2_) | (have H2_ := (Option.bind_some _ _).symm.trans H; with_reducible exact H2_) | with_reducible exact H | (rw [hy304]; exact H) | exact H
 have Ny304 := Aside0.mk hy304
 clear hy304
 have H' := Aside0.mk H
 clear H
 go_enter Tryz.func158, Tryz.ntmps158
 go_wp2_with (first | ((with_reducible refine gate_dst (N := 5) rfl ?_); refine Kd.R_lit (Kd.int .i64) _ 3 ?hg (N := 5) ?hd (xs := ([] : List Int)) (inner := []) (ok := fun _ => True) (okp := fun _ => True) ?hr ?hp (fun _ hk => hk) trivial (Below.refl _ _) (Nat.le_refl _) (by simp) ?_; (case hd => rfl); (case hg => rfl); (case hr => first | (go_simp; done) | (go_simp; rfl)); (case hp => exact (Reps.none _ _)); intro v305 w2 ho3 hb hg_ hnew_; clear hg_ hnew_; (first | rw [← Ny304.out] at ho3 | (simp only [Int.reduceToNat] at ho3; rw [← Ny304.out] at ho3)); have n0_ := Aside0.mk (Kd.R_lower ho3 (below_size (zh HB.out))); have n1_ := Aside0.mk (below_step (zh HB.out) hb); clear HB; have HO306 := n0_; have HB := n1_; clear n0_ n1_; clear hb ho3))
 go_loopg [3, 4] k (fun kq v3 v4 w' => ∃ (x3_1 : List Int) (x4_1 : Int), v4 = .int .i64 x4_1 ∧ Aside0 (impl_setOf.l0 kq a0 x3_1 x4_1 = some r) ∧ Aside0 (kq ≤ k) ∧ Aside0 (Kd.R (Kd.int .i64) 3 w' w.heap.size (fun _ => True) v3 x3_1) ∧ Aside0 (Below w.heap.size w w'))
 case atStart => exact ⟨(y304), (0), (by first | rfl | (simp; done) | (simp [*]; done)), H', ⟨Nat.le_refl _⟩, ⟨zr HO306.out⟩, ⟨zh HB.out⟩⟩
 case round =>
  clear H'
  try clear c1
  try clear p2
  obtain ⟨x3_1, x4_1, rfl, HA, HK1, HO_3, HB⟩ := hrel
  cases gk with
  | zero => exact absurd HA.out (by simp [impl_setOf.l0])
  | succ k1 =>
   have H := HA.out
   clear HA
   simp only [impl_setOf.l0] at H
   by_cases c4 : 0 ≤ x4_1
   rotate_left
   ·rw [if_neg c4] at H
    exact absurd H (by simp)
   rw [if_pos c4] at H
   have c4b0 := eq_true c4
   have c4b1 : decide (0 ≤ x4_1) = true := decide_eq_true c4
   clear c4
   obtain ⟨ji5, hji5⟩ : ∃ j_ : Int, (shr .i64 a0 x4_1) = j_ := ⟨_, rfl⟩
   replace H : (if (ji5) > 0 then (if (Go.bits .and .i64 (ji5) 1) = 1 then (if x3_1.length < 17592186044416 then (impl_setOf.l0 k1 a0 (x3_1 ++ [x4_1]) (wrap64 (x4_1 + 1))) else (none)) else (impl_setOf.l0 k1 a0 x3_1 (wrap64 (x4_1 + 1)))) else (some x3_1)) = some r := by first | (rw [hji5] at H; exact H) | (simp only [hji5] at H ⊢; exact H)
   have hji5_ : (a0 / 2 ^ min x4_1.toNat 64) = ji5 := hji5
   have hji5z : x4_1 ≤ 64 → (a0 / 2 ^ x4_1.toNat) = ji5 := shr_small hji5
   by_cases c6 : (ji5) > 0
   rotate_left
   ·rw [if_neg c6] at H
    have c6b0 : decide (0 < (ji5)) = false := decide_eq_false c6
    clear c6
    obtain rfl := Option.some.inj H
    go_wp2
    go_ret
    exact ⟨_, by first | rfl | (simp [errW_none, errW_some] <;> rfl) | (simp only [← hji5]; first | rfl | (simp [errW_none, errW_some] <;> rfl)) | (simp [*, errW_none, errW_some] <;> rfl), by (with_reducible repeat (first | apply Kd.R_alloc | apply Kd.R_drewN | apply Kd.R_drew)); exact HO_3.out, zh HB.out⟩
   rw [if_pos c6] at H
   have c6b0 : decide (0 < (ji5)) = true := decide_eq_true c6
   clear c6
   have c7b0 := eq_true (zk : 0 ≤ x4_1)
   by_cases c8 : (Go.bits .and .i64 (ji5) 1) = 1
   rotate_left
   ·rw [if_neg c8] at H
    have c8b0 : ((Go.bits .and .i64 (ji5) 1) == 1) = false := beq_eq_false_iff_ne.mpr c8
    have c8b1 : ((Go.bits .and .i64 (ji5) 1) != 1) = true := bne_iff_ne.mpr c8
    have H' := Aside0.mk H
    clear H
    go_wp2
    go_roundg k1
    case measure => have := HK1.out; omega
    case rel => exact ⟨(x3_1), (wrap64 (x4_1 + 1)), (by first | rfl | (simp; done) | (simp [*]; done)), H', ⟨by have := HK1.out; omega⟩, ⟨zr HO_3.out⟩, ⟨zh HB.out⟩⟩
   rw [if_pos c8] at H
   have c8b0 : ((Go.bits .and .i64 (ji5) 1) == 1) = true := beq_iff_eq.mpr c8
   have c8b1 : ((Go.bits .and .i64 (ji5) 1) != 1) = false := bne_eq_false_iff_eq.mpr c8
   clear c8
   by_cases c9 : x3_1.length < 17592186044416
   rotate_left
   ·rw [if_neg c9] at H
    exact absurd H (by simp)
   rw [if_pos c9] at H
   have LMc9 := Aside0.mk c9
   clear c9
   obtain ⟨y307, hy307⟩ : ∃ y_ : List Int, y_ = (x3_1 ++ [x4_1]) := ⟨_, rfl⟩
   replace H : (impl_setOf.l0 k1 a0 y307 (wrap64 (x4_1 + 1))) = some r := by first | (rw [hy307]; with_reducible exact H) | (have H2_ := (Option.bind_some _ _).symm.trans H; rw [hy307]; with_reducible exact H2_) | (have H2_ := (Option.bind_some _ _).symm.trans H; with_reducible exact H2_) | with_reducible exact H | (rw [hy307]; exact H) | exact H
   have Ny307 := Aside0.mk hy307
   clear hy307
   have H' := Aside0.mk H
   clear H
   go_wp2_with (first | ((with_reducible refine gate_builtin (b := .append) (xs := #[.tmp 17, .tmp 19]) rfl ?_); at_builtin; refine Kd.R_append (Kd.int .i64) (w0 := w) w.heap.size rfl (.tmp 17) (.tmp 19) 65 3 (.int .i64 0) 8 rfl Tryz.underlying65 info3 rfl (by decide) (by omega) u3 x3_1 x4_1 [.int .i64 x4_1] (fun _ => True) (fun _ => False) rfl rfl ?aP (fun _ hk => hk.elim) ?aF ?aO ?aB ?aS ?aL ?_; (case aP => exact rfl); (case aB => exact (zh HB.out)); (case aF => exact (fun _ _ => trivial)); (case aO => exact (zr HO_3.out)); (case aS => exact (below_size (zh HB.out))); (case aL => have := LMc9.out; omega); intro v308 w10 ho hb hg hat; rw [← Ny307.out] at ho; have n0_ := Aside0.mk (hb); have n1_ := Aside0.mk (ho); clear HB; clear HO_3; have HB := n0_; have HO309 := n1_; clear n0_ n1_; clear ho hb hg hat))
   go_roundg k1
   case measure => have := HK1.out; omega
   case rel => exact ⟨(y307), (wrap64 (x4_1 + 1)), (by first | rfl | (simp; done) | (simp [*]; done)), H', ⟨by have := HK1.out; omega⟩, ⟨zr HO309.out⟩, ⟨zh HB.out⟩⟩
end Go.Proofs.YtmbkmabpebjboaaGreat.Q
end
section
namespace Go.Proofs.YtmbkmabpebjboaaGreat.Q
open Go.RowKit Go.Proofs.YtmbkmabpebjboaaGreatW.PrintWords Go.Proofs.YtmbkmabpebjboaaGreatW.PrintLast Go.Proofs.YtmbkmabpebjboaaGreatW.PrintMore
set_option linter.unusedVariables false
set_option linter.unusedSimpArgs false
theorem zs {α : Type} {d : Kd α} {e base : Nat} {W : World} {ok : Nat → Prop} {v : Value} {xs : List α} (o : Obj) (h : Kd.S d e W base ok v xs) : Kd.S d e (W.alloc o) base ok v xs := Kd.S_alloc h o
def lexB : List Int → List Int → Bool
  | [], [] => false
  | [], _ :: _ => true
  | _ :: _, [] => false
  | x :: xs, y :: ys => if x = y then lexB xs ys else decide (x < y)
def cmpL : List Int → List Int → Int
  | [], [] => 0
  | [], _ :: _ => -1
  | _ :: _, [] => 1
  | x :: xs, y :: ys => if x = y then cmpL xs ys else if x < y then -1 else 1
theorem cmpL_ge : ∀ a b, decide (cmpL a b ≥ 0) = !lexB a b
  | [], [] => rfl
  | [], _ :: _ => rfl
  | _ :: _, [] => rfl
  | x :: xs, y :: ys => by
    unfold cmpL lexB
    by_cases h : x = y
    · rw [if_pos h, if_pos h]; exact cmpL_ge xs ys
    · rw [if_neg h, if_neg h]
      by_cases h2 : x < y
      · rw [if_pos h2, decide_eq_true h2]; rfl
      · rw [if_neg h2, decide_eq_false h2]; rfl
theorem lexB_drop_nil (a b : List Int) : lexB [] (b.drop a.length) = decide ((a.length : Int) < (b.length : Int)) := by
  by_cases h : a.length < b.length
  · rw [List.drop_eq_getElem_cons h, decide_eq_true (by omega)]; rfl
  · rw [List.drop_of_length_le (by omega), decide_eq_false (by omega)]; rfl
theorem lexB_cons_nil (a b : List Int) (i : Nat) (h : i < a.length) (h2 : ¬ i < b.length) : lexB (a.drop i) (b.drop i) = decide ((a.length : Int) < (b.length : Int)) := by
  have hb : b.drop i = [] := List.drop_of_length_le (by omega)
  rw [List.drop_eq_getElem_cons h, hb, decide_eq_false (by omega)]; rfl
theorem lexB_irrefl : ∀ a, lexB a a = false
  | [] => rfl
  | x :: xs => by rw [lexB, if_pos rfl]; exact lexB_irrefl xs
theorem lexB_trans : ∀ a b c, lexB a b = true → lexB b c = true → lexB a c = true
  | [], [], _, h, _ => by cases h
  | [], _ :: _, [], _, h => by cases h
  | [], _ :: _, _ :: _, _, _ => rfl
  | _ :: _, [], _, h, _ => by cases h
  | _ :: _, _ :: _, [], _, h => by cases h
  | x :: xs, y :: ys, z :: zs, h1, h2 => by
    rw [lexB] at h1 h2 ⊢
    by_cases e1 : x = y
    · subst e1
      rw [if_pos rfl] at h1
      by_cases e2 : x = z
      · subst e2
        rw [if_pos rfl] at h2 ⊢
        exact lexB_trans xs ys zs h1 h2
      · rw [if_neg e2] at h2 ⊢; exact h2
    · rw [if_neg e1, decide_eq_true_eq] at h1
      by_cases e2 : y = z
      · subst e2
        rw [if_neg e1, decide_eq_true_eq]; exact h1
      · rw [if_neg e2, decide_eq_true_eq] at h2
        rw [if_neg (by omega), decide_eq_true_eq]; omega
theorem lexB_total : ∀ a b, lexB a b = false → lexB b a = false → a = b
  | [], [], _, _ => rfl
  | [], _ :: _, h, _ => by cases h
  | _ :: _, [], _, h => by cases h
  | x :: xs, y :: ys, h1, h2 => by
    rw [lexB] at h1 h2
    by_cases e : x = y
    · subst e
      rw [if_pos rfl] at h1 h2
      rw [lexB_total xs ys h1 h2]
    · rw [if_neg e, decide_eq_false_iff_not] at h1
      rw [if_neg (fun q => e q.symm), decide_eq_false_iff_not] at h2
      omega
theorem lexB_asymm {a b : List Int} (h : lexB a b = true) : lexB b a = false := by
  cases h2 : lexB b a
  · rfl
  · have := lexB_trans _ _ _ h h2
    rw [lexB_irrefl] at this; cases this
theorem lexB_ntrans (a b c : List Int) (h1 : lexB a b = false) (h2 : lexB b c = false) : lexB a c = false := by
  cases h3 : lexB a c
  · rfl
  · cases h4 : lexB b a
    · have := lexB_total a b h1 h4
      subst this
      rw [h2] at h3; cases h3
    · rw [lexB_trans _ _ _ h4 h3] at h2; cases h2
theorem cmpL_lt : ∀ a b, decide (cmpL a b < 0) = lexB a b
  | [], [] => rfl
  | [], _ :: _ => rfl
  | _ :: _, [] => rfl
  | x :: xs, y :: ys => by
    unfold cmpL lexB
    by_cases h : x = y
    · rw [if_pos h, if_pos h]; exact cmpL_lt xs ys
    · rw [if_neg h, if_neg h]
      by_cases h2 : x < y
      · rw [if_pos h2, decide_eq_true h2]; rfl
      · rw [if_neg h2, decide_eq_false h2]; rfl
def inB (n lo hi : Int) : Bool := decide (lo ≤ n) && decide (n ≤ hi)
theorem shl_one (n : Int) (h : 0 ≤ n ∧ n ≤ 16) : shl .i64 1 n = 2 ^ n.toNat := by
  obtain ⟨m, rfl⟩ := Int.eq_ofNat_of_zero_le h.1
  have hm : m ≤ 16 := by omega
  have : ∀ m : Nat, m ≤ 16 → shl .i64 1 (m : Int) = 2 ^ (m : Int).toNat := by decide
  exact this m hm
theorem pow_le16 (n : Int) (h : 0 ≤ n ∧ n ≤ 16) : 1 ≤ (2 : Int) ^ n.toNat ∧ (2 : Int) ^ n.toNat ≤ 65536 := by
  obtain ⟨m, rfl⟩ := Int.eq_ofNat_of_zero_le h.1
  have hm : m ≤ 16 := by omega
  have : ∀ m : Nat, m ≤ 16 → 1 ≤ (2 : Int) ^ (m : Int).toNat ∧ (2 : Int) ^ (m : Int).toNat ≤ 65536 := by decide
  exact this m hm
theorem wrap64_id {x : Int} (h : -9223372036854775808 ≤ x ∧ x ≤ 9223372036854775807) : wrap64 x = x := by unfold wrap64; omega
theorem all_bits (n : Int) (h : 0 ≤ n ∧ n ≤ 16) : wrap64 (shl .i64 1 n - 1) = 2 ^ n.toNat - 1 := by
  rw [shl_one n h]
  have := pow_le16 n h
  exact wrap64_id (by omega)
theorem within_eq (n lo hi : Int) : impl_within.f n lo hi = some (inB n lo hi) := by
  unfold impl_within.f inB
  split <;> simp_all <;> omega
theorem l1In_eq (n lo hi : Int) : spec_l1In.f n lo hi = some (inB n lo hi) := by
  unfold spec_l1In.f inB
  split <;> simp_all <;> omega
theorem voAll_eq (n : Int) (h : 0 ≤ n ∧ n ≤ 16) : spec_voAll.f n = some (2 ^ n.toNat - 1) := by
  unfold spec_voAll.f
  rw [if_pos h.1, all_bits n h]
theorem inB_iff {n lo hi : Int} : inB n lo hi = true ↔ lo ≤ n ∧ n ≤ hi := by unfold inB; simp
end Go.Proofs.YtmbkmabpebjboaaGreat.Q
end
section
namespace Go.Proofs.YtmbkmabpebjboaaGreat.Q
open Go.RowKit Go.Proofs.YtmbkmabpebjboaaGreatW.PrintWords Go.Proofs.YtmbkmabpebjboaaGreatW.PrintLast Go.Proofs.YtmbkmabpebjboaaGreatW.PrintMore
attribute [local go_sem] max2_int min2_int max_two min_two max_three min_three max_four min_four
set_option linter.unusedVariables false
set_option linter.unusedSimpArgs false
def impl_votes_isLeast.l0 : Nat → Int → Int → Int → Int → List Bool → Option (Bool)
 | 0, _, _, _, _, _ => none
 | k + 1, x1, x13, x14, x324000, x324001 => if x14 < x13 then ((impl_has.f x1 x14).bind fun t325 => (if t325 = true then (if 0 ≤ x14 then (if 0 ≤ (Go.bits .andNot .i64 x1 (shl .i64 1 x14)) then (if (Go.bits .andNot .i64 x1 (shl .i64 1 x14)) < (x324001.length : Int) then (if rdOf false x324001 (Go.bits .andNot .i64 x1 (shl .i64 1 x14)) = true then (some false) else (impl_votes_isLeast.l0 k x1 x13 (wrap64 (x14 + 1)) x324000 x324001)) else (none)) else (none)) else (none)) else (impl_votes_isLeast.l0 k x1 x13 (wrap64 (x14 + 1)) x324000 x324001))) else (some true)
def impl_votes_isLeast.f (k : Nat) (a0_0 : Int) (l0_1 : List Bool) (a1 : Int) : Option (Bool) := if 0 ≤ a1 then (if a1 < (l0_1.length : Int) then (if rdOf false l0_1 a1 = true then (impl_votes_isLeast.l0 k a1 a0_0 0 a0_0 l0_1) else (some false)) else (none)) else (none)
theorem impl_votes_isLeast.mono_l : ∀ k, (∀ y0 y1 y2 y3 y4, LeO (impl_votes_isLeast.l0 k y0 y1 y2 y3 y4) (impl_votes_isLeast.l0 (k + 1) y0 y1 y2 y3 y4))
 | 0 => fun _ _ _ _ _ r h => by simp [impl_votes_isLeast.l0] at h
 | k + 1 => by
  have ih0 := impl_votes_isLeast.mono_l k
  ·intro y0 y1 y2 y3 y4
   unfold impl_votes_isLeast.l0
   repeat' first
   | (with_reducible exact ih0 _ _ _ _ _)
   | (with_reducible exact LeO.refl _)
   | (with_reducible exact LeO.none _)
   | (with_reducible refine LeO.ite ?_ ?_)
   | (with_reducible refine LeO.bind ?_ (fun _ => ?_))
   | exact ih0 _ _ _ _ _
   | exact LeO.none _
   | refine LeO.ite ?_ ?_
   | refine LeO.bind ?_ (fun _ => ?_)
theorem impl_votes_isLeast.mono : ∀ a0 a1 a2 k, LeO (impl_votes_isLeast.f k a0 a1 a2) (impl_votes_isLeast.f (k + 1) a0 a1 a2) := by
 intro a0 a1 a2 k
 have ih0 := impl_votes_isLeast.mono_l k
 unfold impl_votes_isLeast.f
 repeat' first
   | (with_reducible exact ih0 _ _ _ _ _)
   | (with_reducible exact LeO.refl _)
   | (with_reducible exact LeO.none _)
   | (with_reducible refine LeO.ite ?_ ?_)
   | (with_reducible refine LeO.bind ?_ (fun _ => ?_))
   | exact ih0 _ _ _ _ _
   | exact LeO.none _
   | refine LeO.ite ?_ ?_
   | refine LeO.bind ?_ (fun _ => ?_)
set_option maxHeartbeats 8000000 in
set_option maxRecDepth 100000 in
theorem impl_votes_isLeast.calls (k : Nat) (a0_0 : Int) (A0_1 : Option Addr) (c0_1 : Nat) (l0_1 : List Bool) (a1 : Int) (r : Bool) (w : World) (hr0_1 : Kd.C Kd.bool w A0_1 l0_1.length l0_1) (hc0_1 : l0_1.length ≤ c0_1) (h : impl_votes_isLeast.f k a0_0 l0_1 a1 = some r) :
  Calls Tryz.prog 145 #[.agg #[.int .i64 a0_0, .slice A0_1 l0_1.length c0_1], .int .i64 a1] w fun e w' => e = .returned (.bool r) ∧ Below w.heap.size w w' := by
 have hu61 := Tryz.underlying61
 have HR0_1 := Aside0.mk hr0_1
 have HC0_1 := Aside0.mk hc0_1
 clear hr0_1 hc0_1
 have HB := Aside0.mk (Below.refl w.heap.size w)
 have H : (if 0 ≤ a1 then (if a1 < (l0_1.length : Int) then (if rdOf false l0_1 a1 = true then (impl_votes_isLeast.l0 k a1 a0_0 0 a0_0 l0_1) else (some false)) else (none)) else (none)) = some r := h
 clear h
 by_cases c3 : 0 ≤ a1
 rotate_left
 ·rw [if_neg c3] at H
  exact absurd H (by simp)
 rw [if_pos c3] at H
 have c3b0 : decide (0 ≤ a1) = true := decide_eq_true c3
 clear c3
 by_cases c4 : a1 < (l0_1.length : Int)
 rotate_left
 ·rw [if_neg c4] at H
  exact absurd H (by simp)
 rw [if_pos c4] at H
 have c4b0 : decide (a1 < (l0_1.length : Int)) = true := decide_eq_true c4
 clear c4
 obtain ⟨bq5, hbq5⟩ : ∃ b_ : Bool, b_ = (rdOf false l0_1 a1) := ⟨_, rfl⟩
 replace H : (if bq5 = true then (impl_votes_isLeast.l0 k a1 a0_0 0 a0_0 l0_1) else (some false)) = some r := by rw [← hbq5] at H; exact H
 have Nbq5 := Aside0.mk hbq5
 clear hbq5
 by_cases c6 : bq5 = true
 rotate_left
 ·replace c6 := Bool.eq_false_iff.mpr c6
  subst c6
  have H1 : (some false) = some r := by rw [if_neg (show ¬ (false = true) by decide)] at H; exact H
  clear H
  have H := H1
  clear H1
  obtain rfl := Option.some.inj H
  go_enter Tryz.func145, Tryz.ntmps145
  go_wp2_with (first | ((with_reducible refine gate_dst (N := 2) rfl ?_); refine zq 2 #[.int .i64 a0_0, .slice A0_1 l0_1.length c0_1] 61 ?_; intro gb323 hg w20 hbox hb; have n2_ := Aside0.mk ((by rw [hg]; exact (below_size (zh HB.out)) : w.heap.size ≤ gb323)); replace HB := Aside0.mk (below_step (zh HB.out) hb); have BK323 := Aside0.mk hbox; have GW323 := n2_; have GE323 := n2_; clear n2_ hb hbox hg; have hcz21_0 : w20.cell? ⟨gb323, 0, none⟩ = some (.int .i64 a0_0) := (blk_cell BK323.out 0).trans rfl; have hcz21_1 : w20.cell? ⟨gb323, 1, none⟩ = some (.slice A0_1 l0_1.length c0_1) := (blk_cell BK323.out 1).trans rfl; have hfz21_0 := blk_frozen BK323.out 0; have hfz21_1 := blk_frozen BK323.out 1; have p324 : 0 ≤ (a1 : Int) := zk; have q324 : a1 < (l0_1.length : Int) := zk; obtain ⟨ad324, e324, hx324_0⟩ := Kd.at_bool HR0_1.out a1 p324 q324; (try rw [← Nbq5.out] at hx324_0); cases e324; replace hx324_0 := zx HB.out hx324_0; replace p324 := eq_true p324; replace q324 := eq_true q324))
  repeat (go_quiet (first | ((with_reducible refine gate_dst (N := 2) rfl ?_); refine zq 2 #[.int .i64 a0_0, .slice A0_1 l0_1.length c0_1] 61 ?_; intro gb323 hg w20 hbox hb; have n2_ := Aside0.mk ((by rw [hg]; exact (below_size (zh HB.out)) : w.heap.size ≤ gb323)); replace HB := Aside0.mk (below_step (zh HB.out) hb); have BK323 := Aside0.mk hbox; have GW323 := n2_; have GE323 := n2_; clear n2_ hb hbox hg; have hcz21_0 : w20.cell? ⟨gb323, 0, none⟩ = some (.int .i64 a0_0) := (blk_cell BK323.out 0).trans rfl; have hcz21_1 : w20.cell? ⟨gb323, 1, none⟩ = some (.slice A0_1 l0_1.length c0_1) := (blk_cell BK323.out 1).trans rfl; have hfz21_0 := blk_frozen BK323.out 0; have hfz21_1 := blk_frozen BK323.out 1; have p324 : 0 ≤ (a1 : Int) := zk; have q324 : a1 < (l0_1.length : Int) := zk; obtain ⟨ad324, e324, hx324_0⟩ := Kd.at_bool HR0_1.out a1 p324 q324; (try rw [← Nbq5.out] at hx324_0); cases e324; replace hx324_0 := zx HB.out hx324_0; replace p324 := eq_true p324; replace q324 := eq_true q324)); try go_wp2_with (first | ((with_reducible refine gate_dst (N := 2) rfl ?_); refine zq 2 #[.int .i64 a0_0, .slice A0_1 l0_1.length c0_1] 61 ?_; intro gb323 hg w20 hbox hb; have n2_ := Aside0.mk ((by rw [hg]; exact (below_size (zh HB.out)) : w.heap.size ≤ gb323)); replace HB := Aside0.mk (below_step (zh HB.out) hb); have BK323 := Aside0.mk hbox; have GW323 := n2_; have GE323 := n2_; clear n2_ hb hbox hg; have hcz21_0 : w20.cell? ⟨gb323, 0, none⟩ = some (.int .i64 a0_0) := (blk_cell BK323.out 0).trans rfl; have hcz21_1 : w20.cell? ⟨gb323, 1, none⟩ = some (.slice A0_1 l0_1.length c0_1) := (blk_cell BK323.out 1).trans rfl; have hfz21_0 := blk_frozen BK323.out 0; have hfz21_1 := blk_frozen BK323.out 1; have p324 : 0 ≤ (a1 : Int) := zk; have q324 : a1 < (l0_1.length : Int) := zk; obtain ⟨ad324, e324, hx324_0⟩ := Kd.at_bool HR0_1.out a1 p324 q324; (try rw [← Nbq5.out] at hx324_0); cases e324; replace hx324_0 := zx HB.out hx324_0; replace p324 := eq_true p324; replace q324 := eq_true q324)))
  go_ret
  exact ⟨by first | rfl | (simp [*, errW_none, errW_some] <;> rfl), zh HB.out⟩
 subst c6
 have H1 : (impl_votes_isLeast.l0 k a1 a0_0 0 a0_0 l0_1) = some r := by rw [if_pos rfl] at H; exact H
 clear H
 have H := H1
 clear H1
 have H' := Aside0.mk H
 clear H
 go_enter Tryz.func145, Tryz.ntmps145
 go_wp2_with (first | ((with_reducible refine gate_dst (N := 2) rfl ?_); refine zq 2 #[.int .i64 a0_0, .slice A0_1 l0_1.length c0_1] 61 ?_; intro gb323 hg w7 hbox hb; have n2_ := Aside0.mk ((by rw [hg]; exact (below_size (zh HB.out)) : w.heap.size ≤ gb323)); replace HB := Aside0.mk (below_step (zh HB.out) hb); have BK323 := Aside0.mk hbox; have GW323 := n2_; have GE323 := n2_; clear n2_ hb hbox hg; have hcz8_0 : w7.cell? ⟨gb323, 0, none⟩ = some (.int .i64 a0_0) := (blk_cell BK323.out 0).trans rfl; have hcz8_1 : w7.cell? ⟨gb323, 1, none⟩ = some (.slice A0_1 l0_1.length c0_1) := (blk_cell BK323.out 1).trans rfl; have hfz8_0 := blk_frozen BK323.out 0; have hfz8_1 := blk_frozen BK323.out 1; have p324 : 0 ≤ (a1 : Int) := zk; have q324 : a1 < (l0_1.length : Int) := zk; obtain ⟨ad324, e324, hx324_0⟩ := Kd.at_bool HR0_1.out a1 p324 q324; (try rw [← Nbq5.out] at hx324_0); cases e324; replace hx324_0 := zx HB.out hx324_0; replace p324 := eq_true p324; replace q324 := eq_true q324))
 repeat (go_quiet (first | ((with_reducible refine gate_dst (N := 2) rfl ?_); refine zq 2 #[.int .i64 a0_0, .slice A0_1 l0_1.length c0_1] 61 ?_; intro gb323 hg w7 hbox hb; have n2_ := Aside0.mk ((by rw [hg]; exact (below_size (zh HB.out)) : w.heap.size ≤ gb323)); replace HB := Aside0.mk (below_step (zh HB.out) hb); have BK323 := Aside0.mk hbox; have GW323 := n2_; have GE323 := n2_; clear n2_ hb hbox hg; have hcz8_0 : w7.cell? ⟨gb323, 0, none⟩ = some (.int .i64 a0_0) := (blk_cell BK323.out 0).trans rfl; have hcz8_1 : w7.cell? ⟨gb323, 1, none⟩ = some (.slice A0_1 l0_1.length c0_1) := (blk_cell BK323.out 1).trans rfl; have hfz8_0 := blk_frozen BK323.out 0; have hfz8_1 := blk_frozen BK323.out 1; have p324 : 0 ≤ (a1 : Int) := zk; have q324 : a1 < (l0_1.length : Int) := zk; obtain ⟨ad324, e324, hx324_0⟩ := Kd.at_bool HR0_1.out a1 p324 q324; (try rw [← Nbq5.out] at hx324_0); cases e324; replace hx324_0 := zx HB.out hx324_0; replace p324 := eq_true p324; replace q324 := eq_true q324)); try go_wp2_with (first | ((with_reducible refine gate_dst (N := 2) rfl ?_); refine zq 2 #[.int .i64 a0_0, .slice A0_1 l0_1.length c0_1] 61 ?_; intro gb323 hg w7 hbox hb; have n2_ := Aside0.mk ((by rw [hg]; exact (below_size (zh HB.out)) : w.heap.size ≤ gb323)); replace HB := Aside0.mk (below_step (zh HB.out) hb); have BK323 := Aside0.mk hbox; have GW323 := n2_; have GE323 := n2_; clear n2_ hb hbox hg; have hcz8_0 : w7.cell? ⟨gb323, 0, none⟩ = some (.int .i64 a0_0) := (blk_cell BK323.out 0).trans rfl; have hcz8_1 : w7.cell? ⟨gb323, 1, none⟩ = some (.slice A0_1 l0_1.length c0_1) := (blk_cell BK323.out 1).trans rfl; have hfz8_0 := blk_frozen BK323.out 0; have hfz8_1 := blk_frozen BK323.out 1; have p324 : 0 ≤ (a1 : Int) := zk; have q324 : a1 < (l0_1.length : Int) := zk; obtain ⟨ad324, e324, hx324_0⟩ := Kd.at_bool HR0_1.out a1 p324 q324; (try rw [← Nbq5.out] at hx324_0); cases e324; replace hx324_0 := zx HB.out hx324_0; replace p324 := eq_true p324; replace q324 := eq_true q324)))
 go_loopg [14] k (fun kq v14 w' => ∃ (x14_1 : Int), v14 = .int .i64 x14_1 ∧ Aside0 (impl_votes_isLeast.l0 kq a1 a0_0 x14_1 a0_0 l0_1 = some r) ∧ Aside0 (kq ≤ k) ∧ Aside0 (w'.heap[gb323]? = some (.cells #[.int .i64 a0_0, (.slice (some ad324) l0_1.length c0_1)] 61 (0, 0))) ∧ Aside0 (Below w.heap.size w w'))
 case atStart => exact ⟨(0), (by first | rfl | (simp; done) | (simp [*]; done)), H', ⟨Nat.le_refl _⟩, ⟨zb BK323.out⟩, ⟨zh HB.out⟩⟩
 case round =>
  clear H'
  try clear c1
  try clear p2
  try clear c3
  try clear c3b0
  try clear p3
  try clear q3
  try clear hx3
  try clear c4
  try clear c4b0
  try clear q5
  try clear c6
  try clear hcz8_0
  try clear hcz8_1
  try clear hfz8_0
  try clear hfz8_1
  try clear hx324_0
  try clear p324
  try clear q324
  obtain ⟨x14_1, rfl, HA, HK1, BK323, HB⟩ := hrel
  cases gk with
  | zero => exact absurd HA.out (by simp [impl_votes_isLeast.l0])
  | succ k1 =>
   have H := HA.out
   clear HA
   simp only [impl_votes_isLeast.l0] at H
   by_cases c9 : x14_1 < a0_0
   rotate_left
   ·rw [if_neg c9] at H
    have c9b0 : decide (x14_1 < a0_0) = false := decide_eq_false c9
    clear c9
    obtain rfl := Option.some.inj H
    go_wp2
    repeat (go_quiet (fail); try go_wp2)
    go_ret
    exact ⟨by first | rfl | (simp [*, errW_none, errW_some] <;> rfl), zh HB.out⟩
   rw [if_pos c9] at H
   have c9b0 : decide (x14_1 < a0_0) = true := decide_eq_true c9
   clear c9
   replace H := Option.bind_eq_some_iff.mp H
   obtain ⟨t325, A100, H⟩ := H
   replace H : (if t325 = true then (if 0 ≤ x14_1 then (if 0 ≤ (Go.bits .andNot .i64 a1 (shl .i64 1 x14_1)) then (if (Go.bits .andNot .i64 a1 (shl .i64 1 x14_1)) < (l0_1.length : Int) then (if rdOf false l0_1 (Go.bits .andNot .i64 a1 (shl .i64 1 x14_1)) = true then (some false) else (impl_votes_isLeast.l0 k1 a1 a0_0 (wrap64 (x14_1 + 1)) a0_0 l0_1)) else (none)) else (none)) else (none)) else (impl_votes_isLeast.l0 k1 a1 a0_0 (wrap64 (x14_1 + 1)) a0_0 l0_1)) = some r := H
   have A10 := Aside0.mk A100
   clear A100
   by_cases c11 : t325 = true
   rotate_left
   ·replace c11 := Bool.eq_false_iff.mpr c11
    subst c11
    have H1 : (impl_votes_isLeast.l0 k1 a1 a0_0 (wrap64 (x14_1 + 1)) a0_0 l0_1) = some r := by rw [if_neg (show ¬ (false = true) by decide)] at H; exact H
    clear H
    have H := H1
    clear H1
    have H' := Aside0.mk H
    clear H
    go_wp2_with (first | (go_at_call 98; (with_reducible refine (impl_has.calls a1 x14_1 false _ A10.out).mono ?_); rintro e w' ⟨rfl, ⟨nd, rfl⟩⟩; (try first | exact ⟨rfl, _, zd⟩ | exact ⟨rfl, _, ze⟩)))
    repeat (go_quiet (first | (go_at_call 98; (with_reducible refine (impl_has.calls a1 x14_1 false _ A10.out).mono ?_); rintro e w' ⟨rfl, ⟨nd, rfl⟩⟩; (try first | exact ⟨rfl, _, zd⟩ | exact ⟨rfl, _, ze⟩))); try go_wp2_with (first | (go_at_call 98; (with_reducible refine (impl_has.calls a1 x14_1 false _ A10.out).mono ?_); rintro e w' ⟨rfl, ⟨nd, rfl⟩⟩; (try first | exact ⟨rfl, _, zd⟩ | exact ⟨rfl, _, ze⟩))))
    go_roundg k1
    case measure => have := HK1.out; omega
    case rel => exact ⟨(wrap64 (x14_1 + 1)), (by first | rfl | (simp; done) | (simp [*]; done)), H', ⟨by have := HK1.out; omega⟩, ⟨zb BK323.out⟩, ⟨zh HB.out⟩⟩
   subst c11
   have H1 : (if 0 ≤ x14_1 then (if 0 ≤ (Go.bits .andNot .i64 a1 (shl .i64 1 x14_1)) then (if (Go.bits .andNot .i64 a1 (shl .i64 1 x14_1)) < (l0_1.length : Int) then (if rdOf false l0_1 (Go.bits .andNot .i64 a1 (shl .i64 1 x14_1)) = true then (some false) else (impl_votes_isLeast.l0 k1 a1 a0_0 (wrap64 (x14_1 + 1)) a0_0 l0_1)) else (none)) else (none)) else (none)) = some r := by rw [if_pos rfl] at H; exact H
   clear H
   have H := H1
   clear H1
   by_cases c12 : 0 ≤ x14_1
   rotate_left
   ·rw [if_neg c12] at H
    exact absurd H (by simp)
   rw [if_pos c12] at H
   have c12b0 := eq_true c12
   have c12b1 : decide (0 ≤ x14_1) = true := decide_eq_true c12
   clear c12
   obtain ⟨ji13, hji13⟩ : ∃ j_ : Int, (shl .i64 1 x14_1) = j_ := ⟨_, rfl⟩
   replace H : (if 0 ≤ (Go.bits .andNot .i64 a1 (ji13)) then (if (Go.bits .andNot .i64 a1 (ji13)) < (l0_1.length : Int) then (if rdOf false l0_1 (Go.bits .andNot .i64 a1 (ji13)) = true then (some false) else (impl_votes_isLeast.l0 k1 a1 a0_0 (wrap64 (x14_1 + 1)) a0_0 l0_1)) else (none)) else (none)) = some r := by first | (rw [hji13] at H; exact H) | (simp only [hji13] at H ⊢; exact H)
   (try rw [hji13] at A10)
   have hji13_ : (IntKind.i64.wrap (1 * 2 ^ min x14_1.toNat 64)) = ji13 := hji13
   have hji13z : x14_1 ≤ 64 → (IntKind.i64.wrap (1 * 2 ^ x14_1.toNat)) = ji13 := shl_small hji13
   have hji13u : (IntKind.i64.wrap (2 ^ min x14_1.toNat 64)) = ji13 := by have h_ := hji13_; rw [Int.one_mul] at h_; exact h_
   have hji13v : x14_1 ≤ 64 → (IntKind.i64.wrap (2 ^ x14_1.toNat)) = ji13 := fun hle_ => by have h_ := hji13z hle_; rw [Int.one_mul] at h_; exact h_
   have hji13y : (wrap64 (1 * 2 ^ min x14_1.toNat 64)) = ji13 := (i64_w _).symm.trans hji13_
   have hji13x : x14_1 ≤ 64 → (wrap64 (1 * 2 ^ x14_1.toNat)) = ji13 := fun h_ => (i64_w _).symm.trans (hji13z h_)
   by_cases c14 : 0 ≤ (Go.bits .andNot .i64 a1 (ji13))
   rotate_left
   ·rw [if_neg c14] at H
    exact absurd H (by simp)
   rw [if_pos c14] at H
   have c14b0 : decide (0 ≤ (Go.bits .andNot .i64 a1 (ji13))) = true := decide_eq_true c14
   clear c14
   by_cases c15 : (Go.bits .andNot .i64 a1 (ji13)) < (l0_1.length : Int)
   rotate_left
   ·rw [if_neg c15] at H
    exact absurd H (by simp)
   rw [if_pos c15] at H
   have c15b0 : decide ((Go.bits .andNot .i64 a1 (ji13)) < (l0_1.length : Int)) = true := decide_eq_true c15
   clear c15
   obtain ⟨bq16, hbq16⟩ : ∃ b_ : Bool, b_ = (rdOf false l0_1 (Go.bits .andNot .i64 a1 (ji13))) := ⟨_, rfl⟩
   replace H : (if bq16 = true then (some false) else (impl_votes_isLeast.l0 k1 a1 a0_0 (wrap64 (x14_1 + 1)) a0_0 l0_1)) = some r := by rw [← hbq16] at H; exact H
   have Nbq16 := Aside0.mk hbq16
   clear hbq16
   by_cases c17 : bq16 = true
   ·subst c17
    have H1 : (some false) = some r := by rw [if_pos rfl] at H; exact H
    clear H
    have H := H1
    clear H1
    obtain rfl := Option.some.inj H
    go_wp2_with (first | (go_at_call 98; (with_reducible refine (impl_has.calls a1 x14_1 true _ A10.out).mono ?_); rintro e w' ⟨rfl, ⟨nd, rfl⟩⟩; (try first | exact ⟨rfl, _, zd⟩ | exact ⟨rfl, _, ze⟩); have hcz18_0 : wr.cell? ⟨gb323, 0, none⟩ = some (.int .i64 a0_0) := (blk_cell BK323.out 0).trans rfl; have hcz18_1 : wr.cell? ⟨gb323, 1, none⟩ = some (.slice (some ad324) l0_1.length c0_1) := (blk_cell BK323.out 1).trans rfl; have hfz18_0 := blk_frozen BK323.out 0; have hfz18_1 := blk_frozen BK323.out 1; have p326 : 0 ≤ ((Go.bits .andNot .i64 a1 (ji13)) : Int) := zk; have q326 : (Go.bits .andNot .i64 a1 (ji13)) < (l0_1.length : Int) := zk; obtain ⟨ad326, e326, hx326_0⟩ := Kd.at_bool HR0_1.out (Go.bits .andNot .i64 a1 (ji13)) p326 q326; (try rw [← Nbq5.out] at hx326_0); (try rw [← Nbq16.out] at hx326_0); obtain rfl : ad324 = ad326 := (by injection e326); replace hx326_0 := zx HB.out hx326_0; replace p326 := eq_true p326; replace q326 := eq_true q326))
    repeat (go_quiet (first | (go_at_call 98; (with_reducible refine (impl_has.calls a1 x14_1 true _ A10.out).mono ?_); rintro e w' ⟨rfl, ⟨nd, rfl⟩⟩; (try first | exact ⟨rfl, _, zd⟩ | exact ⟨rfl, _, ze⟩); have hcz18_0 : wr.cell? ⟨gb323, 0, none⟩ = some (.int .i64 a0_0) := (blk_cell BK323.out 0).trans rfl; have hcz18_1 : wr.cell? ⟨gb323, 1, none⟩ = some (.slice (some ad324) l0_1.length c0_1) := (blk_cell BK323.out 1).trans rfl; have hfz18_0 := blk_frozen BK323.out 0; have hfz18_1 := blk_frozen BK323.out 1; have p326 : 0 ≤ ((Go.bits .andNot .i64 a1 (ji13)) : Int) := zk; have q326 : (Go.bits .andNot .i64 a1 (ji13)) < (l0_1.length : Int) := zk; obtain ⟨ad326, e326, hx326_0⟩ := Kd.at_bool HR0_1.out (Go.bits .andNot .i64 a1 (ji13)) p326 q326; (try rw [← Nbq5.out] at hx326_0); (try rw [← Nbq16.out] at hx326_0); obtain rfl : ad324 = ad326 := (by injection e326); replace hx326_0 := zx HB.out hx326_0; replace p326 := eq_true p326; replace q326 := eq_true q326)); try go_wp2_with (first | (go_at_call 98; (with_reducible refine (impl_has.calls a1 x14_1 true _ A10.out).mono ?_); rintro e w' ⟨rfl, ⟨nd, rfl⟩⟩; (try first | exact ⟨rfl, _, zd⟩ | exact ⟨rfl, _, ze⟩); have hcz18_0 : wr.cell? ⟨gb323, 0, none⟩ = some (.int .i64 a0_0) := (blk_cell BK323.out 0).trans rfl; have hcz18_1 : wr.cell? ⟨gb323, 1, none⟩ = some (.slice (some ad324) l0_1.length c0_1) := (blk_cell BK323.out 1).trans rfl; have hfz18_0 := blk_frozen BK323.out 0; have hfz18_1 := blk_frozen BK323.out 1; have p326 : 0 ≤ ((Go.bits .andNot .i64 a1 (ji13)) : Int) := zk; have q326 : (Go.bits .andNot .i64 a1 (ji13)) < (l0_1.length : Int) := zk; obtain ⟨ad326, e326, hx326_0⟩ := Kd.at_bool HR0_1.out (Go.bits .andNot .i64 a1 (ji13)) p326 q326; (try rw [← Nbq5.out] at hx326_0); (try rw [← Nbq16.out] at hx326_0); obtain rfl : ad324 = ad326 := (by injection e326); replace hx326_0 := zx HB.out hx326_0; replace p326 := eq_true p326; replace q326 := eq_true q326)))
    go_ret
    exact ⟨by first | rfl | (simp [errW_none, errW_some] <;> rfl) | (simp only [← hji13]; first | rfl | (simp [errW_none, errW_some] <;> rfl)) | (simp [*, errW_none, errW_some] <;> rfl), zh HB.out⟩
   replace c17 := Bool.eq_false_iff.mpr c17
   subst c17
   have H1 : (impl_votes_isLeast.l0 k1 a1 a0_0 (wrap64 (x14_1 + 1)) a0_0 l0_1) = some r := by rw [if_neg (show ¬ (false = true) by decide)] at H; exact H
   clear H
   have H := H1
   clear H1
   have H' := Aside0.mk H
   clear H
   go_wp2_with (first | (go_at_call 98; (with_reducible refine (impl_has.calls a1 x14_1 true _ A10.out).mono ?_); rintro e w' ⟨rfl, ⟨nd, rfl⟩⟩; (try first | exact ⟨rfl, _, zd⟩ | exact ⟨rfl, _, ze⟩); have hcz19_0 : wr.cell? ⟨gb323, 0, none⟩ = some (.int .i64 a0_0) := (blk_cell BK323.out 0).trans rfl; have hcz19_1 : wr.cell? ⟨gb323, 1, none⟩ = some (.slice (some ad324) l0_1.length c0_1) := (blk_cell BK323.out 1).trans rfl; have hfz19_0 := blk_frozen BK323.out 0; have hfz19_1 := blk_frozen BK323.out 1; have p326 : 0 ≤ ((Go.bits .andNot .i64 a1 (ji13)) : Int) := zk; have q326 : (Go.bits .andNot .i64 a1 (ji13)) < (l0_1.length : Int) := zk; obtain ⟨ad326, e326, hx326_0⟩ := Kd.at_bool HR0_1.out (Go.bits .andNot .i64 a1 (ji13)) p326 q326; (try rw [← Nbq5.out] at hx326_0); (try rw [← Nbq16.out] at hx326_0); obtain rfl : ad324 = ad326 := (by injection e326); replace hx326_0 := zx HB.out hx326_0; replace p326 := eq_true p326; replace q326 := eq_true q326))
   repeat (go_quiet (first | (go_at_call 98; (with_reducible refine (impl_has.calls a1 x14_1 true _ A10.out).mono ?_); rintro e w' ⟨rfl, ⟨nd, rfl⟩⟩; (try first | exact ⟨rfl, _, zd⟩ | exact ⟨rfl, _, ze⟩); have hcz19_0 : wr.cell? ⟨gb323, 0, none⟩ = some (.int .i64 a0_0) := (blk_cell BK323.out 0).trans rfl; have hcz19_1 : wr.cell? ⟨gb323, 1, none⟩ = some (.slice (some ad324) l0_1.length c0_1) := (blk_cell BK323.out 1).trans rfl; have hfz19_0 := blk_frozen BK323.out 0; have hfz19_1 := blk_frozen BK323.out 1; have p326 : 0 ≤ ((Go.bits .andNot .i64 a1 (ji13)) : Int) := zk; have q326 : (Go.bits .andNot .i64 a1 (ji13)) < (l0_1.length : Int) := zk; obtain ⟨ad326, e326, hx326_0⟩ := Kd.at_bool HR0_1.out (Go.bits .andNot .i64 a1 (ji13)) p326 q326; (try rw [← Nbq5.out] at hx326_0); (try rw [← Nbq16.out] at hx326_0); obtain rfl : ad324 = ad326 := (by injection e326); replace hx326_0 := zx HB.out hx326_0; replace p326 := eq_true p326; replace q326 := eq_true q326)); try go_wp2_with (first | (go_at_call 98; (with_reducible refine (impl_has.calls a1 x14_1 true _ A10.out).mono ?_); rintro e w' ⟨rfl, ⟨nd, rfl⟩⟩; (try first | exact ⟨rfl, _, zd⟩ | exact ⟨rfl, _, ze⟩); have hcz19_0 : wr.cell? ⟨gb323, 0, none⟩ = some (.int .i64 a0_0) := (blk_cell BK323.out 0).trans rfl; have hcz19_1 : wr.cell? ⟨gb323, 1, none⟩ = some (.slice (some ad324) l0_1.length c0_1) := (blk_cell BK323.out 1).trans rfl; have hfz19_0 := blk_frozen BK323.out 0; have hfz19_1 := blk_frozen BK323.out 1; have p326 : 0 ≤ ((Go.bits .andNot .i64 a1 (ji13)) : Int) := zk; have q326 : (Go.bits .andNot .i64 a1 (ji13)) < (l0_1.length : Int) := zk; obtain ⟨ad326, e326, hx326_0⟩ := Kd.at_bool HR0_1.out (Go.bits .andNot .i64 a1 (ji13)) p326 q326; (try rw [← Nbq5.out] at hx326_0); (try rw [← Nbq16.out] at hx326_0); obtain rfl : ad324 = ad326 := (by injection e326); replace hx326_0 := zx HB.out hx326_0; replace p326 := eq_true p326; replace q326 := eq_true q326)))
   go_roundg k1
   case measure => have := HK1.out; omega
   case rel => exact ⟨(wrap64 (x14_1 + 1)), (by first | rfl | (simp; done) | (simp [*]; done)), H', ⟨by have := HK1.out; omega⟩, ⟨zb BK323.out⟩, ⟨zh HB.out⟩⟩
def laws_eqIntS.l0 : Nat → List Int → List Int → Int → Option (Bool)
 | 0, _, _, _ => none
 | k + 1, x0, x1, x5 => if x5 < (x0.length : Int) then (if 0 ≤ x5 then (if x5 < (x1.length : Int) then (if (rd x0 x5) = (rd x1 x5) then (laws_eqIntS.l0 k x0 x1 (wrap64 (x5 + 1))) else (some false)) else (none)) else (none)) else (some true)
def laws_eqIntS.f (k : Nat) (l0 : List Int) (l1 : List Int) : Option (Bool) := if (l0.length : Int) = (l1.length : Int) then (laws_eqIntS.l0 k l0 l1 0) else (some false)
set_option maxHeartbeats 8000000 in
set_option maxRecDepth 100000 in
theorem laws_eqIntS.calls (k : Nat) (A0 : Option Addr) (c0 : Nat) (l0 : List Int) (A1 : Option Addr) (c1 : Nat) (l1 : List Int) (r : Bool) (w : World) (hr0 : Kd.C (Kd.int .i64) w A0 l0.length l0) (hc0 : l0.length ≤ c0) (hr1 : Kd.C (Kd.int .i64) w A1 l1.length l1) (hc1 : l1.length ≤ c1) (h : laws_eqIntS.f k l0 l1 = some r) :
  Calls Tryz.prog 61 #[.slice A0 l0.length c0, .slice A1 l1.length c1] w fun e w' => e = .returned (.bool r) ∧ Drawn0 w w' := by
 have HR0 := Aside0.mk hr0
 have HC0 := Aside0.mk hc0
 clear hr0 hc0
 have HR1 := Aside0.mk hr1
 have HC1 := Aside0.mk hc1
 clear hr1 hc1
 have H : (if (l0.length : Int) = (l1.length : Int) then (laws_eqIntS.l0 k l0 l1 0) else (some false)) = some r := h
 clear h
 by_cases c3 : (l0.length : Int) = (l1.length : Int)
 rotate_left
 ·rw [if_neg c3] at H
  have c3b0 : ((l0.length : Int) == (l1.length : Int)) = false := beq_eq_false_iff_ne.mpr c3
  have c3b1 : ((l0.length : Int) != (l1.length : Int)) = true := bne_iff_ne.mpr c3
  have c3b2 : (l0.length == l1.length) = false := by first | simpa using c3 | (simp at c3 ⊢; omega)
  obtain rfl := Option.some.inj H
  go_enter Tryz.func61, Tryz.ntmps61
  go_wp2
  repeat (go_quiet (fail); try go_wp2)
  go_ret
  exact za1
 rw [if_pos c3] at H
 have c3b0 : ((l0.length : Int) == (l1.length : Int)) = true := beq_iff_eq.mpr c3
 have c3b1 : ((l0.length : Int) != (l1.length : Int)) = false := bne_eq_false_iff_eq.mpr c3
 have c3b2 : (l0.length == l1.length) = true := by first | simpa using c3 | (simp at c3 ⊢; omega)
 clear c3
 have H' := Aside0.mk H
 clear H
 go_enter Tryz.func61, Tryz.ntmps61
 go_wp2
 repeat (go_quiet (fail); try go_wp2)
 go_loopg [5] k (fun kq v5 w' => ∃ (x5_1 : Int), v5 = .int .i64 x5_1 ∧ Aside0 (laws_eqIntS.l0 kq l0 l1 x5_1 = some r) ∧ Aside0 (kq ≤ k) ∧ Drawn0 w w')
 case atStart => exact ⟨(0), (by first | rfl | (simp; done) | (simp [*]; done)), H', ⟨Nat.le_refl _⟩, by repeat (first | exact Drawn0.refl _ | apply Drawn0.step)⟩
 case round =>
  clear H'
  try clear c1
  try clear p2
  try clear c3
  try clear c3b0
  try clear c3b1
  try clear c3b2
  obtain ⟨x5_1, rfl, HA, HK1, ⟨m1, rfl⟩⟩ := hrel
  cases gk with
  | zero => exact absurd HA.out (by simp [laws_eqIntS.l0])
  | succ k1 =>
   have H := HA.out
   clear HA
   simp only [laws_eqIntS.l0] at H
   by_cases c4 : x5_1 < (l0.length : Int)
   rotate_left
   ·rw [if_neg c4] at H
    have c4b0 : decide (x5_1 < (l0.length : Int)) = false := decide_eq_false c4
    clear c4
    obtain rfl := Option.some.inj H
    go_wp2
    repeat (go_quiet (fail); try go_wp2)
    go_ret
    exact za1
   rw [if_pos c4] at H
   have c4b0 : decide (x5_1 < (l0.length : Int)) = true := decide_eq_true c4
   clear c4
   by_cases c5 : 0 ≤ x5_1
   rotate_left
   ·rw [if_neg c5] at H
    exact absurd H (by simp)
   rw [if_pos c5] at H
   have c5b0 : decide (0 ≤ x5_1) = true := decide_eq_true c5
   clear c5
   by_cases c6 : x5_1 < (l1.length : Int)
   rotate_left
   ·rw [if_neg c6] at H
    exact absurd H (by simp)
   rw [if_pos c6] at H
   have c6b0 : decide (x5_1 < (l1.length : Int)) = true := decide_eq_true c6
   clear c6
   by_cases c7 : (rd l0 x5_1) = (rd l1 x5_1)
   rotate_left
   ·rw [if_neg c7] at H
    have c7b0 : ((rd l0 x5_1) == (rd l1 x5_1)) = false := beq_eq_false_iff_ne.mpr c7
    have c7b1 : ((rd l0 x5_1) != (rd l1 x5_1)) = true := bne_iff_ne.mpr c7
    obtain rfl := Option.some.inj H
    have p448 : 0 ≤ (x5_1 : Int) := zk
    have q448 : x5_1 < (l0.length : Int) := zk
    obtain ⟨ad448, e448, hx448_0⟩ := Kd.at_int HR0.out x5_1 p448 q448
    cases e448
    replace p448 := eq_true p448
    replace q448 := eq_true q448
    have p449 : 0 ≤ (x5_1 : Int) := zk
    have q449 : x5_1 < (l1.length : Int) := zk
    obtain ⟨ad449, e449, hx449_0⟩ := Kd.at_int HR1.out x5_1 p449 q449
    cases e449
    replace p449 := eq_true p449
    replace q449 := eq_true q449
    go_wp2
    repeat (go_quiet (fail); try go_wp2)
    go_ret
    exact za1
   rw [if_pos c7] at H
   have c7b0 : ((rd l0 x5_1) == (rd l1 x5_1)) = true := beq_iff_eq.mpr c7
   have c7b1 : ((rd l0 x5_1) != (rd l1 x5_1)) = false := bne_eq_false_iff_eq.mpr c7
   clear c7
   have H' := Aside0.mk H
   clear H
   have p448 : 0 ≤ (x5_1 : Int) := zk
   have q448 : x5_1 < (l0.length : Int) := zk
   obtain ⟨ad448, e448, hx448_0⟩ := Kd.at_int HR0.out x5_1 p448 q448
   cases e448
   replace p448 := eq_true p448
   replace q448 := eq_true q448
   have p449 : 0 ≤ (x5_1 : Int) := zk
   have q449 : x5_1 < (l1.length : Int) := zk
   obtain ⟨ad449, e449, hx449_0⟩ := Kd.at_int HR1.out x5_1 p449 q449
   cases e449
   replace p449 := eq_true p449
   replace q449 := eq_true q449
   go_wp2
   repeat (go_quiet (fail); try go_wp2)
   go_roundg k1
   case measure => have := HK1.out; omega
   case rel => exact ⟨(wrap64 (x5_1 + 1)), (by first | rfl | (simp; done) | (simp [*]; done)), H', ⟨by have := HK1.out; omega⟩, by repeat (first | exact Drawn0.refl _ | apply Drawn0.step)⟩
def laws_eqIntSS.l0 : Nat → List (List Int) → List (List Int) → Int → Option (Bool)
 | 0, _, _, _ => none
 | k + 1, x0, x1, x5 => if x5 < (x0.length : Int) then (if 0 ≤ x5 then (if x5 < (x1.length : Int) then ((laws_eqIntS.f k (rd_L1 x0 x5) (rd_L1 x1 x5)).bind fun t452 => (if t452 = true then (laws_eqIntSS.l0 k x0 x1 (wrap64 (x5 + 1))) else (some false))) else (none)) else (none)) else (some true)
def laws_eqIntSS.f (k : Nat) (l0 : List (List Int)) (l1 : List (List Int)) : Option (Bool) := if (l0.length : Int) = (l1.length : Int) then (laws_eqIntSS.l0 k l0 l1 0) else (some false)
set_option maxHeartbeats 8000000 in
set_option maxRecDepth 100000 in
theorem laws_eqIntSS.calls (k : Nat) (A0 : Option Addr) (c0 : Nat) (l0 : List (List Int)) (A1 : Option Addr) (c1 : Nat) (l1 : List (List Int)) (r : Bool) (w : World) (hr0 : Kd.C (Kd.slice 3 (Kd.int .i64)) w A0 l0.length l0) (hc0 : l0.length ≤ c0) (hr1 : Kd.C (Kd.slice 3 (Kd.int .i64)) w A1 l1.length l1) (hc1 : l1.length ≤ c1) (h : laws_eqIntSS.f k l0 l1 = some r) :
  Calls Tryz.prog 33 #[.slice A0 l0.length c0, .slice A1 l1.length c1] w fun e w' => e = .returned (.bool r) ∧ Drawn0 w w' := by
 have HR0 := Aside0.mk hr0
 have HC0 := Aside0.mk hc0
 clear hr0 hc0
 have HR1 := Aside0.mk hr1
 have HC1 := Aside0.mk hc1
 clear hr1 hc1
 have H : (if (l0.length : Int) = (l1.length : Int) then (laws_eqIntSS.l0 k l0 l1 0) else (some false)) = some r := h
 clear h
 by_cases c3 : (l0.length : Int) = (l1.length : Int)
 rotate_left
 ·rw [if_neg c3] at H
  have c3b0 : ((l0.length : Int) == (l1.length : Int)) = false := beq_eq_false_iff_ne.mpr c3
  have c3b1 : ((l0.length : Int) != (l1.length : Int)) = true := bne_iff_ne.mpr c3
  have c3b2 : (l0.length == l1.length) = false := by first | simpa using c3 | (simp at c3 ⊢; omega)
  obtain rfl := Option.some.inj H
  go_enter Tryz.func33, Tryz.ntmps33
  go_wp2
  repeat (go_quiet (fail); try go_wp2)
  go_ret
  exact za1
 rw [if_pos c3] at H
 have c3b0 : ((l0.length : Int) == (l1.length : Int)) = true := beq_iff_eq.mpr c3
 have c3b1 : ((l0.length : Int) != (l1.length : Int)) = false := bne_eq_false_iff_eq.mpr c3
 have c3b2 : (l0.length == l1.length) = true := by first | simpa using c3 | (simp at c3 ⊢; omega)
 clear c3
 have H' := Aside0.mk H
 clear H
 go_enter Tryz.func33, Tryz.ntmps33
 go_wp2
 repeat (go_quiet (fail); try go_wp2)
 go_loopg [5] k (fun kq v5 w' => ∃ (x5_1 : Int), v5 = .int .i64 x5_1 ∧ Aside0 (laws_eqIntSS.l0 kq l0 l1 x5_1 = some r) ∧ Aside0 (kq ≤ k) ∧ Drawn0 w w')
 case atStart => exact ⟨(0), (by first | rfl | (simp; done) | (simp [*]; done)), H', ⟨Nat.le_refl _⟩, by repeat (first | exact Drawn0.refl _ | apply Drawn0.step)⟩
 case round =>
  clear H'
  try clear c1
  try clear p2
  try clear c3
  try clear c3b0
  try clear c3b1
  try clear c3b2
  obtain ⟨x5_1, rfl, HA, HK1, ⟨m1, rfl⟩⟩ := hrel
  cases gk with
  | zero => exact absurd HA.out (by simp [laws_eqIntSS.l0])
  | succ k1 =>
   have H := HA.out
   clear HA
   simp only [laws_eqIntSS.l0] at H
   by_cases c4 : x5_1 < (l0.length : Int)
   rotate_left
   ·rw [if_neg c4] at H
    have c4b0 : decide (x5_1 < (l0.length : Int)) = false := decide_eq_false c4
    clear c4
    obtain rfl := Option.some.inj H
    go_wp2
    repeat (go_quiet (fail); try go_wp2)
    go_ret
    exact za1
   rw [if_pos c4] at H
   have c4b0 : decide (x5_1 < (l0.length : Int)) = true := decide_eq_true c4
   clear c4
   by_cases c5 : 0 ≤ x5_1
   rotate_left
   ·rw [if_neg c5] at H
    exact absurd H (by simp)
   rw [if_pos c5] at H
   have c5b0 : decide (0 ≤ x5_1) = true := decide_eq_true c5
   clear c5
   by_cases c6 : x5_1 < (l1.length : Int)
   rotate_left
   ·rw [if_neg c6] at H
    exact absurd H (by simp)
   rw [if_pos c6] at H
   have c6b0 : decide (x5_1 < (l1.length : Int)) = true := decide_eq_true c6
   clear c6
   replace H := Option.bind_eq_some_iff.mp H
   obtain ⟨t452, A70, H⟩ := H
   replace H : (if t452 = true then (laws_eqIntSS.l0 k1 l0 l1 (wrap64 (x5_1 + 1))) else (some false)) = some r := H
   have A7 := Aside0.mk A70
   clear A70
   by_cases c8 : t452 = true
   rotate_left
   ·replace c8 := Bool.eq_false_iff.mpr c8
    subst c8
    have H1 : (some false) = some r := by rw [if_neg (show ¬ (false = true) by decide)] at H; exact H
    clear H
    have H := H1
    clear H1
    obtain rfl := Option.some.inj H
    have p450 : 0 ≤ (x5_1 : Int) := zk
    have q450 : x5_1 < (l0.length : Int) := zk
    obtain ⟨ad450, A450_0, c450_0, e450, hx450_0, hl450_0, hi450_0⟩ := at_L1 HR0.out x5_1 p450 q450
    cases e450
    have HR450_0 := Aside0.mk hi450_0
    have HC450_0 := Aside0.mk hl450_0
    clear hi450_0 hl450_0
    replace p450 := eq_true p450
    replace q450 := eq_true q450
    have p451 : 0 ≤ (x5_1 : Int) := zk
    have q451 : x5_1 < (l1.length : Int) := zk
    obtain ⟨ad451, A451_0, c451_0, e451, hx451_0, hl451_0, hi451_0⟩ := at_L1 HR1.out x5_1 p451 q451
    cases e451
    have HR451_0 := Aside0.mk hi451_0
    have HC451_0 := Aside0.mk hl451_0
    clear hi451_0 hl451_0
    replace p451 := eq_true p451
    replace q451 := eq_true q451
    go_wp2_with (first | (go_at_call 61; (with_reducible refine (laws_eqIntS.calls k1 _ _ (rd_L1 l0 x5_1) _ _ (rd_L1 l1 x5_1) false _ ?side1 ?side2 ?side3 ?side4 A7.out).mono ?_); (case side1 => repeat (first | exact HR450_0.out | (with_reducible refine Kd.C_alloc ?_ _) | (with_reducible refine Kd.C_drewN ?_ _) | (with_reducible refine Kd.C_drew ?_))); (case side2 => exact HC450_0.out); (case side3 => repeat (first | exact HR451_0.out | (with_reducible refine Kd.C_alloc ?_ _) | (with_reducible refine Kd.C_drewN ?_ _) | (with_reducible refine Kd.C_drew ?_))); (case side4 => exact HC451_0.out); rintro e w' ⟨rfl, ⟨nd, rfl⟩⟩; (try first | exact ⟨rfl, _, zd⟩ | exact ⟨rfl, _, ze⟩)))
    repeat (go_quiet (first | (go_at_call 61; (with_reducible refine (laws_eqIntS.calls k1 _ _ (rd_L1 l0 x5_1) _ _ (rd_L1 l1 x5_1) false _ ?side1 ?side2 ?side3 ?side4 A7.out).mono ?_); (case side1 => repeat (first | exact HR450_0.out | (with_reducible refine Kd.C_alloc ?_ _) | (with_reducible refine Kd.C_drewN ?_ _) | (with_reducible refine Kd.C_drew ?_))); (case side2 => exact HC450_0.out); (case side3 => repeat (first | exact HR451_0.out | (with_reducible refine Kd.C_alloc ?_ _) | (with_reducible refine Kd.C_drewN ?_ _) | (with_reducible refine Kd.C_drew ?_))); (case side4 => exact HC451_0.out); rintro e w' ⟨rfl, ⟨nd, rfl⟩⟩; (try first | exact ⟨rfl, _, zd⟩ | exact ⟨rfl, _, ze⟩))); try go_wp2_with (first | (go_at_call 61; (with_reducible refine (laws_eqIntS.calls k1 _ _ (rd_L1 l0 x5_1) _ _ (rd_L1 l1 x5_1) false _ ?side1 ?side2 ?side3 ?side4 A7.out).mono ?_); (case side1 => repeat (first | exact HR450_0.out | (with_reducible refine Kd.C_alloc ?_ _) | (with_reducible refine Kd.C_drewN ?_ _) | (with_reducible refine Kd.C_drew ?_))); (case side2 => exact HC450_0.out); (case side3 => repeat (first | exact HR451_0.out | (with_reducible refine Kd.C_alloc ?_ _) | (with_reducible refine Kd.C_drewN ?_ _) | (with_reducible refine Kd.C_drew ?_))); (case side4 => exact HC451_0.out); rintro e w' ⟨rfl, ⟨nd, rfl⟩⟩; (try first | exact ⟨rfl, _, zd⟩ | exact ⟨rfl, _, ze⟩))))
    go_ret
    exact za1
   subst c8
   have H1 : (laws_eqIntSS.l0 k1 l0 l1 (wrap64 (x5_1 + 1))) = some r := by rw [if_pos rfl] at H; exact H
   clear H
   have H := H1
   clear H1
   have H' := Aside0.mk H
   clear H
   have p450 : 0 ≤ (x5_1 : Int) := zk
   have q450 : x5_1 < (l0.length : Int) := zk
   obtain ⟨ad450, A450_0, c450_0, e450, hx450_0, hl450_0, hi450_0⟩ := at_L1 HR0.out x5_1 p450 q450
   cases e450
   have HR450_0 := Aside0.mk hi450_0
   have HC450_0 := Aside0.mk hl450_0
   clear hi450_0 hl450_0
   replace p450 := eq_true p450
   replace q450 := eq_true q450
   have p451 : 0 ≤ (x5_1 : Int) := zk
   have q451 : x5_1 < (l1.length : Int) := zk
   obtain ⟨ad451, A451_0, c451_0, e451, hx451_0, hl451_0, hi451_0⟩ := at_L1 HR1.out x5_1 p451 q451
   cases e451
   have HR451_0 := Aside0.mk hi451_0
   have HC451_0 := Aside0.mk hl451_0
   clear hi451_0 hl451_0
   replace p451 := eq_true p451
   replace q451 := eq_true q451
   go_wp2_with (first | (go_at_call 61; (with_reducible refine (laws_eqIntS.calls k1 _ _ (rd_L1 l0 x5_1) _ _ (rd_L1 l1 x5_1) true _ ?side1 ?side2 ?side3 ?side4 A7.out).mono ?_); (case side1 => repeat (first | exact HR450_0.out | (with_reducible refine Kd.C_alloc ?_ _) | (with_reducible refine Kd.C_drewN ?_ _) | (with_reducible refine Kd.C_drew ?_))); (case side2 => exact HC450_0.out); (case side3 => repeat (first | exact HR451_0.out | (with_reducible refine Kd.C_alloc ?_ _) | (with_reducible refine Kd.C_drewN ?_ _) | (with_reducible refine Kd.C_drew ?_))); (case side4 => exact HC451_0.out); rintro e w' ⟨rfl, ⟨nd, rfl⟩⟩; (try first | exact ⟨rfl, _, zd⟩ | exact ⟨rfl, _, ze⟩)))
   repeat (go_quiet (first | (go_at_call 61; (with_reducible refine (laws_eqIntS.calls k1 _ _ (rd_L1 l0 x5_1) _ _ (rd_L1 l1 x5_1) true _ ?side1 ?side2 ?side3 ?side4 A7.out).mono ?_); (case side1 => repeat (first | exact HR450_0.out | (with_reducible refine Kd.C_alloc ?_ _) | (with_reducible refine Kd.C_drewN ?_ _) | (with_reducible refine Kd.C_drew ?_))); (case side2 => exact HC450_0.out); (case side3 => repeat (first | exact HR451_0.out | (with_reducible refine Kd.C_alloc ?_ _) | (with_reducible refine Kd.C_drewN ?_ _) | (with_reducible refine Kd.C_drew ?_))); (case side4 => exact HC451_0.out); rintro e w' ⟨rfl, ⟨nd, rfl⟩⟩; (try first | exact ⟨rfl, _, zd⟩ | exact ⟨rfl, _, ze⟩))); try go_wp2_with (first | (go_at_call 61; (with_reducible refine (laws_eqIntS.calls k1 _ _ (rd_L1 l0 x5_1) _ _ (rd_L1 l1 x5_1) true _ ?side1 ?side2 ?side3 ?side4 A7.out).mono ?_); (case side1 => repeat (first | exact HR450_0.out | (with_reducible refine Kd.C_alloc ?_ _) | (with_reducible refine Kd.C_drewN ?_ _) | (with_reducible refine Kd.C_drew ?_))); (case side2 => exact HC450_0.out); (case side3 => repeat (first | exact HR451_0.out | (with_reducible refine Kd.C_alloc ?_ _) | (with_reducible refine Kd.C_drewN ?_ _) | (with_reducible refine Kd.C_drew ?_))); (case side4 => exact HC451_0.out); rintro e w' ⟨rfl, ⟨nd, rfl⟩⟩; (try first | exact ⟨rfl, _, zd⟩ | exact ⟨rfl, _, ze⟩))))
   go_roundg k1
   case measure => have := HK1.out; omega
   case rel => exact ⟨(wrap64 (x5_1 + 1)), (by first | rfl | (simp; done) | (simp [*]; done)), H', ⟨by have := HK1.out; omega⟩, by repeat (first | exact Drawn0.refl _ | apply Drawn0.step)⟩
end Go.Proofs.YtmbkmabpebjboaaGreat.Q
end
section
namespace Go.Proofs.YtmbkmabpebjboaaGreat.Q
open Go.RowKit Go.Proofs.YtmbkmabpebjboaaGreatW.PrintWords Go.Proofs.YtmbkmabpebjboaaGreatW.PrintLast Go.Proofs.YtmbkmabpebjboaaGreatW.PrintMore
set_option linter.unusedVariables false
set_option linter.unusedSimpArgs false
theorem ev_pos {α : Type} {c : Prop} [Decidable c] {f g : Nat → Option α} {r : α} (h : c) (k : Ev f r) : Ev (fun n => if c then f n else g n) r := by
  simp only [if_pos h]; exact k
theorem ev_neg {α : Type} {c : Prop} [Decidable c] {f g : Nat → Option α} {r : α} (h : ¬ c) (k : Ev g r) : Ev (fun n => if c then f n else g n) r := by
  simp only [if_neg h]; exact k
theorem ev_bindS {α β : Type} {x : Option α} {f : Nat → α → Option β} {a : α} {r : β} (h : x = some a) (k : Ev (fun n => f n a) r) : Ev (fun n => x.bind (f n)) r := by
  subst h; exact k
theorem ev_succ {α : Type} {g : Nat → Option α} {r : α} (k : Ev (fun n => g (n + 1)) r) : Ev g r := Ev.step (fun _ => rfl) k
theorem ev_eqv {α : Type} {f : Nat → Option α} {r q : α} (h : Ev f r) (e : r = q) : Ev f q := e ▸ h
theorem ev_bool {α : Type} {c : Bool} {f g : Nat → Option α} {r : α} (h1 : c = true → Ev f r) (h2 : c = false → Ev g r) : Ev (fun n => if c = true then f n else g n) r := by
  cases c
  · simpa using h2 rfl
  · simpa using h1 rfl
theorem rd_get {xs : List Int} {i : Nat} (h : i < xs.length) : rd xs (i : Int) = xs[i] := by
  unfold rd
  simp [List.getD_eq_getElem?_getD, List.getElem?_eq_getElem h]
theorem wrap_succ {i : Nat} {n : Nat} (h : i < n) (hn : n ≤ 1152921504606846976) : wrap64 ((i : Int) + 1) = ((i + 1 : Nat) : Int) := by
  unfold wrap64; omega
theorem wrap_pred {i : Nat} {n : Nat} (h : i < n) (hn : n ≤ 1152921504606846976) : wrap64 (((i + 1 : Nat) : Int) - 1) = (i : Int) := by
  unfold wrap64; omega
theorem eqIntS_ev (a b : List Int) (ha : a.length ≤ 1152921504606846976) : Ev (fun k => laws_eqIntS.f k a b) (decide (a = b)) := by
  unfold laws_eqIntS.f
  by_cases hl : a.length = b.length
  · refine ev_pos (by omega) ?_
    have key : ∀ d i : Nat, i + d = a.length → Ev (fun k => laws_eqIntS.l0 k a b (i : Int)) (decide (a.drop i = b.drop i)) := by
      intro d
      induction d with
      | zero =>
        intro i hi
        refine ev_succ ?_
        simp only [laws_eqIntS.l0]
        refine ev_neg (by omega) ?_
        rw [List.drop_of_length_le (by omega), List.drop_of_length_le (by omega)]
        exact Ev.now _
      | succ d ih =>
        intro i hi
        have h1 : i < a.length := by omega
        have h2 : i < b.length := by omega
        refine ev_succ ?_
        simp only [laws_eqIntS.l0]
        refine ev_pos (by omega) (ev_pos (by omega) (ev_pos (by omega) ?_))
        rw [List.drop_eq_getElem_cons h1, List.drop_eq_getElem_cons h2, rd_get h1, rd_get h2, wrap_succ h1 ha]
        by_cases e : a[i] = b[i]
        · refine ev_pos e (ev_eqv (ih (i + 1) (by omega)) ?_)
          exact decide_eq_decide.2 ⟨fun h => by rw [e, h], fun h => (List.cons.inj h).2⟩
        · refine ev_neg e (ev_eqv (Ev.now false) ?_)
          exact (decide_eq_false (fun h => e (List.cons.inj h).1)).symm
    exact key a.length 0 (by omega)
  · refine ev_neg (by omega) (ev_eqv (Ev.now false) ?_)
    have : a ≠ b := fun e => hl (by rw [e])
    simp [this]
theorem ev_range {R : Type} (n : Nat) (L : Nat → Nat → Option R) (v : Nat → R) (hend : Ev (fun k => L k n) (v n)) (hstep : ∀ i, i < n → Ev (fun k => L k (i + 1)) (v (i + 1)) → Ev (fun k => L k i) (v i)) :
    ∀ i, i ≤ n → Ev (fun k => L k i) (v i) := by
  have key : ∀ d i, i + d = n → Ev (fun k => L k i) (v i) := by
    intro d
    induction d with
    | zero => intro i hi; rw [show i = n by omega]; exact hend
    | succ d ih => intro i hi; exact hstep i (by omega) (ih (i + 1) (by omega))
  exact fun i hi => key (n - i) i (by omega)
theorem ev_rangeS {R σ : Type} (n : Nat) (L : Nat → Nat → σ → Option R) (v : Nat → σ → R) (I : Nat → σ → Prop) (hend : ∀ s, I n s → Ev (fun k => L k n s) (v n s))
    (hstep : ∀ i s, i < n → I i s → (∀ s', I (i + 1) s' → Ev (fun k => L k (i + 1) s') (v (i + 1) s')) → Ev (fun k => L k i s) (v i s)) :
    ∀ i s, i ≤ n → I i s → Ev (fun k => L k i s) (v i s) := by
  have key : ∀ d i s, i + d = n → I i s → Ev (fun k => L k i s) (v i s) := by
    intro d
    induction d with
    | zero =>
      intro i s hi h
      have e : i = n := by omega
      subst e
      exact hend s h
    | succ d ih => intro i s hi h; exact hstep i s (by omega) h (fun s' h' => ih (i + 1) s' (by omega) h')
  exact fun i s hi h => key (n - i) i s (by omega) h
theorem set_copy {α β : Type} (g : α → β) (z : β) (l : List α) (i : Nat) (h : i < l.length) :
    ((l.take i).map g ++ List.replicate (l.length - i) z).set i (g l[i]) = (l.take (i + 1)).map g ++ List.replicate (l.length - (i + 1)) z := by
  rw [List.set_append_right _ _ (by rw [List.length_map, List.length_take]; omega), List.length_map, List.length_take, Nat.min_eq_left (by omega), Nat.sub_self, show l.length - i = (l.length - (i + 1)) + 1 by omega, List.replicate_succ, List.set_cons_zero, List.take_succ_eq_append_getElem h, List.map_append, List.append_assoc]
  rfl
theorem copy_len {α β : Type} (g : α → β) (z : β) (l : List α) (i : Nat) (h : i ≤ l.length) : ((l.take i).map g ++ List.replicate (l.length - i) z).length = l.length := by
  rw [List.length_append, List.length_map, List.length_take, List.length_replicate]; omega
theorem getD_get {α : Type} {xs : List α} {z : α} {i : Nat} (h : i < xs.length) : xs.getD i z = xs[i] := by
  simp [List.getD_eq_getElem?_getD, List.getElem?_eq_getElem h]
theorem all_drop {α : Type} (p : α → Bool) (l : List α) (i : Nat) (h : i < l.length) : (l.drop i).all p = (p l[i] && (l.drop (i + 1)).all p) := by
  rw [List.drop_eq_getElem_cons h, List.all_cons]
theorem drop_end {α : Type} (l : List α) : l.drop l.length = [] := by simp
theorem eq_drop {α : Type} [DecidableEq α] (a b : List α) (i : Nat) (h1 : i < a.length) (h2 : i < b.length) : decide (a.drop i = b.drop i) = (decide (a[i] = b[i]) && decide (a.drop (i + 1) = b.drop (i + 1))) := by
  rw [List.drop_eq_getElem_cons h1, List.drop_eq_getElem_cons h2]
  by_cases e : a[i] = b[i]
  · by_cases e2 : a.drop (i + 1) = b.drop (i + 1)
    · rw [decide_eq_true e, decide_eq_true e2, decide_eq_true (by rw [e, e2])]; rfl
    · rw [decide_eq_false e2, decide_eq_false (fun h => e2 (List.cons.inj h).2)]; simp
  · rw [decide_eq_false e, decide_eq_false (fun h => e (List.cons.inj h).1)]; rfl
theorem voBefore_ev (a b : List Int) (ha : a.length ≤ 1152921504606846976) : Ev (fun k => spec_voBefore.f k a b) (lexB a b) := by
  unfold spec_voBefore.f
  have := ev_range a.length (fun k i => spec_voBefore.l0 k a b (i : Int)) (fun i => lexB (a.drop i) (b.drop i)) ?_ ?_ 0 (Nat.zero_le _)
  · simpa using this
  · refine ev_succ ?_
    simp only [spec_voBefore.l0]
    refine ev_neg (by omega) (ev_succ ?_)
    simp only [spec_voBefore.j1]
    refine ev_neg (by simp) (ev_eqv (Ev.now _) ?_)
    rw [drop_end, lexB_drop_nil]
  · intro i hi ih
    refine ev_succ ?_
    simp only [spec_voBefore.l0]
    refine ev_pos (by omega) (ev_succ ?_)
    simp only [spec_voBefore.j1]
    by_cases h2 : i < b.length
    · refine ev_pos (by simp; omega) (ev_pos (by omega) (ev_pos (by omega) (ev_pos (by omega) ?_)))
      rw [rd_get hi, rd_get h2, wrap_succ hi ha]
      show Ev _ (lexB (a.drop i) (b.drop i))
      rw [List.drop_eq_getElem_cons hi, List.drop_eq_getElem_cons h2]
      unfold lexB
      by_cases e : a[i] = b[i]
      · rw [if_pos e]; exact ev_pos e ih
      · rw [if_neg e]; exact ev_neg e (Ev.now _)
    · refine ev_neg (by simp; omega) (ev_eqv (Ev.now _) ?_)
      rw [lexB_cons_nil a b i hi h2]
theorem cmpInt_eq (a b : Int) : cmp_Compare_int.f a b = some (if a < b then -1 else if a > b then 1 else 0) := by
  unfold cmp_Compare_int.f cmp_isNaN_int.f
  simp
  repeat' split
  all_goals rfl
theorem Compare_ev (a b : List Int) (ha : a.length ≤ 1152921504606846976) : Ev (fun k => slices_Compare_int_int.f k a b) (cmpL a b) := by
  unfold slices_Compare_int_int.f
  have := ev_range a.length (fun k i => slices_Compare_int_int.l0 k a b a (a.length : Int) (i : Int)) (fun i => cmpL (a.drop i) (b.drop i)) ?_ ?_ 0 (Nat.zero_le _)
  · simpa using this
  · refine ev_succ ?_
    simp only [slices_Compare_int_int.l0]
    refine ev_neg (by omega) ?_
    rw [drop_end]
    by_cases h : a.length < b.length
    · rw [List.drop_eq_getElem_cons h]; exact ev_pos (by omega) (Ev.now _)
    · rw [List.drop_of_length_le (by omega)]; exact ev_neg (by omega) (Ev.now _)
  · intro i hi ih
    refine ev_succ ?_
    simp only [slices_Compare_int_int.l0]
    refine ev_pos (by omega) (ev_pos (by omega) (ev_pos (by omega) ?_))
    by_cases h2 : i < b.length
    · refine ev_neg (by omega) (ev_pos (by omega) ?_)
      simp only [rd_get hi, rd_get h2, wrap_succ hi ha, cmpInt_eq, Option.bind_some]
      show Ev _ (cmpL (a.drop i) (b.drop i))
      rw [List.drop_eq_getElem_cons hi, List.drop_eq_getElem_cons h2]
      unfold cmpL
      by_cases e : a[i] = b[i]
      · rw [if_pos e, if_neg (by omega), if_neg (by omega)]; exact ev_pos rfl ih
      · rw [if_neg e]
        by_cases e2 : a[i] < b[i]
        · rw [if_pos e2, if_pos e2]; exact ev_neg (by decide) (Ev.now _)
        · rw [if_neg e2, if_neg e2, if_pos (by omega)]; exact ev_neg (by decide) (Ev.now _)
    · refine ev_pos (by omega) (ev_eqv (Ev.now _) ?_)
      show 1 = cmpL (a.drop i) (b.drop i)
      have hb : b.drop i = [] := List.drop_of_length_le (by omega)
      rw [List.drop_eq_getElem_cons hi, hb]; rfl
theorem rdL1_get {xs : List (List Int)} {i : Nat} (h : i < xs.length) : rd_L1 xs (i : Int) = xs[i] := by unfold rd_L1; rw [Int.toNat_natCast]; exact getD_get h
section
variable {α : Type} (lt : α → α → Bool)
def insL (x : α) : List α → List α
  | [] => [x]
  | y :: ys => if lt y x = true then y :: insL x ys else x :: y :: ys
def sortL (l : List α) : List α := l.foldl (fun out x => insL lt x out) []
theorem insL_perm (x : α) : ∀ l, (insL lt x l).Perm (x :: l)
  | [] => List.Perm.refl _
  | y :: ys => by
    unfold insL
    split
    · exact ((insL_perm x ys).cons y).trans (List.Perm.swap x y ys)
    · exact List.Perm.refl _
theorem foldl_perm : ∀ (l out : List α), (l.foldl (fun out x => insL lt x out) out).Perm (l ++ out)
  | [], out => List.Perm.refl _
  | x :: xs, out => by
    rw [List.foldl_cons]
    refine (foldl_perm xs _).trans ?_
    exact ((insL_perm lt x out).append_left xs).trans (List.perm_middle.trans (List.Perm.refl _))
theorem sortL_perm (l : List α) : (sortL lt l).Perm l := by
  have := foldl_perm lt l []
  rwa [List.append_nil] at this
variable (htr : ∀ a b c, lt a b = true → lt b c = true → lt a c = true) (hnt : ∀ a b c, lt a b = false → lt b c = false → lt a c = false) (has : ∀ a b, lt a b = true → lt b a = false)
include hnt has
theorem insL_sorted (x : α) : ∀ l : List α, l.Pairwise (fun a b => lt b a = false) → (insL lt x l).Pairwise (fun a b => lt b a = false)
  | [], _ => List.pairwise_singleton _ _
  | y :: ys, h => by
    rw [List.pairwise_cons] at h
    unfold insL
    split
    · rename_i hy
      rw [List.pairwise_cons]
      refine ⟨fun z hz => ?_, insL_sorted x ys h.2⟩
      rcases List.mem_cons.1 ((insL_perm lt x ys).mem_iff.1 hz) with rfl | hz
      · exact has _ _ hy
      · exact h.1 z hz
    · rename_i hy
      rw [Bool.not_eq_true] at hy
      rw [List.pairwise_cons]
      refine ⟨fun z hz => ?_, List.pairwise_cons.2 h⟩
      rcases List.mem_cons.1 hz with rfl | hz
      · exact hy
      · exact hnt _ _ _ (h.1 z hz) hy
theorem foldl_sorted : ∀ (l out : List α), out.Pairwise (fun a b => lt b a = false) → (l.foldl (fun out x => insL lt x out) out).Pairwise (fun a b => lt b a = false)
  | [], _, h => h
  | x :: xs, out, h => foldl_sorted xs _ (insL_sorted lt hnt has x out h)
theorem sortL_sorted (l : List α) : (sortL lt l).Pairwise (fun a b => lt b a = false) := foldl_sorted lt hnt has l [] List.Pairwise.nil
omit hnt has in
theorem sorted_unique (tot : ∀ a b, lt a b = false → lt b a = false → a = b) : ∀ {l1 l2 : List α}, l1.Perm l2 → l1.Pairwise (fun a b => lt b a = false) → l2.Pairwise (fun a b => lt b a = false) → l1 = l2
  | [], l2, hp, _, _ => (List.Perm.nil_eq hp)
  | x :: xs, [], hp, _, _ => by have := hp.length_eq; simp at this
  | x :: xs, y :: ys, hp, h1, h2 => by
    rw [List.pairwise_cons] at h1 h2
    have hxy : x = y := by
      rcases List.mem_cons.1 (hp.mem_iff.1 (List.mem_cons_self ..)) with e | hx
      · exact e
      · rcases List.mem_cons.1 (hp.mem_iff.2 (List.mem_cons_self ..)) with e | hy
        · exact e.symm
        · exact tot _ _ (h2.1 x hx) (h1.1 y hy)
    subst hxy
    rw [sorted_unique tot ((List.perm_cons x).1 hp) h1.2 h2.2]
theorem sortL_eq (tot : ∀ a b, lt a b = false → lt b a = false → a = b) {l t : List α} (hp : t.Perm l) (hs : t.Pairwise (fun a b => lt b a = false)) : t = sortL lt l :=
  sorted_unique lt tot (hp.trans (sortL_perm lt l).symm) hs (sortL_sorted lt hnt has l)
end
end Go.Proofs.YtmbkmabpebjboaaGreat.Q
end
section
namespace Go.Proofs.YtmbkmabpebjboaaGreat.Q
open Go.RowKit Go.Proofs.YtmbkmabpebjboaaGreatW.PrintWords Go.Proofs.YtmbkmabpebjboaaGreatW.PrintLast Go.Proofs.YtmbkmabpebjboaaGreatW.PrintMore
set_option linter.unusedVariables false
set_option linter.unusedSimpArgs false
def ly163_ren : Go.Shelf.Ren := ⟨fun | 6 => 163 | 15 => 130 | 14 => 169 | 28 => 154 | 29 => 155 | 20 => 171 | 21 => 172 | 22 => 173 | 23 => 174 | 24 => 175 | 25 => 176 | 26 => 177 | 27 => 178 | 46 => 179 | 47 => 165 | 48 => 166 | 49 => 180 | 50 => 181 | 57 => 182 | n => n, fun | 22 => 22 | 24 => 65 | 25 => 119 | 3 => 3 | 39 => 144 | 0 => 0 | 53 => 163 | 55 => 165 | 4 => 4 | 46 => 157 | 45 => 156 | 50 => 26 | 5 => 5 | 9 => 9 | 66 => 168 | 70 => 172 | 76 => 175 | 77 => 96 | n => n, fun | n => n⟩
theorem ly163 : Go.Proofs.SlLaysF.n6 Tryz.prog ly163_ren := {
  mixed := by kernel_rfl
  f6 := ⟨Tryz.f163.name, by decide, Tryz.func163.trans (congrArg some (by kernel_rfl))⟩
  f14 := ⟨Tryz.f169.name, by decide, Tryz.func169.trans (congrArg some (by kernel_rfl))⟩
  f15 := Tryz.func130.trans (congrArg some (by kernel_rfl))
  f20 := ⟨Tryz.f171.name, by decide, Tryz.func171.trans (congrArg some (by kernel_rfl))⟩
  f21 := ⟨Tryz.f172.name, by decide, Tryz.func172.trans (congrArg some (by kernel_rfl))⟩
  f22 := ⟨Tryz.f173.name, by decide, Tryz.func173.trans (congrArg some (by kernel_rfl))⟩
  f23 := ⟨Tryz.f174.name, by decide, Tryz.func174.trans (congrArg some (by kernel_rfl))⟩
  f24 := ⟨Tryz.f175.name, by decide, Tryz.func175.trans (congrArg some (by kernel_rfl))⟩
  f25 := ⟨Tryz.f176.name, by decide, Tryz.func176.trans (congrArg some (by kernel_rfl))⟩
  f26 := ⟨Tryz.f177.name, by decide, Tryz.func177.trans (congrArg some (by kernel_rfl))⟩
  f27 := ⟨Tryz.f178.name, by decide, Tryz.func178.trans (congrArg some (by kernel_rfl))⟩
  f28 := Tryz.func154.trans (congrArg some (by kernel_rfl))
  f29 := Tryz.func155.trans (congrArg some (by kernel_rfl))
  f46 := ⟨Tryz.f179.name, by decide, Tryz.func179.trans (congrArg some (by kernel_rfl))⟩
  f47 := Tryz.func165.trans (congrArg some (by kernel_rfl))
  f48 := Tryz.func166.trans (congrArg some (by kernel_rfl))
  f49 := ⟨Tryz.f180.name, by decide, Tryz.func180.trans (congrArg some (by kernel_rfl))⟩
  f50 := ⟨Tryz.f181.name, by decide, Tryz.func181.trans (congrArg some (by kernel_rfl))⟩
  f57 := ⟨Tryz.f182.name, by decide, Tryz.func182.trans (congrArg some (by kernel_rfl))⟩
  t0 := Tryz.underlying0
  a0 := Tryz.isAgg0
  z0 := Tryz.sizeOf0
  v0 := Tryz.zeroValue0
  t3 := Tryz.underlying3
  a3 := Tryz.isAgg3
  z3 := Tryz.sizeOf3
  v3 := Tryz.zeroValue3
  t4 := Tryz.underlying4
  a4 := Tryz.isAgg4
  z4 := Tryz.sizeOf4
  v4 := Tryz.zeroValue4
  t5 := Tryz.underlying5
  a5 := Tryz.isAgg5
  z5 := Tryz.sizeOf5
  v5 := Tryz.zeroValue5
  t9 := Tryz.underlying9
  a9 := Tryz.isAgg9
  z9 := Tryz.sizeOf9
  v9 := Tryz.zeroValue9
  t22 := Tryz.underlying22
  a22 := Tryz.isAgg22
  z22 := Tryz.sizeOf22
  v22 := Tryz.zeroValue22
  a24 := Tryz.isAgg65
  z24 := Tryz.sizeOf65
  t25 := Tryz.underlying119
  a25 := Tryz.isAgg119
  z25 := Tryz.sizeOf119
  v25 := Tryz.zeroValue119
  t39 := Tryz.underlying144
  a39 := Tryz.isAgg144
  z39 := Tryz.sizeOf144
  v39 := Tryz.zeroValue144
  t45 := Tryz.underlying156
  a45 := Tryz.isAgg156
  z45 := Tryz.sizeOf156
  v45 := Tryz.zeroValue156
  t46 := Tryz.underlying157
  a46 := Tryz.isAgg157
  z46 := Tryz.sizeOf157
  v46 := Tryz.zeroValue157
  t50 := Tryz.underlying26
  a50 := Tryz.isAgg26
  z50 := Tryz.sizeOf26
  v50 := Tryz.zeroValue26
  t53 := Tryz.underlying163
  a53 := Tryz.isAgg163
  z53 := Tryz.sizeOf163
  v53 := Tryz.zeroValue163
  t55 := Tryz.underlying165
  a55 := Tryz.isAgg165
  z55 := Tryz.sizeOf165
  v55 := Tryz.zeroValue165
  t66 := Tryz.underlying168
  a66 := Tryz.isAgg168
  z66 := Tryz.sizeOf168
  v66 := Tryz.zeroValue168
  t70 := Tryz.underlying172
  a70 := Tryz.isAgg172
  z70 := Tryz.sizeOf172
  v70 := Tryz.zeroValue172
  t76 := Tryz.underlying175
  a76 := Tryz.isAgg175
  z76 := Tryz.sizeOf175
  v76 := Tryz.zeroValue175
  t77 := Tryz.underlying96
  a77 := Tryz.isAgg96
  z77 := Tryz.sizeOf96
  v77 := Tryz.zeroValue96 }
open Go.Shelf Go.Lib Go.Sort
section
variable {α : Type} [Inhabited α]
theorem holds_of_block (enc : α → Value) {w : World} {g : Nat} {cur : Array Value} {e : TypeId} {ss : List α} (hb : w.heap[g]? = some (.cells cur e (0, 0))) (ht : cur.toList.take ss.length = ss.map enc) : Holds enc w g 0 ss.toArray := by
  intro j hj
  have hj' : j < ss.length := by simpa using hj
  refine ⟨?_, by simp [World.frozen?, hb]⟩
  have h1 : (cur.toList.take ss.length)[j]? = (ss.map enc)[j]? := by rw [ht]
  rw [List.getElem?_take_of_lt hj'] at h1
  simp only [World.cell?, hb, Nat.zero_add]
  simp only [Option.isSome_none, Bool.false_eq_true, if_false]
  rw [← Array.getElem?_toList, h1]
  simp [hj']
theorem heap_sorted (enc : α → Value) {w : World} {g n : Nat} {os : Array Obj} {cur : Array Value} {e : TypeId} {fr : Nat × Nat} (d : Array α) (hb : w.heap[g]? = some (.cells cur e fr)) :
    (sortWorld enc w g 0 n d os).heap[g]? = some (.cells (putCells enc 0 d cur) e fr) := by
  have hg : g < w.heap.size := (Array.getElem?_eq_some_iff.1 hb).1
  unfold sortWorld
  rw [Go.Sort.heap_grow_old _ _ (by simpa using hg)]
  simp [putRow, mapBlock, Sort.ahead, Array.getElem?_modify, hb, onCells]
theorem grownBy_sorted (enc : α → Value) {w : World} {g n : Nat} {os : Array Obj} (d : Array α) : w.grownBy (sortWorld enc w g 0 n d os) (some g) := by
  unfold sortWorld
  refine ⟨rfl, rfl, rfl, by simp, fun k hk hne => ?_⟩
  rw [Go.Sort.heap_grow_old _ _ (by simpa using hk)]
  have : g ≠ k := fun e => hne (by rw [e])
  simp [putRow, mapBlock, Sort.ahead, Array.getElem?_modify, this]
theorem take_putCells (enc : α → Value) (cur : Array Value) (ts : List α) (h : ts.length ≤ cur.size) : (putCells enc 0 ts.toArray cur).toList.take ts.length = ts.map enc := by
  apply List.ext_getElem?
  intro j
  by_cases hj : j < ts.length
  · rw [List.getElem?_take_of_lt hj, Array.getElem?_toList]
    simp [putCells, hj, show j < cur.size by omega]
  · rw [List.getElem?_take_eq_none (by omega), List.getElem?_eq_none (by simp; omega)]
theorem ownsRow_sorted (enc : α → Value) {w : World} {base g cap n : Nat} {e : TypeId} {os : Array Obj} {cur : Array Value} {ts : List α} (hbase : base ≤ g) (hb : w.heap[g]? = some (.cells cur e (0, 0)))
    (h1 : ts.length ≤ cap) (h2 : cap ≤ maxLen) (h3 : cur.size = cap * 1) :
    (sortWorld enc w g 0 n ts.toArray os).ownsRow base e 1 (.slice (some ⟨g, 0, none⟩) ts.length cap) ts.length (ts.map enc) :=
  ⟨by simp, .inr ⟨g, cap, _, rfl, hbase, heap_sorted enc _ hb, h1, h2, by simp [putCells, h3], by rw [Nat.mul_one]; exact take_putCells enc cur ts (by omega)⟩⟩
theorem perm_of_PermIn {d d' : Array α} (h : PermIn 0 d.size d d') : d'.toList.Perm d.toList := by
  have h1 := h.2.2
  have e1 : d.extract 0 d.size = d := by simp
  have e2 : d'.extract 0 d.size = d' := by rw [← h.1]; simp
  rw [e1, e2] at h1
  exact h1
theorem pairwise_of_SortedIn {lt : α → α → Bool} {d : Array α} (h : SortedIn lt 0 d.size d) : d.toList.Pairwise (fun a b => lt b a = false) := by
  rw [List.pairwise_iff_getElem]
  intro i j hi hj hij
  have h1 := h i j (Nat.zero_le _) hij (by simpa using hj)
  rwa [getElem!_pos d j (by simpa using hj), getElem!_pos d i (by simpa using hi)] at h1
end
structure QS (W : World) (okq : Nat → Prop) (f : Nat → Nat) (base : Nat) where
  v : Value
  l : List Int
  j : Nat
  hM : Kd.R (Kd.int .i64) 3 W base (fun k => okq k ∧ f k = j) v l
  hl : l.length ≤ 1152921504606846976
instance {W okq f base} : Inhabited (QS W okq f base) := ⟨⟨.slice none 0 0, [], 0, Kd.R_nil _ _ _ _ _, by simp⟩⟩
def sortSets.f (l : List (List Int)) : Option (List (List Int)) := if (decide (l.length < 4611686018427387904) && l.all fun x => decide (x.length ≤ 1152921504606846976)) = true then some (sortL lexB l) else none
theorem cmp_lays (W : World) (okq : Nat → Prop) (f : Nat → Nat) (base g n : Nat) (hg : ∀ k, okq k → k ≠ g) :
    CmpLays1 Tryz.prog 90 #[] (fun q : QS W okq f base => q.v) (fun x y => cmpL x.l y.l) g 0 n W := by
  intro m os dk hs x y
  have hgr := grownBy_sorted (fun q : QS W okq f base => q.v) (w := W) (g := g) (n := m) (os := os) dk
  generalize hw : sortWorld (fun q : QS W okq f base => q.v) W g 0 m dk os = wS at hgr
  have hx := Kd.R_grown x.hM hgr (fun k hk e => hg k hk.1 (by injection e))
  have hy := Kd.R_grown y.hM hgr (fun k hk e => hg k hk.1 (by injection e))
  obtain ⟨A, c, hxv, hxl, hxC⟩ := Kd.R_reads hx
  obtain ⟨B, d, hyv, hyl, hyC⟩ := Kd.R_reads hy
  obtain ⟨k, hk⟩ := Compare_ev x.l y.l x.hl
  have := slices_Compare_int_int.calls k A c x.l B d y.l _ wS hxC hxl hyC hyl (hk k (Nat.le_refl _))
  show Calls Tryz.prog 90 #[x.v, y.v] wS _
  rw [hxv, hyv]
  refine this.mono ?_
  rintro e w' ⟨rfl, ⟨q, rfl⟩⟩
  exact ⟨rfl, q, #[], by rw [grow_empty]⟩
theorem swo_lex {W okq f base} : SWO (ltOf (fun x y : QS W okq f base => cmpL x.l y.l)) where
  irrefl x := by unfold ltOf; rw [cmpL_lt]; exact lexB_irrefl _
  trans x y z h1 h2 := by unfold ltOf at *; rw [cmpL_lt] at *; exact lexB_trans _ _ _ h1 h2
  ntrans x y z h1 h2 := by unfold ltOf at *; rw [cmpL_lt] at *; exact lexB_ntrans _ _ _ h1 h2
theorem sortSets.calls (l t : List (List Int)) (A : Option Addr) (c base : Nat) (ok : Nat → Prop) (w : World) (hS : Kd.S (Kd.slice 3 (Kd.int .i64)) 65 w base ok (.slice A l.length c) l) (h : sortSets.f l = some t) :
    Calls Tryz.prog 163 #[.slice A l.length c, .func (.func 90) #[] #[]] w fun e w' =>
      e = .returned (.tuple #[]) ∧ Kd.S (Kd.slice 3 (Kd.int .i64)) 65 w' base ok (.slice A l.length c) t ∧ t.length = l.length ∧ w.grownBy w' (Value.slice A l.length c).ownBlock := by
  unfold sortSets.f at h
  split at h
  · rename_i hall
    rw [Bool.and_eq_true, decide_eq_true_eq] at hall
    obtain ⟨hsz, hall⟩ := hall
    injection h with h
    subst h
    have hlen : (sortL lexB l).length = l.length := (sortL_perm lexB l).length_eq
    by_cases h0 : l.length = 0
    · have hl0 := List.length_eq_zero_iff.1 h0
      subst hl0
      have hcon := AnyF.slices_SortFunc_none { ly163 with } A c (.func (.func 90) #[] #[]) w
      change Calls Tryz.prog 163 _ _ _ at hcon
      refine hcon.mono ?_
      rintro e w' ⟨rfl, rfl⟩
      exact ⟨rfl, hS, rfl, ⟨rfl, rfl, rfl, Nat.le_refl _, fun _ _ _ => rfl⟩⟩
    · obtain ⟨f, hok, inner, ho, hr⟩ := hS
      rw [List.length_zipIdx] at ho
      rcases ho.2 with ⟨hv, hn⟩ | ⟨g, cap, cur, hv, hbase, hb, h1, h2, h3, h4⟩
      · exact absurd hn h0
      · injection hv with hA _ hc
        subst hA; subst hc
        have hil : inner.length = l.length := by
          have := ho.1
          change inner.length = l.length * 1 at this
          omega
        change cur.size = c * 1 at h3
        change cur.toList.take (l.length * 1) = inner at h4
        rw [Nat.mul_one] at h4
        have key : ∀ j : Nat, ∃ q : QS w (fun k => ok k ∧ k ≠ g) f base, j < l.length → q.l = l.getD j [] ∧ q.j = j ∧ inner[j]? = some q.v := by
          intro j
          by_cases hj : j < l.length
          · have hp := hr.2 j _ (Kd.zip_at (List.getElem?_eq_getElem hj))
            obtain ⟨v, hv, hR⟩ := hp
            refine ⟨⟨v, l[j], j, Kd.R_mono hR (fun k hk => ⟨⟨hk.1.1, fun e => hk.1.2 (by rw [e]; rfl)⟩, hk.2⟩), ?_⟩, fun _ => ⟨?_, rfl, ?_⟩⟩
            · exact of_decide_eq_true (List.all_eq_true.1 hall _ (List.getElem_mem hj))
            · rw [List.getD_eq_getElem?_getD, List.getElem?_eq_getElem hj]; rfl
            · have hx := congrArg (fun z => z[0]?) hv
              simpa [show (Kd.tag f (Kd.slice 3 (Kd.int .i64))).sz = 1 from rfl, List.getElem?_take, List.getElem?_drop] using hx
          · exact ⟨default, fun e => absurd e hj⟩
        obtain ⟨fq, hfq⟩ := Classical.axiomOfChoice key
        obtain ⟨ss, hss⟩ : ∃ ss, ss = (List.range l.length).map fq := ⟨_, rfl⟩
        have hsl : ss.length = l.length := by rw [hss]; simp
        have hget : ∀ j (hj : j < ss.length), ss[j] = fq j := fun j hj => by simp [hss]
        have hinn : inner = ss.map QS.v := by
          refine List.ext_getElem? fun j => ?_
          by_cases hj : j < l.length
          · rw [(hfq j hj).2.2, List.getElem?_map, List.getElem?_eq_getElem (by omega), hget]; rfl
          · rw [List.getElem?_eq_none (by omega), List.getElem?_eq_none (by rw [List.length_map]; omega)]
        have hsll : ss.map QS.l = l := by
          refine List.ext_getElem (by rw [List.length_map]; exact hsl) fun j h1 h2 => ?_
          rw [List.getElem_map, hget, (hfq j h2).1, List.getD_eq_getElem?_getD, List.getElem?_eq_getElem h2]; rfl
        have hsj : ss.map QS.j = List.range l.length := by
          refine List.ext_getElem (by rw [List.length_map, List.length_range]; exact hsl) fun j h1 h2 => ?_
          rw [List.getElem_map, hget, (hfq j (by simpa using h2)).2.1, List.getElem_range]
        have hH : Holds QS.v w g 0 ss.toArray := holds_of_block QS.v hb (by rw [hsl, h4, hinn])
        have eg : ∀ args w, (callFunc 90 args).run Tryz.prog w = .ok (.enter 90 args) w := enters_of Tryz.func90 (by kernel_rfl) rfl
        have hcon := Any.slices_SortFunc ly163 QS.v (fun q => (Kd.R_val q.hM).2) (fun x y => cmpL x.l y.l) swo_lex 90 #[] g 0 c ss.toArray w eg (cmp_lays w _ f base g _ (fun k hk => hk.2)) hH (Array.getElem?_eq_some_iff.1 hb).1 (by simpa [hsl] using hsz)
        change Calls Tryz.prog 163 _ _ _ at hcon
        rw [List.size_toArray, hsl] at hcon
        refine hcon.mono ?_
        rintro e w' ⟨rfl, d', n, os, hp, hs, rfl⟩
        obtain ⟨ts, rfl⟩ : ∃ ts : List _, d' = ts.toArray := ⟨d'.toList, rfl⟩
        have hgr := grownBy_sorted QS.v (w := w) (g := g) (n := n) (os := os) ts.toArray
        have hperm : ts.Perm ss := perm_of_PermIn (d := ss.toArray) (by simpa [hsl] using hp)
        have htl : ts.length = l.length := by rw [hperm.length_eq, hsl]
        have hsort : ts.Pairwise (fun a b => ltOf (fun x y : QS w _ f base => cmpL x.l y.l) b a = false) := pairwise_of_SortedIn (d := ts.toArray) (by simpa [htl] using hs)
        have ht : ts.map QS.l = sortL lexB l := by
          refine sortL_eq lexB lexB_ntrans (fun _ _ => lexB_asymm) lexB_total ?_ ?_
          · rw [← hsll]; exact hperm.map QS.l
          · rw [List.pairwise_map]
            refine hsort.imp fun h => ?_
            unfold ltOf at h
            rwa [cmpL_lt] at h
        rw [← ht]
        have hnd : (ts.map QS.j).Nodup := by
          refine (hperm.map QS.j).nodup_iff.2 ?_
          rw [hsj]; exact List.nodup_range
        have hblk : ∀ k, (ok k ∧ k ≠ g) → some k ≠ some g := fun k hk e => hk.2 (by injection e)
        refine ⟨rfl, ⟨fun k => (ts.map QS.j).idxOf (f k), hok, ts.map QS.v, ?_, ?_, fun j p hj => ?_⟩, by rw [List.length_map]; exact htl, hgr⟩
        · rw [List.length_zipIdx, List.length_map, htl]
          have := ownsRow_sorted QS.v (w := w) (base := base) (g := g) (cap := c) (n := n) (e := 65) (os := os) (ts := ts) hbase hb (by omega) h2 h3
          rwa [htl] at this
        · rw [List.length_map, List.length_zipIdx, List.length_map]; exact (Nat.mul_one _).symm
        · rw [List.getElem?_zipIdx, List.getElem?_map, Nat.zero_add] at hj
          obtain ⟨x, hx, rfl⟩ := Option.map_eq_some_iff.1 hj
          obtain ⟨q, hq, rfl⟩ := Option.map_eq_some_iff.1 hx
          obtain ⟨hjl, hqe⟩ := List.getElem?_eq_some_iff.1 hq
          show ∃ v, _ ∧ _
          refine ⟨q.v, ?_, ?_⟩
          · refine List.ext_getElem? fun i => ?_
            rw [show (Kd.tag (fun k => (ts.map QS.j).idxOf (f k)) (Kd.slice 3 (Kd.int .i64))).sz = 1 from rfl, Nat.mul_one]
            cases i with
            | zero => rw [List.getElem?_take_of_lt (by omega), List.getElem?_drop, List.getElem?_map, Nat.add_zero, hq]; rfl
            | succ i => rw [List.getElem?_eq_none (by rw [List.length_take]; omega), List.getElem?_eq_none (by simp)]
          · refine Kd.R_mono (Kd.R_grown q.hM hgr (fun k hk => hblk k hk.1)) (fun k hk => ⟨⟨hk.1.1, ?_⟩, ?_⟩)
            · exact fun e => hk.1.2 (by injection e)
            · show (ts.map QS.j).idxOf (f k) = j
              rw [hk.2, ← hqe, show ts[j].j = (ts.map QS.j)[j]'(by rw [List.length_map]; exact hjl) from by rw [List.getElem_map]]
              exact hnd.idxOf_getElem j _
  · cases h
end Go.Proofs.YtmbkmabpebjboaaGreat.Q
end
section
namespace Go.Proofs.YtmbkmabpebjboaaGreat.Q
open Go.RowKit Go.Proofs.YtmbkmabpebjboaaGreatW.PrintWords Go.Proofs.YtmbkmabpebjboaaGreatW.PrintLast Go.Proofs.YtmbkmabpebjboaaGreatW.PrintMore
set_option linter.unusedVariables false
set_option linter.unusedSimpArgs false
def idxO {α : Type} (p : α → Option Bool) : List α → Nat → Option Int
  | [], _ => some (-1)
  | x :: xs, k => (p x).bind fun b => if b = true then some (k : Int) else idxO p xs (k + 1)
def anyO {α : Type} (p : α → Option Bool) : List α → Option Bool
  | [] => some false
  | x :: xs => (p x).bind fun b => if b = true then some true else anyO p xs
theorem anyO_idxO {α : Type} (p : α → Option Bool) (xs : List α) : ∀ (k : Nat) (r : Bool), anyO p xs = some r → ∃ i, idxO p xs k = some i ∧ r = decide (0 ≤ i) := by
  induction xs with
  | nil => intro k r h; simp only [anyO, Option.some.injEq] at h; exact ⟨-1, rfl, by subst h; rfl⟩
  | cons x xs ih =>
    intro k r h
    simp only [anyO] at h
    obtain ⟨b, hb, h⟩ := Option.bind_eq_some_iff.mp h
    cases b with
    | true => rw [if_pos rfl] at h; exact ⟨k, by simp [idxO, hb], by simp only [Option.some.injEq] at h; subst h; simp⟩
    | false =>
      rw [if_neg (by simp)] at h
      obtain ⟨i, hi, hr⟩ := ih (k + 1) r h
      exact ⟨i, by simp [idxO, hb, hi], hr⟩
theorem idxO_step {α : Type} {p : α → Option Bool} {xs : List α} {k : Nat} {r : Int} {x : α} (h : idxO p (xs.drop k) k = some r) (hx : xs[k]? = some x) :
    ∃ b, p x = some b ∧ (b = true → r = k) ∧ (b = false → idxO p (xs.drop (k + 1)) (k + 1) = some r) := by
  rw [show xs.drop k = x :: xs.drop (k + 1) from by
    obtain ⟨hk, rfl⟩ := List.getElem?_eq_some_iff.1 hx; exact List.drop_eq_getElem_cons hk] at h
  simp only [idxO] at h
  obtain ⟨b, hb, h⟩ := Option.bind_eq_some_iff.mp h
  refine ⟨b, hb, ?_, ?_⟩
  · rintro rfl; rw [if_pos rfl] at h; exact (Option.some.inj h).symm
  · rintro rfl; rw [if_neg (by simp)] at h; exact h
def PredK {α : Type} (P : Program) (g : Nat) (lb : Array Value) (d : Kd α) (mkv : List Value → Value) (w : World) (p : α → Option Bool) : Prop :=
  ∀ (W : World) (x : α) (c : List Value) (b : Bool), Below w.heap.size w W → d.K w x c → p x = some b → Calls P g (#[mkv c] ++ lb) W fun e w' => e = .returned (.bool b) ∧ Below w.heap.size w w'
theorem anyO_some {α : Type} {p : α → Option Bool} {q : α → Bool} {xs : List α} (h : ∀ x ∈ xs, p x = some (q x)) : anyO p xs = some (xs.any q) := by
  induction xs with
  | nil => rfl
  | cons x xs ih =>
    simp only [anyO, h x (List.mem_cons_self ..), Option.bind_some]
    rw [ih (fun y hy => h y (List.mem_cons_of_mem _ hy))]
    rw [List.any_cons]
    cases q x <;> rfl
theorem ret_i {a b : Int} (h : a = b) : Ending.returned (.int .i64 a) = .returned (.int .i64 b) := by rw [h]
theorem ret_b {a b : Bool} (h : a = b) : Ending.returned (.bool a) = .returned (.bool b) := by rw [h]
set_option maxHeartbeats 1000000 in
theorem indexFunc_int (p : Int → Option Bool) (g : Nat) (lb : Array Value) (eg : ∀ args w, (callFunc g args).run Tryz.prog w = .ok (.enter g args) w)
    (A0 : Option Addr) (c0 : Nat) (l0 : List Int) (r : Int) (w : World) (hr0 : Kd.C (Kd.int .i64) w A0 l0.length l0) (hc0 : l0.length ≤ c0)
    (hp : PredK Tryz.prog g lb (Kd.int .i64) (fun c => c.getD 0 undef) w p) (h : idxO p l0 0 = some r) :
    Calls Tryz.prog 127 #[.slice A0 l0.length c0, .func (.func g) #[] lb] w fun e w' => e = .returned (.int .i64 r) ∧ Below w.heap.size w w' := by
  have hlen := hr0.2.1
  have HR0 := Aside0.mk hr0
  clear hr0
  have HP := Aside0.mk hp
  clear hp
  have H0 := Aside0.mk h
  clear h
  go_enter Tryz.func127, Tryz.ntmps127
  go_wp2
  go_loopg [5, 8] l0.length (fun gg _ s8 wr => ∃ kk : Nat, kk ≤ l0.length ∧ l0.length - kk ≤ gg ∧ s8 = .int .i64 kk ∧ Aside0 (Below w.heap.size w wr) ∧ Aside0 (idxO p (l0.drop kk) kk = some r))
  case atStart => exact ⟨0, Nat.zero_le _, by omega, rfl, ⟨Below.refl _ w⟩, H0⟩
  case round =>
    obtain ⟨kk, hkk, hg, rfl, BW, A⟩ := hrel
    by_cases hlt : kk < l0.length
    · have hltz : (kk : Int) < (l0.length : Int) := by omega
      obtain ⟨ad, c, e, _, hK, hcell⟩ := Kd.C_get HR0.out 0 (kk : Int) (by omega) hltz
      subst e
      have hK1 : c = [.int .i64 (l0.getD kk 0)] := hK
      subst hK1
      have l2 := (BW.out.cell (World.block_lt_of_cell? w _ (hcell 0 _ rfl))).trans (hcell 0 _ rfl)
      clear hcell
      obtain ⟨b, hb, h1, h2⟩ := idxO_step A.out (show l0[kk]? = some (l0.getD kk 0) by rw [List.getD_eq_getElem?_getD, List.getElem?_eq_getElem hlt]; rfl)
      have hcall := HP.out wr _ _ b BW.out hK hb
      have l3 : wr.cell? (ad.add kk) = some (.int .i64 (l0.getD kk 0)) := by simpa [show (Kd.int .i64).sz = 1 from rfl] using l2
      clear l2 hK
      generalize l0.getD kk 0 = y at l3 hcall hb
      have B := Aside0.mk hb
      clear hb
      cases b with
      | true =>
        have E := h1 rfl
        clear h1 h2
        have E' := Aside0.mk E
        clear E
        go_wp2_with (go_at_fn g; refine hcall.mono ?_; rintro e w' ⟨rfl, hb'⟩)
        go_ret
        exact ⟨ret_i E'.out.symm, hb'⟩
      | false =>
        have E := Aside0.mk (h2 rfl)
        clear h1 h2
        go_wp2_with (go_at_fn g; refine hcall.mono ?_; rintro e w' ⟨rfl, hb'⟩)
        go_roundg (l0.length - (kk + 1))
        case measure => omega
        case rel => exact ⟨kk + 1, by omega, by omega, by go_num, ⟨hb'⟩, E⟩
    · have hltz : ¬ (kk : Int) < (l0.length : Int) := by omega
      have : kk = l0.length := by omega
      subst this
      go_wp2
      go_ret
      refine ⟨?_, BW.out⟩
      have h3 := A.out
      rw [List.drop_length] at h3
      have h4 : (-1 : Int) = r := by simpa [idxO] using h3
      exact ret_i h4
set_option maxHeartbeats 1000000 in
theorem containsFunc_int (p : Int → Option Bool) (g : Nat) (lb : Array Value) (eg : ∀ args w, (callFunc g args).run Tryz.prog w = .ok (.enter g args) w)
    (A0 : Option Addr) (c0 : Nat) (l0 : List Int) (r : Bool) (w : World) (hr0 : Kd.C (Kd.int .i64) w A0 l0.length l0) (hc0 : l0.length ≤ c0)
    (hp : PredK Tryz.prog g lb (Kd.int .i64) (fun c => c.getD 0 undef) w p) (h : anyO p l0 = some r) :
    Calls Tryz.prog 94 #[.slice A0 l0.length c0, .func (.func g) #[] lb] w fun e w' => e = .returned (.bool r) ∧ Below w.heap.size w w' := by
  obtain ⟨i, hi, rfl⟩ := anyO_idxO p l0 0 r h
  have hcon := indexFunc_int p g lb eg A0 c0 l0 i w hr0 hc0 hp hi
  clear hr0 hp h hi
  go_enter Tryz.func94, Tryz.ntmps94
  go_wp2_with (go_at_call 127; refine hcon.mono ?_; rintro e w' ⟨rfl, hb'⟩)
  go_ret
  exact ⟨rfl, hb'⟩
def impl_areIn_1.f (lo hi n : Int) : Option Bool := (impl_within.f n lo hi).bind fun b => some (!b)
set_option maxHeartbeats 1000000 in
theorem impl_areIn_1.pred (lo hi : Int) (b1 b2 : Nat) (w : World) (h1 : w.cell? ⟨b1, 0, none⟩ = some (.int .i64 lo)) (h2 : w.cell? ⟨b2, 0, none⟩ = some (.int .i64 hi)) :
    PredK Tryz.prog 162 #[.pointer (some ⟨b1, 0, none⟩), .pointer (some ⟨b2, 0, none⟩)] (Kd.int .i64) (fun c => c.getD 0 undef) w (impl_areIn_1.f lo hi) := by
  intro W x c b hb hK hp
  have hK1 : c = [.int .i64 x] := hK
  subst hK1
  show Calls Tryz.prog 162 #[.int .i64 x, .pointer (some ⟨b1, 0, none⟩), .pointer (some ⟨b2, 0, none⟩)] W _
  have q1 := (hb.cell (World.block_lt_of_cell? w _ h1)).trans h1
  have q2 := (hb.cell (World.block_lt_of_cell? w _ h2)).trans h2
  obtain ⟨t, ht, hr⟩ := Option.bind_eq_some_iff.mp hp
  have hr' : (!t) = b := Option.some.inj hr
  have hB := Aside0.mk hb
  have hT := Aside0.mk ht
  have hE := Aside0.mk hr'
  clear h1 h2 hb hK hp hr hr' ht
  go_enter Tryz.func162, Tryz.ntmps162
  go_wp2_with (go_at_call 88; refine (impl_within.calls _ _ _ _ _ hT.out).mono ?_; rintro e w' ⟨rfl, nd, rfl⟩)
  go_ret
  exact ⟨ret_b hE.out, pw_below_drewN hB.out _⟩
set_option maxHeartbeats 1000000 in
def impl_areIn.f (l0 : List Int) (a1 a2 : Int) : Option Bool := (anyO (impl_areIn_1.f a1 a2) l0).bind fun b => some (!b)
set_option maxHeartbeats 1000000 in
theorem impl_areIn.calls (A0 : Option Addr) (c0 : Nat) (l0 : List Int) (a1 a2 : Int) (r : Bool) (w : World) (hr0 : Kd.C (Kd.int .i64) w A0 l0.length l0) (hc0 : l0.length ≤ c0) (h : impl_areIn.f l0 a1 a2 = some r) :
    Calls Tryz.prog 141 #[.slice A0 l0.length c0, .int .i64 a1, .int .i64 a2] w fun e w' => e = .returned (.bool r) ∧ Below w.heap.size w w' := by
  have eg : ∀ args w, (callFunc 162 args).run Tryz.prog w = .ok (.enter 162 args) w := enters_of Tryz.func162 (by kernel_rfl) rfl
  obtain ⟨t, ht, hr⟩ := Option.bind_eq_some_iff.mp h
  have hE := Aside0.mk (show (!t) = r from Option.some.inj hr)
  have hT := Aside0.mk ht
  have HR := Aside0.mk hr0
  clear h hr ht hr0
  go_enter Tryz.func141, Tryz.ntmps141
  go_wp2_with fail
  refine (containsFunc_int (impl_areIn_1.f a1 a2) 162 #[.pointer (some ⟨w.heap.size, 0, none⟩), .pointer (some ⟨w.heap.size + 1, 0, none⟩)] eg A0 c0 l0 t _ ?_ hc0 ?_ hT.out).mono ?_
  · exact Kd.C_below HR.out (((Below.refl _ w).alloc (Nat.le_refl _) _).alloc (by simp) _)
  · exact impl_areIn_1.pred a1 a2 _ _ _ (by go_simp) (by go_simp)
  · rintro e w' ⟨rfl, hb⟩
    go_wp2
    go_ret
    exact ⟨ret_b hE.out, (((Below.refl _ w).alloc (Nat.le_refl _) _).alloc (by simp) _).trans (hb.mono (by simp; omega))⟩
set_option maxHeartbeats 1000000 in
theorem impl_votesBy_11.pred (mask : Int) (b1 : Nat) (w : World) (h1 : w.cell? ⟨b1, 0, none⟩ = some (.int .i64 mask)) :
    PredK Tryz.prog 95 #[.pointer (some ⟨b1, 0, none⟩)] (Kd.int .i64) (fun c => c.getD 0 undef) w (fun m => some (Go.bits .and .i64 mask m == m)) := by
  intro W x c b hb hK hp
  have hK1 : c = [.int .i64 x] := hK
  subst hK1
  show Calls Tryz.prog 95 #[.int .i64 x, .pointer (some ⟨b1, 0, none⟩)] W _
  have q1 := (hb.cell (World.block_lt_of_cell? w _ h1)).trans h1
  have hB := Aside0.mk hb
  have hE := Aside0.mk (Option.some.inj hp)
  clear h1 hb hK hp
  go_enter Tryz.func95, Tryz.ntmps95
  go_wp2
  go_ret
  exact ⟨ret_b hE.out, hB.out⟩
set_option maxHeartbeats 1000000 in
theorem impl_votesBy_1.pred (l : List Int) (A : Option Addr) (c b1 : Nat) (w : World) (h1 : w.cell? ⟨b1, 0, none⟩ = some (.slice A l.length c)) (hC : Kd.C (Kd.int .i64) w A l.length l) (hc : l.length ≤ c) :
    PredI Tryz.prog 93 #[] #[.pointer (some ⟨b1, 0, none⟩)] w (fun mask => anyO (fun m => some (Go.bits .and .i64 mask m == m)) l) := by
  intro W x b hb hp
  show Calls Tryz.prog 93 #[.int .i64 x, .pointer (some ⟨b1, 0, none⟩)] W _
  have eg : ∀ args w, (callFunc 95 args).run Tryz.prog w = .ok (.enter 95 args) w := enters_of Tryz.func95 (by kernel_rfl) rfl
  have q1 := (hb.cell (World.block_lt_of_cell? w _ h1)).trans h1
  have hR := Aside0.mk (Kd.C_below hC hb)
  have hE := Aside0.mk hp
  clear h1 hb hC hp
  have q2 : (W.alloc (.cells #[.int .i64 x] 3)).cell? ⟨b1, 0, none⟩ = some (.slice A l.length c) := (Below.cell ((Below.refl _ W).alloc (Nat.le_refl _) _) (World.block_lt_of_cell? W _ q1)).trans q1
  go_enter Tryz.func93, Tryz.ntmps93
  go_wp2_with fail
  refine (containsFunc_int (fun m => some (Go.bits .and .i64 x m == m)) 95 #[.pointer (some ⟨W.heap.size, 0, none⟩)] eg A c l b _ ?_ hc ?_ hE.out).mono ?_
  · exact Kd.C_below hR.out ((Below.refl _ W).alloc (Nat.le_refl _) _)
  · exact impl_votesBy_11.pred x _ _ (by go_simp)
  · rintro e w' ⟨rfl, hb⟩
    go_wp2
    go_ret
    exact ⟨rfl, ((Below.refl _ W).alloc (Nat.le_refl _) _).trans (hb.mono (by simp))⟩
def votesOf_votesBy.f (k : Nat) (a0 : Int) (l1 : List Int) : Option (Int × List Bool) := impl_votesOf.f k a0 (fun mask => anyO (fun m => some (Go.bits .and .i64 mask m == m)) l1)
theorem votesOf_votesBy.calls (k : Nat) (a0 : Int) (A1 : Option Addr) (c1 : Nat) (l1 : List Int) (r1 : Int) (r2 : List Bool) (w : World) (hr1 : Kd.C (Kd.int .i64) w A1 l1.length l1) (hc1 : l1.length ≤ c1) (gb : Nat) (hcell : w.cell? ⟨gb, 0, none⟩ = some (.slice A1 l1.length c1)) (h : votesOf_votesBy.f k a0 l1 = some (r1, r2)) :
    Calls Tryz.prog 92 #[.int .i64 a0, .func (.func 93) #[] #[.pointer (some ⟨gb, 0, none⟩)]] w fun e w' => ∃ v1_ : Value, e = .returned (.agg #[.int .i64 r1, v1_]) ∧ Kd.R Kd.bool 4 w' w.heap.size (fun _ => True) v1_ r2 ∧ Below w.heap.size w w' :=
  impl_votesOf.calls k a0 _ 93 #[] #[.pointer (some ⟨gb, 0, none⟩)] (enters_of Tryz.func93 (by kernel_rfl) rfl) r1 r2 w (impl_votesBy_1.pred l1 A1 c1 gb w hcell hr1 hc1) h
end Go.Proofs.YtmbkmabpebjboaaGreat.Q
end
section
namespace Go.Proofs.YtmbkmabpebjboaaGreat.Q
open Go.RowKit Go.Proofs.YtmbkmabpebjboaaGreatW.PrintWords Go.Proofs.YtmbkmabpebjboaaGreatW.PrintLast Go.Proofs.YtmbkmabpebjboaaGreatW.PrintMore
attribute [local go_sem] max2_int min2_int max_two min_two max_three min_three max_four min_four
set_option linter.unusedVariables false
set_option linter.unusedSimpArgs false
def impl_votesBy.l0 : Nat → Int → List (List Int) → Int → Int → List Int → Option (Int × List Bool)
 | 0, _, _, _, _, _ => none
 | k + 1, x0, x9, x10, x11, x272000 => if x11 < x10 then (if 0 ≤ x11 then (if x11 < (x9.length : Int) then ((impl_maskOf.f k (rd_L1 x9 x11)).bind fun t273 => (if x272000.length < 17592186044416 then (impl_votesBy.l0 k x0 x9 x10 (wrap64 (x11 + 1)) (x272000 ++ [t273])) else (none))) else (none)) else (none)) else ((votesOf_votesBy.f k x0 x272000).bind fun bt277 => (some (bt277.1, bt277.2)))
def impl_votesBy.f (k : Nat) (a0 : Int) (l1 : List (List Int)) : Option (Int × List Bool) := impl_votesBy.l0 k a0 l1 (l1.length : Int) 0 (([] : List Int))
set_option maxHeartbeats 8000000 in
set_option maxRecDepth 100000 in
theorem impl_votesBy.calls (k : Nat) (a0 : Int) (A1 : Option Addr) (c1 : Nat) (l1 : List (List Int)) (r1 : Int) (r2 : List Bool) (w : World) (hr1 : Kd.C (Kd.slice 3 (Kd.int .i64)) w A1 l1.length l1) (hc1 : l1.length ≤ c1) (h : impl_votesBy.f k a0 l1 = some (r1, r2)) :
  Calls Tryz.prog 56 #[.int .i64 a0, .slice A1 l1.length c1] w fun e w' => ∃ v1_ : Value, e = .returned (.agg #[.int .i64 r1, v1_]) ∧ Kd.R Kd.bool 4 w' w.heap.size (fun _ => True) v1_ r2 ∧ Below w.heap.size w w' := by
 have hu61 := Tryz.underlying61
 have HR1 := Aside0.mk hr1
 have HC1 := Aside0.mk hc1
 clear hr1 hc1
 have HB := Aside0.mk (Below.refl w.heap.size w)
 have H : (impl_votesBy.l0 k a0 l1 (l1.length : Int) 0 (([] : List Int))) = some (r1, r2) := h
 clear h
 obtain ⟨y268, hy268⟩ : ∃ y_ : List Int, y_ = (([] : List Int)) := ⟨_, rfl⟩
 replace H : (impl_votesBy.l0 k a0 l1 (l1.length : Int) 0 y268) = some (r1, r2) := by first | (rw [hy268]; with_reducible exact H) | (have H2_ := (Option.bind_some _ _).symm.trans H; rw [hy268]; with_reducible exact H2_) | (have H2_ := (Option.bind_some _ _).symm.trans H; with_reducible exact H2_) | with_reducible exact H | (rw [hy268]; exact H) | exact H
 have Ny268 := Aside0.mk hy268
 clear hy268
 have H' := Aside0.mk H
 clear H
 go_enter Tryz.func56, Tryz.ntmps56
 go_wp2_with (first | ((with_reducible refine gate_dst (N := 4) rfl ?_); refine zq 4 #[.int .i64 0, .slice none 0 0] 61 ?_; intro gb267 hg w3 hbox hb; have n2_ := Aside0.mk ((by rw [hg]; exact (below_size (zh HB.out)) : w.heap.size ≤ gb267)); replace HB := Aside0.mk (below_step (zh HB.out) hb); have BK267 := Aside0.mk hbox; have GW267 := n2_; have GE267 := n2_; clear n2_ hb hbox hg) | ((with_reducible refine gate_dst (N := 8) rfl ?_); refine Kd.R_lit (Kd.int .i64) _ 3 ?hg (N := 8) ?hd (xs := ([] : List Int)) (inner := []) (ok := fun _ => True) (okp := fun _ => True) ?hr ?hp (fun _ hk => hk) trivial (Below.refl _ _) (Nat.le_refl _) (by simp) ?_; (case hd => rfl); (case hg => rfl); (case hr => first | (go_simp; done) | (go_simp; rfl)); (case hp => exact (Reps.none _ _)); intro v269 w4 ho5 hb hg_ hnew_; clear hg_ hnew_; (first | rw [← Ny268.out] at ho5 | (simp only [Int.reduceToNat] at ho5; rw [← Ny268.out] at ho5)); have n0_ := Aside0.mk (Kd.R_lower ho5 (below_size (zh HB.out))); have n1_ := Aside0.mk (blk_below (g := gb267) (o := .cells #[.int .i64 0, .slice none 0 0] 61 (0, 0)) (zb BK267.out) hb); have n2_ := Aside0.mk (below_step (zh HB.out) hb); clear BK267; clear HB; have HO270 := n0_; have BK267 := n1_; have HB := n2_; clear n0_ n1_ n2_; clear hb ho5) | ((with_reducible refine gate_dst (N := 5) rfl ?_); refine zq 5 #[.slice none 0 0] 65 ?_; intro gb271 hg w6 hbox hb; have n0_ := Aside0.mk (Kd.R_below (zr HO270.out) hb); have n1_ := Aside0.mk (blk_below (g := gb267) (o := .cells #[.int .i64 0, .slice none 0 0] 61 (0, 0)) (zb BK267.out) hb); have n2_ := Aside0.mk (below_step (zh HB.out) hb); have n3_ := Aside0.mk (hbox); have n4_ := Aside0.mk ((by rw [hg]; exact (below_size (zh HB.out)) : w.heap.size ≤ gb271)); have n5_ := Aside0.mk ((by rw [hg]; exact (below_size (zh HB.out)) : w.heap.size ≤ gb271)); have n6_ := Aside0.mk ((by rw [hg]; exact Nat.ne_of_lt (blk_lt (g := gb267) (o := .cells #[.int .i64 0, .slice none 0 0] 61 (0, 0)) (zb BK267.out)) : gb267 ≠ gb271)); have n7_ := Aside0.mk ((by rw [hg]; exact Nat.ne_of_gt (blk_lt (g := gb267) (o := .cells #[.int .i64 0, .slice none 0 0] 61 (0, 0)) (zb BK267.out)) : gb271 ≠ gb267)); clear HO270; clear BK267; clear HB; have HO270 := n0_; have BK267 := n1_; have HB := n2_; have BK271 := n3_; have GW271 := n4_; have GE271 := n5_; have NB267_271 := n6_; have NB271_267 := n7_; clear n0_ n1_ n2_ n3_ n4_ n5_ n6_ n7_; clear hb hbox hg; obtain ⟨Ao7, co7, eo7⟩ := Kd.R_slice HO270.out; subst eo7; have hnb8 := NB271_267.out; have hnc8 := NB267_271.out; have hcz9_0 : w6.cell? ⟨gb271, 0, none⟩ = some (.slice none 0 0) := (blk_cell BK271.out 0).trans rfl; have hfz9_0 := blk_frozen BK271.out 0))
 go_loopg [11] k (fun kq v11 w' => ∃ (x11_1 : Int) (x272000_1 : List Int) (u272000 : Value), v11 = .int .i64 x11_1 ∧ Aside0 (impl_votesBy.l0 kq a0 l1 (l1.length : Int) x11_1 x272000_1 = some (r1, r2)) ∧ Aside0 (kq ≤ k) ∧ Aside0 (Kd.R (Kd.int .i64) 3 w' w.heap.size (fun _ => True) u272000 x272000_1) ∧ Aside0 (w'.heap[gb267]? = some (.cells #[.int .i64 0, (.slice none 0 0)] 61 (0, 0))) ∧ Aside0 (w'.heap[gb271]? = some (.cells #[u272000] 65 (0, 0))) ∧ Aside0 (Below w.heap.size w w'))
 case atStart => exact ⟨(0), (y268), (.slice Ao7 y268.length co7), (by first | rfl | (simp; done) | (simp [*]; done)), H', ⟨Nat.le_refl _⟩, ⟨by (with_reducible repeat (first | apply Kd.R_alloc | apply Kd.R_drewN | apply Kd.R_drew)); exact Kd.R_mono (Kd.R_far (p := ⟨gb271, 0, none⟩) (Kd.R_types HO270.out BK271.out (by decide)) (fun _ hk => hk.2) (.slice Ao7 y268.length co7)) (fun _ hk => trivial)⟩, ⟨zf1 BK267.out NB267_271.out⟩, ⟨by (with_reducible repeat (first | refine blk_drewN ?_ _ | refine blk_drew ?_ | refine blk_alloc ?_ _)); refine blk_put (cs := #[.slice none 0 0]) ?_ 0 _ rfl; (with_reducible repeat (first | refine blk_drewN ?_ _ | refine blk_drew ?_ | refine blk_alloc ?_ _)); exact BK271.out⟩, ⟨zh HB.out⟩⟩
 case round =>
  clear H'
  try clear c1
  try clear p2
  try clear c5
  try clear c8
  try clear hcz9_0
  try clear hfz9_0
  obtain ⟨x11_1, x272000_1, u272000, rfl, HA, HK1, HO_272000, BK267, BK271, HB⟩ := hrel
  cases gk with
  | zero => exact absurd HA.out (by simp [impl_votesBy.l0])
  | succ k1 =>
   have H := HA.out
   clear HA
   simp only [impl_votesBy.l0] at H
   by_cases c10 : x11_1 < (l1.length : Int)
   rotate_left
   ·rw [if_neg c10] at H
    have c10b0 : decide (x11_1 < (l1.length : Int)) = false := decide_eq_false c10
    clear c10
    replace H := Option.bind_eq_some_iff.mp H
    obtain ⟨⟨t277, t278⟩, A190, H⟩ := H
    replace H : (some (t277, t278)) = some (r1, r2) := H
    have A19 := Aside0.mk A190
    clear A190
    simp only [Option.some.injEq, Prod.mk.injEq] at H
    obtain ⟨rfl, rfl⟩ := H
    obtain ⟨Ao20, co20, eo20⟩ := Kd.R_slice HO_272000.out
    subst eo20
    go_wp2_with (first | ((with_reducible refine gate_callee (f := 92) rfl ?_); refine zl 23 Tryz.func92 #[.int .i64 a0, .func (.func 93) #[] #[.pointer (some ⟨gb271, 0, none⟩)]] ?_; (with_reducible refine (votesOf_votesBy.calls k1 a0 _ _ x272000_1 t277 t278 _ ?side1 ?side2 gb271 (by first | exact (blk_cell (zb BK271.out) 0).trans rfl | exact (blk_cell (blk_put (zb BK271.out) 0 _ rfl) 0).trans rfl | exact zb BK271.out) A19.out).mono ?_); (case side1 => repeat (first | exact (Kd.R_reads' HO_272000.out).2.2 | (with_reducible refine Kd.C_alloc ?_ _) | (with_reducible refine Kd.C_drewN ?_ _) | (with_reducible refine Kd.C_drew ?_))); (case side2 => exact (Kd.R_reads' HO_272000.out).2.1); rintro e w21 ⟨v279, rfl, ho0, hb⟩; refine ⟨_, rfl, ?_⟩; have n0_ := Aside0.mk (Kd.R_below (zr HO_272000.out) hb); have n1_ := Aside0.mk (Kd.R_lower ho0 (below_size (zh HB.out))); have n2_ := Aside0.mk (blk_below (g := gb267) (o := .cells #[.int .i64 0, .slice none 0 0] 61 (0, 0)) (zb BK267.out) hb); have n3_ := Aside0.mk (blk_below (g := gb271) (o := .cells #[.slice Ao20 x272000_1.length co20] 65 (0, 0)) (zb BK271.out) hb); have n4_ := Aside0.mk (below_step (zh HB.out) hb); clear HO_272000; clear BK267; clear BK271; clear HB; have HO_272000 := n0_; have HO280 := n1_; have BK267 := n2_; have BK271 := n3_; have HB := n4_; clear n0_ n1_ n2_ n3_ n4_; (try clear hb); (try clear hb2); (try clear hk); (try clear hi); (try clear ho0); have hnb22 := NB267_271.out; have hnc22 := NB271_267.out; have hcz23_0 : w21.cell? ⟨gb267, 0, none⟩ = some (.int .i64 0) := (blk_cell BK267.out 0).trans rfl; have hcz23_1 : w21.cell? ⟨gb267, 1, none⟩ = some (.slice none 0 0) := (blk_cell BK267.out 1).trans rfl; have hfz23_0 := blk_frozen BK267.out 0; have hfz23_1 := blk_frozen BK267.out 1; obtain ⟨Ao24, co24, eo24⟩ := Kd.R_slice HO280.out; subst eo24))
    refine bodyPost_ret (results_cell_row rfl _ _ gb267 61 #[.int .i64 t277, .slice Ao24 t278.length co24] (0, 0) _ rfl (by (with_reducible repeat (first | refine blk_drewN ?_ _ | refine blk_drew ?_ | refine blk_alloc ?_ _)); refine blk_put (cs := #[.int .i64 t277, .slice none 0 0]) ?_ 1 _ rfl; (with_reducible repeat (first | refine blk_drewN ?_ _ | refine blk_drew ?_ | refine blk_alloc ?_ _)); refine blk_put (cs := #[.int .i64 0, .slice none 0 0]) ?_ 0 _ rfl; (with_reducible repeat (first | refine blk_drewN ?_ _ | refine blk_drew ?_ | refine blk_alloc ?_ _)); exact BK267.out) Tryz.underlying61 rfl (by kernel_rfl)) rfl ?_
    exact ⟨_, by first | rfl | (simp [*, errW_none, errW_some] <;> rfl), by (with_reducible repeat (first | apply Kd.R_alloc | apply Kd.R_drewN | apply Kd.R_drew)); exact Kd.R_mono (Kd.R_far (p := ⟨gb267, 1, none⟩) (Kd.R_far (p := ⟨gb267, 0, none⟩) (Kd.R_types HO280.out BK267.out (by decide)) (fun _ hk => hk.2) (.int .i64 t277)) (fun _ hk => hk.2) (.slice Ao24 t278.length co24)) (fun _ hk => trivial), zh HB.out⟩
   rw [if_pos c10] at H
   have c10b0 : decide (x11_1 < (l1.length : Int)) = true := decide_eq_true c10
   clear c10
   by_cases c11 : 0 ≤ x11_1
   rotate_left
   ·rw [if_neg c11] at H
    exact absurd H (by simp)
   rw [if_pos c11] at H
   have c11b0 : decide (0 ≤ x11_1) = true := decide_eq_true c11
   clear c11
   by_cases c12 : x11_1 < (l1.length : Int)
   rotate_left
   ·rw [if_neg c12] at H
    exact absurd H (by simp)
   rw [if_pos c12] at H
   have c12b0 : decide (x11_1 < (l1.length : Int)) = true := decide_eq_true c12
   clear c12
   replace H := Option.bind_eq_some_iff.mp H
   obtain ⟨t273, A130, H⟩ := H
   replace H : (if x272000_1.length < 17592186044416 then (impl_votesBy.l0 k1 a0 l1 (l1.length : Int) (wrap64 (x11_1 + 1)) (x272000_1 ++ [t273])) else (none)) = some (r1, r2) := H
   have A13 := Aside0.mk A130
   clear A130
   by_cases c14 : x272000_1.length < 17592186044416
   rotate_left
   ·rw [if_neg c14] at H
    exact absurd H (by simp)
   rw [if_pos c14] at H
   have LMc14 := Aside0.mk c14
   clear c14
   obtain ⟨y274, hy274⟩ : ∃ y_ : List Int, y_ = (x272000_1 ++ [t273]) := ⟨_, rfl⟩
   replace H : (impl_votesBy.l0 k1 a0 l1 (l1.length : Int) (wrap64 (x11_1 + 1)) y274) = some (r1, r2) := by first | (rw [hy274]; with_reducible exact H) | (have H2_ := (Option.bind_some _ _).symm.trans H; rw [hy274]; with_reducible exact H2_) | (have H2_ := (Option.bind_some _ _).symm.trans H; with_reducible exact H2_) | with_reducible exact H | (rw [hy274]; exact H) | exact H
   have Ny274 := Aside0.mk hy274
   clear hy274
   have H' := Aside0.mk H
   clear H
   have p272 : 0 ≤ (x11_1 : Int) := zk
   have q272 : x11_1 < (l1.length : Int) := zk
   obtain ⟨ad272, A272_0, c272_0, e272, hx272_0, hl272_0, hi272_0⟩ := at_L1 HR1.out x11_1 p272 q272
   cases e272
   replace hx272_0 := zx HB.out hx272_0
   have HR272_0 := Aside0.mk hi272_0
   have HC272_0 := Aside0.mk hl272_0
   clear hi272_0 hl272_0
   replace p272 := eq_true p272
   replace q272 := eq_true q272
   try go_wp2
   have n0_ := Aside0.mk (Kd.R_drew HO_272000.out)
   have n1_ := Aside0.mk (blk_drew BK267.out)
   have n2_ := Aside0.mk (blk_drew BK271.out)
   have n3_ := Aside0.mk (below_drew1 HB.out)
   clear HO_272000
   clear BK267
   clear BK271
   clear HB
   have HO_272000 := n0_
   have BK267 := n1_
   have BK271 := n2_
   have HB := n3_
   clear n0_ n1_ n2_ n3_
   refine start_ (n := 6) (S := fun w' => w'.cell? ⟨gb271, 0, none⟩ = some (u272000)) (ds := [5]) (tb 6 0) (by kernel_rfl) rfl rfl ((blk_cell BK271.out 0).trans rfl) (fun hHeld => ?_)
   generalize wr.drew = w15 at HO_272000 BK267 BK271 HB hHeld ⊢
   refine zp1 (i := 1) (N := some 16) (tb 6 2) rfl rfl (by kernel_rfl) ?_
   refine take_ (i := 0) (N := some 15) (v := ?_) (a' := ?_) (tb 6 3) rfl rfl (by kernel_rfl) (fun _ _ _ h => h) (Or.inl ⟨by rfl, ?_⟩) hHeld ?_ ?_
   rotate_left
   ·intro w' s0
    go_simp
    with_reducible rfl
   rotate_left
   ·simp only [Act.put, List.setIfInBounds_toArray, List.set_cons_zero, List.set_cons_succ, i64_w, i32_w]
    rfl
   refine one_ (i := 2) (N := some 17) (tb 6 7) rfl rfl (by kernel_rfl) (by decide) (fun K hK => ?_)
   refine goes_ Tryz.func91 (by kernel_rfl) rfl #[.slice A272_0 (rd_L1 l1 x11_1).length c272_0] (by rfl) rfl rfl (by (try simp only [List.map_toArray, List.map_cons, List.map_nil]); first | done | rfl | (simp only [List.length_drop, List.length_take]; rfl)) ?_
   with_reducible refine (impl_maskOf.calls k1 _ _ (rd_L1 l1 x11_1) t273 _ ?side1 ?side2 A13.out).mono ?_
   (case side1 => repeat (first | exact (Kd.C_below HR272_0.out HB.out) | (with_reducible refine Kd.C_alloc ?_ _) | (with_reducible refine Kd.C_drewN ?_ _) | (with_reducible refine Kd.C_drew ?_)))
   (case side2 => exact HC272_0.out)
   rintro e w' ⟨rfl, ⟨nd, rfl⟩⟩
   refine ⟨_, rfl, ?_⟩
   refine hK.out _ _ ((blk_cell BK271.out 0).trans rfl) (fun hHeld => ?_)
   clear hK K
   refine zn1 ?_
   refine one_ (i := 3) (N := some 18) (tb 6 15) rfl rfl (by kernel_rfl) (by decide) (fun K hK => ?_)
   refine value_ (w1 := ?_) (v := ?_) (by rfl) rfl ?_ ?_
   rotate_left 2
   ·go_simp
    constructor
    ·rfl
    ·rfl
   refine hK.out _ _ ((blk_cell (blk_alloc BK271.out _) 0).trans rfl) (fun hHeld => ?_)
   clear hK K
   refine zn1 ?_
   refine one_ (i := 4) (N := some 19) (tb 6 31) rfl rfl (by kernel_rfl) (by decide) (fun K hK => ?_)
   refine Kd.R_append_step (Kd.int .i64) (w0 := w) w.heap.size (by rfl) (.tmp 15) (.tmp 18) 65 3 (.int .i64 0) 8 rfl Tryz.underlying65 info3 rfl (by decide) (by omega) u272000 x272000_1 t273 [.int .i64 t273] (fun _ => True) (fun _ => False) rfl rfl ?aP (fun _ hk => hk.elim) ?aF ?aO ?aB ?aS ?aL ?_
   (case aP => exact rfl)
   (case aB => exact (zh HB.out))
   (case aF => exact (fun _ _ => trivial))
   (case aO => exact (zr HO_272000.out))
   (case aS => exact (below_size (zh HB.out)))
   (case aL => have := LMc14.out; omega)
   intro v275 w16 ho hb hg hat
   rw [← Ny274.out] at ho
   have n0_ := Aside0.mk (blk_grown (g := gb267) (o := .cells #[.int .i64 0, .slice none 0 0] 61 (0, 0)) (zb BK267.out) hg (Kd.R_ne HO_272000.out BK267.out (by decide)))
   have n1_ := Aside0.mk (blk_grown (g := gb271) (o := .cells #[u272000] 65 (0, 0)) (zb BK271.out) hg (Kd.R_ne HO_272000.out BK271.out (by decide)))
   have n2_ := Aside0.mk (hb)
   have n3_ := Aside0.mk (ho)
   clear BK267
   clear BK271
   clear HB
   clear HO_272000
   have BK267 := n0_
   have BK271 := n1_
   have HB := n2_
   have HO276 := n3_
   clear n0_ n1_ n2_ n3_
   clear ho hb hg hat
   obtain ⟨Ao17, co17, eo17⟩ := Kd.R_slice HO276.out
   (first | subst eo17 | (injection eo17 with f1_ f2_ f3_; have f4_ := f1_.symm; have f5_ := f3_.symm; clear f1_ f2_ f3_; subst f4_; subst f5_))
   refine hK.out _ _ ((blk_cell BK271.out 0).trans rfl) (fun hHeld => ?_)
   clear hK K
   refine zn1 ?_
   refine last_ (i := 5) (N := none) (tb 6 63) rfl rfl (by kernel_rfl) (by decide) (fun K hK => ?_)
   have hs18 : w16.cell? ⟨gb271, 0, none⟩ = some (u272000) := (blk_cell BK271.out 0).trans rfl
   have hfs18 := blk_frozen BK271.out 0
   have hns18_0 := NB267_271.out
   have hms18_0 := NB271_267.out
   refine skip_ (w1 := ?_) (by rfl) rfl ?_ ?_
   rotate_left
   ·go_simp
    rfl
   refine hK.out _ _ ?_
   clear hK K
   refine done_ (by kernel_rfl) ?_
   try go_wp2
   go_roundg k1
   case measure => have := HK1.out; omega
   case rel => exact ⟨(wrap64 (x11_1 + 1)), (y274), (.slice Ao17 y274.length co17), (by first | rfl | (simp; done) | (simp [*]; done)), H', ⟨by have := HK1.out; omega⟩, ⟨by (with_reducible repeat (first | apply Kd.R_alloc | apply Kd.R_drewN | apply Kd.R_drew)); exact Kd.R_mono (Kd.R_far (p := ⟨gb271, 0, none⟩) (Kd.R_types HO276.out BK271.out (by decide)) (fun _ hk => hk.2) (.slice Ao17 y274.length co17)) (fun _ hk => trivial)⟩, ⟨zf1 BK267.out NB267_271.out⟩, ⟨by (with_reducible repeat (first | refine blk_drewN ?_ _ | refine blk_drew ?_ | refine blk_alloc ?_ _)); refine blk_put (cs := #[u272000]) ?_ 0 _ rfl; (with_reducible repeat (first | refine blk_drewN ?_ _ | refine blk_drew ?_ | refine blk_alloc ?_ _)); exact BK271.out⟩, ⟨zh HB.out⟩⟩
def impl_Game_votes.f (k : Nat) (a0_0 : Int) (l0_1 : List (List Int)) : Option (Int × List Bool) := (impl_votesBy.f k a0_0 l0_1).bind fun bt283 => (some (bt283.1, bt283.2))
set_option maxHeartbeats 8000000 in
set_option maxRecDepth 100000 in
theorem impl_Game_votes.calls (k : Nat) (a0_0 : Int) (A0_1 : Option Addr) (c0_1 : Nat) (l0_1 : List (List Int)) (r1 : Int) (r2 : List Bool) (w : World) (hr0_1 : Kd.C (Kd.slice 3 (Kd.int .i64)) w A0_1 l0_1.length l0_1) (hc0_1 : l0_1.length ≤ c0_1) (h : impl_Game_votes.f k a0_0 l0_1 = some (r1, r2)) :
  Calls Tryz.prog 31 #[.agg #[.int .i64 a0_0, .slice A0_1 l0_1.length c0_1]] w fun e w' => ∃ v1_ : Value, e = .returned (.agg #[.int .i64 r1, v1_]) ∧ Kd.R Kd.bool 4 w' w.heap.size (fun _ => True) v1_ r2 ∧ Below w.heap.size w w' := by
 have hu28 := Tryz.underlying28
 have hu61 := Tryz.underlying61
 have HR0_1 := Aside0.mk hr0_1
 have HC0_1 := Aside0.mk hc0_1
 clear hr0_1 hc0_1
 have HB := Aside0.mk (Below.refl w.heap.size w)
 have H : ((impl_votesBy.f k a0_0 l0_1).bind fun bt283 => (some (bt283.1, bt283.2))) = some (r1, r2) := h
 clear h
 replace H := Option.bind_eq_some_iff.mp H
 obtain ⟨⟨t283, t284⟩, A20, H⟩ := H
 replace H : (some (t283, t284)) = some (r1, r2) := H
 have A2 := Aside0.mk A20
 clear A20
 simp only [Option.some.injEq, Prod.mk.injEq] at H
 obtain ⟨rfl, rfl⟩ := H
 go_enter Tryz.func31, Tryz.ntmps31
 go_wp2_with (first | ((with_reducible refine gate_dst (N := 1) rfl ?_); refine zq 1 #[.int .i64 a0_0, .slice A0_1 l0_1.length c0_1] 28 ?_; intro gb281 hg w3 hbox hb; have n2_ := Aside0.mk ((by rw [hg]; exact (below_size (zh HB.out)) : w.heap.size ≤ gb281)); replace HB := Aside0.mk (below_step (zh HB.out) hb); have BK281 := Aside0.mk hbox; have GW281 := n2_; have GE281 := n2_; clear n2_ hb hbox hg) | ((with_reducible refine gate_dst (N := 2) rfl ?_); refine zq 2 #[.int .i64 0, .slice none 0 0] 61 ?_; intro gb282 hg w4 hbox hb; have n0_ := Aside0.mk (blk_below (g := gb281) (o := .cells #[.int .i64 a0_0, .slice A0_1 l0_1.length c0_1] 28 (0, 0)) (zb BK281.out) hb); have n1_ := Aside0.mk (below_step (zh HB.out) hb); have n2_ := Aside0.mk (hbox); have n3_ := Aside0.mk ((by rw [hg]; exact (below_size (zh HB.out)) : w.heap.size ≤ gb282)); have n4_ := Aside0.mk ((by rw [hg]; exact (below_size (zh HB.out)) : w.heap.size ≤ gb282)); have n5_ := Aside0.mk ((by rw [hg]; exact Nat.ne_of_lt (blk_lt (g := gb281) (o := .cells #[.int .i64 a0_0, .slice A0_1 l0_1.length c0_1] 28 (0, 0)) (zb BK281.out)) : gb281 ≠ gb282)); have n6_ := Aside0.mk ((by rw [hg]; exact Nat.ne_of_gt (blk_lt (g := gb281) (o := .cells #[.int .i64 a0_0, .slice A0_1 l0_1.length c0_1] 28 (0, 0)) (zb BK281.out)) : gb282 ≠ gb281)); clear BK281; clear HB; have BK281 := n0_; have HB := n1_; have BK282 := n2_; have GW282 := n3_; have GE282 := n4_; have NB281_282 := n5_; have NB282_281 := n6_; clear n0_ n1_ n2_ n3_ n4_ n5_ n6_; clear hb hbox hg; have hnb5 := NB281_282.out; have hnc5 := NB282_281.out; have hcz6_0 : w4.cell? ⟨gb281, 0, none⟩ = some (.int .i64 a0_0) := (blk_cell BK281.out 0).trans rfl; have hcz6_1 : w4.cell? ⟨gb281, 1, none⟩ = some (.slice A0_1 l0_1.length c0_1) := (blk_cell BK281.out 1).trans rfl; have hfz6_0 := blk_frozen BK281.out 0; have hfz6_1 := blk_frozen BK281.out 1) | ((with_reducible refine gate_callee (f := 56) rfl ?_); refine zl 7 Tryz.func56 #[.int .i64 a0_0, .slice A0_1 l0_1.length c0_1] ?_; (with_reducible refine (impl_votesBy.calls k a0_0 _ _ l0_1 t283 t284 _ ?side1 ?side2 A2.out).mono ?_); (case side1 => repeat (first | exact (Kd.C_below HR0_1.out HB.out) | (with_reducible refine Kd.C_alloc ?_ _) | (with_reducible refine Kd.C_drewN ?_ _) | (with_reducible refine Kd.C_drew ?_))); (case side2 => exact HC0_1.out); rintro e w7 ⟨v285, rfl, ho0, hb⟩; refine ⟨_, rfl, ?_⟩; have n0_ := Aside0.mk (Kd.R_lower ho0 (below_size (zh HB.out))); have n1_ := Aside0.mk (blk_below (g := gb281) (o := .cells #[.int .i64 a0_0, .slice A0_1 l0_1.length c0_1] 28 (0, 0)) (zb BK281.out) hb); have n2_ := Aside0.mk (blk_below (g := gb282) (o := .cells #[.int .i64 0, .slice none 0 0] 61 (0, 0)) (zb BK282.out) hb); have n3_ := Aside0.mk (below_step (zh HB.out) hb); clear BK281; clear BK282; clear HB; have HO286 := n0_; have BK281 := n1_; have BK282 := n2_; have HB := n3_; clear n0_ n1_ n2_ n3_; (try clear hb); (try clear hb2); (try clear hk); (try clear hi); (try clear ho0); have hcz8_0 : w7.cell? ⟨gb282, 0, none⟩ = some (.int .i64 0) := (blk_cell BK282.out 0).trans rfl; have hcz8_1 : w7.cell? ⟨gb282, 1, none⟩ = some (.slice none 0 0) := (blk_cell BK282.out 1).trans rfl; have hfz8_0 := blk_frozen BK282.out 0; have hfz8_1 := blk_frozen BK282.out 1; obtain ⟨Ao9, co9, eo9⟩ := Kd.R_slice HO286.out; subst eo9))
 refine bodyPost_ret (results_cell_row rfl _ _ gb282 61 #[.int .i64 t283, .slice Ao9 t284.length co9] (0, 0) _ rfl (by (with_reducible repeat (first | refine blk_drewN ?_ _ | refine blk_drew ?_ | refine blk_alloc ?_ _)); refine blk_put (cs := #[.int .i64 t283, .slice none 0 0]) ?_ 1 _ rfl; (with_reducible repeat (first | refine blk_drewN ?_ _ | refine blk_drew ?_ | refine blk_alloc ?_ _)); refine blk_put (cs := #[.int .i64 0, .slice none 0 0]) ?_ 0 _ rfl; (with_reducible repeat (first | refine blk_drewN ?_ _ | refine blk_drew ?_ | refine blk_alloc ?_ _)); exact BK282.out) Tryz.underlying61 rfl (by kernel_rfl)) rfl ?_
 exact ⟨_, by first | rfl | (simp [*, errW_none, errW_some] <;> rfl), by (with_reducible repeat (first | apply Kd.R_alloc | apply Kd.R_drewN | apply Kd.R_drew)); exact Kd.R_mono (Kd.R_far (p := ⟨gb282, 1, none⟩) (Kd.R_far (p := ⟨gb282, 0, none⟩) (Kd.R_types HO286.out BK282.out (by decide)) (fun _ hk => hk.2) (.int .i64 t283)) (fun _ hk => hk.2) (.slice Ao9 t284.length co9)) (fun _ hk => trivial), zh HB.out⟩
section
variable (a1 : Int → Option Bool)
def impl_votes_sets.l0 : Nat → List (List Int) → Int → Int → Option ((List (List Int)))
 | 0, _, _, _ => none
 | k + 1, x5, x10, x11 => if x11 < x10 then ((a1 x11).bind fun t316 => (if t316 = true then ((impl_setOf.f k x11).bind fun t317 => (if x5.length < 5864062014805 then (impl_votes_sets.l0 k (x5 ++ [t317]) x10 (wrap64 (x11 + 1))) else (none))) else (impl_votes_sets.l0 k x5 x10 (wrap64 (x11 + 1))))) else ((sortSets.f x5).bind fun t_ => (some t_))
def impl_votes_sets.f (k : Nat) (a0_0 : Int) (l0_1 : List Bool) (a1 : Int → Option Bool) : Option ((List (List Int))) := impl_votes_sets.l0 a1 k (([] : List (List Int))) (l0_1.length : Int) 0
theorem impl_votes_sets.mono_l : ∀ k, (∀ y0 y1 y2, LeO (impl_votes_sets.l0 a1 k y0 y1 y2) (impl_votes_sets.l0 a1 (k + 1) y0 y1 y2))
 | 0 => fun _ _ _ r h => by simp [impl_votes_sets.l0] at h
 | k + 1 => by
  have ih0 := impl_votes_sets.mono_l k
  ·intro y0 y1 y2
   unfold impl_votes_sets.l0
   repeat' first
   | (with_reducible exact ih0 _ _ _)
   | (with_reducible exact impl_setOf.mono _ _)
   | (with_reducible exact LeO.refl _)
   | (with_reducible exact LeO.none _)
   | (with_reducible refine LeO.ite ?_ ?_)
   | (with_reducible refine LeO.bind ?_ (fun _ => ?_))
   | exact ih0 _ _ _
   | exact impl_setOf.mono _ _
   | exact LeO.none _
   | refine LeO.ite ?_ ?_
   | refine LeO.bind ?_ (fun _ => ?_)
theorem impl_votes_sets.mono : ∀ a0 a1 a2 k, LeO (impl_votes_sets.f k a0 a1 a2) (impl_votes_sets.f (k + 1) a0 a1 a2) := by
 intro a0 a1 a2 k
 have ih0 := impl_votes_sets.mono_l a2 k
 unfold impl_votes_sets.f
 repeat' first
   | (with_reducible exact ih0 _ _ _)
   | (with_reducible exact impl_setOf.mono _ _)
   | (with_reducible exact LeO.refl _)
   | (with_reducible exact LeO.none _)
   | (with_reducible refine LeO.ite ?_ ?_)
   | (with_reducible refine LeO.bind ?_ (fun _ => ?_))
   | exact ih0 _ _ _
   | exact impl_setOf.mono _ _
   | exact LeO.none _
   | refine LeO.ite ?_ ?_
   | refine LeO.bind ?_ (fun _ => ?_)
set_option maxHeartbeats 8000000 in
set_option maxRecDepth 100000 in
theorem impl_votes_sets.calls (k : Nat) (a0_0 : Int) (A0_1 : Option Addr) (c0_1 : Nat) (l0_1 : List Bool) (a1 : Int → Option Bool) (g_ : Nat) (fa_ lb_ : Array Value) (eg_ : ∀ args w, (callFunc g_ args).run Tryz.prog w = .ok (.enter g_ args) w) (r : List (List Int)) (w : World) (hp0_ : PredI Tryz.prog g_ fa_ lb_ w a1) (hr0_1 : Kd.C Kd.bool w A0_1 l0_1.length l0_1) (hc0_1 : l0_1.length ≤ c0_1) (h : impl_votes_sets.f k a0_0 l0_1 a1 = some r) :
  Calls Tryz.prog 144 #[.agg #[.int .i64 a0_0, .slice A0_1 l0_1.length c0_1], .func (.func g_) fa_ lb_] w fun e w' => ∃ v0_ : Value, e = .returned (v0_) ∧ Kd.S (Kd.slice 3 (Kd.int .i64)) 65 w' w.heap.size (fun _ => True) v0_ r ∧ Below w.heap.size w w' := by
 have hp_ := Aside0.mk hp0_
 clear hp0_
 have hu61 := Tryz.underlying61
 have HR0_1 := Aside0.mk hr0_1
 have HC0_1 := Aside0.mk hc0_1
 clear hr0_1 hc0_1
 have HB := Aside0.mk (Below.refl w.heap.size w)
 have H : (impl_votes_sets.l0 a1 k (([] : List (List Int))) (l0_1.length : Int) 0) = some r := h
 clear h
 obtain ⟨y313, hy313⟩ : ∃ y_ : List (List Int), y_ = (([] : List (List Int))) := ⟨_, rfl⟩
 replace H : (impl_votes_sets.l0 a1 k y313 (l0_1.length : Int) 0) = some r := by first | (rw [hy313]; with_reducible exact H) | (have H2_ := (Option.bind_some _ _).symm.trans H; rw [hy313]; with_reducible exact H2_) | (have H2_ := (Option.bind_some _ _).symm.trans H; with_reducible exact H2_) | with_reducible exact H | (rw [hy313]; exact H) | exact H
 have Ny313 := Aside0.mk hy313
 clear hy313
 have H' := Aside0.mk H
 clear H
 go_enter Tryz.func144, Tryz.ntmps144
 go_wp2_with (first | ((with_reducible refine gate_dst (N := 2) rfl ?_); refine zq 2 #[.int .i64 a0_0, .slice A0_1 l0_1.length c0_1] 61 ?_; intro gb312 hg w3 hbox hb; have n2_ := Aside0.mk ((by rw [hg]; exact (below_size (zh HB.out)) : w.heap.size ≤ gb312)); replace HB := Aside0.mk (below_step (zh HB.out) hb); have BK312 := Aside0.mk hbox; have GW312 := n2_; have GE312 := n2_; clear n2_ hb hbox hg) | ((with_reducible refine gate_dst (N := 7) rfl ?_); refine Kd.S_lit (Kd.slice 3 (Kd.int .i64)) _ 65 ?hg (N := 7) ?hd (xs := ([] : List (List Int))) (inner := []) (ok := fun _ => True) (okp := fun _ => True) ?hr ?hp (fun _ hk => hk) trivial (Below.refl _ _) (Nat.le_refl _) (by simp) ?_; (case hd => rfl); (case hg => rfl); (case hr => first | (go_simp; done) | (go_simp; rfl)); (case hp => exact (Reps.none _ _)); intro v314 w4 ho5 hb hg_ hnew_; clear hg_ hnew_; (first | rw [← Ny313.out] at ho5 | (simp only [Int.reduceToNat] at ho5; rw [← Ny313.out] at ho5)); have n0_ := Aside0.mk (Kd.S_lower ho5 (below_size (zh HB.out))); have n1_ := Aside0.mk (blk_below (g := gb312) (o := .cells #[.int .i64 a0_0, .slice A0_1 l0_1.length c0_1] 61 (0, 0)) (zb BK312.out) hb); have n2_ := Aside0.mk (below_step (zh HB.out) hb); clear BK312; clear HB; have HO315 := n0_; have BK312 := n1_; have HB := n2_; clear n0_ n1_ n2_; clear hb ho5; have hcz6_0 : w4.cell? ⟨gb312, 0, none⟩ = some (.int .i64 a0_0) := (blk_cell BK312.out 0).trans rfl; have hcz6_1 : w4.cell? ⟨gb312, 1, none⟩ = some (.slice A0_1 l0_1.length c0_1) := (blk_cell BK312.out 1).trans rfl; have hfz6_0 := blk_frozen BK312.out 0; have hfz6_1 := blk_frozen BK312.out 1))
 go_loopg [5, 11] k (fun kq v5 v11 w' => ∃ (x5_1 : List (List Int)) (x11_1 : Int), v11 = .int .i64 x11_1 ∧ Aside0 (impl_votes_sets.l0 a1 kq x5_1 (l0_1.length : Int) x11_1 = some r) ∧ Aside0 (kq ≤ k) ∧ Aside0 (Kd.S (Kd.slice 3 (Kd.int .i64)) 65 w' w.heap.size (fun _ => True) v5 x5_1) ∧ Aside0 (w'.heap[gb312]? = some (.cells #[.int .i64 a0_0, (.slice A0_1 l0_1.length c0_1)] 61 (0, 0))) ∧ Aside0 (Below w.heap.size w w'))
 case atStart => exact ⟨(y313), (0), (by first | rfl | (simp; done) | (simp [*]; done)), H', ⟨Nat.le_refl _⟩, ⟨by (with_reducible repeat (first | apply Kd.S_alloc | apply Kd.S_drewN | apply Kd.S_drew)); exact HO315.out⟩, ⟨zb BK312.out⟩, ⟨zh HB.out⟩⟩
 case round =>
  clear H'
  try clear c1
  try clear p2
  try clear hcz6_0
  try clear hcz6_1
  try clear hfz6_0
  try clear hfz6_1
  obtain ⟨x5_1, x11_1, rfl, HA, HK1, HO_5, BK312, HB⟩ := hrel
  cases gk with
  | zero => exact absurd HA.out (by simp [impl_votes_sets.l0])
  | succ k1 =>
   have H := HA.out
   clear HA
   simp only [impl_votes_sets.l0] at H
   by_cases c7 : x11_1 < (l0_1.length : Int)
   ·rw [if_pos c7] at H
    have c7b0 : decide (x11_1 < (l0_1.length : Int)) = true := decide_eq_true c7
    clear c7
    replace H := Option.bind_eq_some_iff.mp H
    obtain ⟨t316, A80, H⟩ := H
    replace H : (if t316 = true then ((impl_setOf.f k1 x11_1).bind fun t317 => (if x5_1.length < 5864062014805 then (impl_votes_sets.l0 a1 k1 (x5_1 ++ [t317]) (l0_1.length : Int) (wrap64 (x11_1 + 1))) else (none))) else (impl_votes_sets.l0 a1 k1 x5_1 (l0_1.length : Int) (wrap64 (x11_1 + 1)))) = some r := H
    have A8 := Aside0.mk A80
    clear A80
    by_cases c9 : t316 = true
    ·subst c9
     have H1 : ((impl_setOf.f k1 x11_1).bind fun t317 => (if x5_1.length < 5864062014805 then (impl_votes_sets.l0 a1 k1 (x5_1 ++ [t317]) (l0_1.length : Int) (wrap64 (x11_1 + 1))) else (none))) = some r := by rw [if_pos rfl] at H; exact H
     clear H
     have H := H1
     clear H1
     replace H := Option.bind_eq_some_iff.mp H
     obtain ⟨t317, A100, H⟩ := H
     replace H : (if x5_1.length < 5864062014805 then (impl_votes_sets.l0 a1 k1 (x5_1 ++ [t317]) (l0_1.length : Int) (wrap64 (x11_1 + 1))) else (none)) = some r := H
     have A10 := Aside0.mk A100
     clear A100
     by_cases c11 : x5_1.length < 5864062014805
     ·rw [if_pos c11] at H
      have LMc11 := Aside0.mk c11
      clear c11
      obtain ⟨y320, hy320⟩ : ∃ y_ : List (List Int), y_ = (x5_1 ++ [t317]) := ⟨_, rfl⟩
      replace H : (impl_votes_sets.l0 a1 k1 y320 (l0_1.length : Int) (wrap64 (x11_1 + 1))) = some r := by first | (rw [hy320]; with_reducible exact H) | (have H2_ := (Option.bind_some _ _).symm.trans H; rw [hy320]; with_reducible exact H2_) | (have H2_ := (Option.bind_some _ _).symm.trans H; with_reducible exact H2_) | with_reducible exact H | (rw [hy320]; exact H) | exact H
      have Ny320 := Aside0.mk hy320
      clear hy320
      have H' := Aside0.mk H
      clear H
      go_wp2_with (first | ((with_reducible refine gate_dst (N := 16) rfl ?_); refine goesLF_ (some 16) rfl rfl eg_ (by rfl) #[.int .i64 x11_1] rfl (by (try simp only [List.map_toArray, List.map_cons, List.map_nil]); first | done | rfl | (simp only [List.length_drop, List.length_take]; rfl)) ?_; (with_reducible refine (hp_.out _ x11_1 true (zh HB.out) A8.out).mono ?_); rintro e w12 ⟨rfl, hb⟩; refine ⟨_, rfl, ?_⟩; have n0_ := Aside0.mk (Kd.S_below (by (with_reducible repeat (first | apply Kd.S_alloc | apply Kd.S_drewN | apply Kd.S_drew)); exact HO_5.out) hb); have n1_ := Aside0.mk (blk_below (g := gb312) (o := .cells #[.int .i64 a0_0, .slice A0_1 l0_1.length c0_1] 61 (0, 0)) (zb BK312.out) hb); have n2_ := Aside0.mk (below_step (zh HB.out) hb); clear HO_5; clear BK312; clear HB; have HO_5 := n0_; have BK312 := n1_; have HB := n2_; clear n0_ n1_ n2_; (try clear hb); (try clear hb2); (try clear hk); (try clear hi)) | ((with_reducible refine gate_callee (f := 158) rfl ?_); refine zl 19 Tryz.func158 #[.int .i64 x11_1] ?_; (with_reducible refine (impl_setOf.calls k1 x11_1 t317 _ A10.out).mono ?_); rintro e w13 ⟨v318, rfl, ho0, hb⟩; refine ⟨_, rfl, ?_⟩; have n0_ := Aside0.mk (Kd.S_elder' (by (with_reducible repeat (first | apply Kd.S_alloc | apply Kd.S_drewN | apply Kd.S_drew)); exact HO_5.out) (Kd.R_base ho0) hb); have n1_ := Aside0.mk (Kd.R_lower ho0 (below_size (zh HB.out))); have n2_ := Aside0.mk (blk_below (g := gb312) (o := .cells #[.int .i64 a0_0, .slice A0_1 l0_1.length c0_1] 61 (0, 0)) (zb BK312.out) hb); have n3_ := Aside0.mk (below_step (zh HB.out) hb); clear HO_5; clear BK312; clear HB; have HO_5 := n0_; have HO319 := n1_; have BK312 := n2_; have HB := n3_; clear n0_ n1_ n2_ n3_; (try clear hb); (try clear hb2); (try clear hk); (try clear hi); (try clear ho0); obtain ⟨Ao15, co15, eo15⟩ := Kd.R_slice HO319.out; subst eo15) | ((with_reducible refine gate_builtin (b := .append) (xs := #[.tmp 17, .tmp 20]) rfl ?_); at_builtin; refine Kd.S_append (Kd.slice 3 (Kd.int .i64)) (w0 := w) w.heap.size rfl (.tmp 17) (.tmp 20) 22 65 (.slice none 0 0) 24 rfl Tryz.underlying22 info65 rfl (by decide) (by omega) u5 x5_1 t317 [.slice Ao15 t317.length co15] (fun _ => True) (fun k_ => some k_ = (.slice Ao15 t317.length co15 : Value).ownBlock) rfl rfl ?aP (fun k_ hk_ => ((Kd.R_mono (ok' := fun k_ => ((fun _ => True)) k_ ∧ some k_ ≠ (u5 : Value).ownBlock) (Kd.R_apart' (HO319.out) (Kd.S_typed HO_5.out) (by decide)) (fun k_ hk => ⟨trivial, hk.2⟩))).1 k_ hk_.symm) ?aF ?aO ?aB ?aS ?aL ?_; (case aP => exact Kd.M_row (Kd.R_mono (Kd.R_tight rfl (Kd.R_mono (ok' := fun k_ => ((fun _ => True)) k_ ∧ some k_ ≠ (u5 : Value).ownBlock) (Kd.R_apart' (HO319.out) (Kd.S_typed HO_5.out) (by decide)) (fun k_ hk => ⟨trivial, hk.2⟩))) (fun _ h_ => h_))); (case aB => exact (zh HB.out)); (case aF => exact (fun _ _ => trivial)); (case aO => exact (by (with_reducible repeat (first | apply Kd.S_alloc | apply Kd.S_drewN | apply Kd.S_drew)); exact Kd.S_mono HO_5.out (fun k_ hk => ⟨trivial, fun e_ => hk.2 e_⟩))); (case aS => exact (below_size (zh HB.out))); (case aL => have := LMc11.out; omega); intro v321 w14 ho hb hg hat; rw [← Ny320.out] at ho; have n0_ := Aside0.mk (blk_grown (g := gb312) (o := .cells #[.int .i64 a0_0, .slice A0_1 l0_1.length c0_1] 61 (0, 0)) (zb BK312.out) hg (Kd.S_ne HO_5.out BK312.out (by decide))); have n1_ := Aside0.mk (hb); have n2_ := Aside0.mk (ho); clear BK312; clear HB; clear HO_5; clear HO319; have BK312 := n0_; have HB := n1_; have HO322 := n2_; clear n0_ n1_ n2_; clear ho hb hg hat))
      go_roundg k1
      case measure => have := HK1.out; omega
      case rel => exact ⟨(y320), (wrap64 (x11_1 + 1)), (by first | rfl | (simp; done) | (simp [*]; done)), H', ⟨by have := HK1.out; omega⟩, ⟨by (with_reducible repeat (first | apply Kd.S_alloc | apply Kd.S_drewN | apply Kd.S_drew)); exact HO322.out⟩, ⟨zb BK312.out⟩, ⟨zh HB.out⟩⟩
     ·rw [if_neg c11] at H
      exact absurd H (by simp)
    ·replace c9 := Bool.eq_false_iff.mpr c9
     subst c9
     have H1 : (impl_votes_sets.l0 a1 k1 x5_1 (l0_1.length : Int) (wrap64 (x11_1 + 1))) = some r := by rw [if_neg (show ¬ (false = true) by decide)] at H; exact H
     clear H
     have H := H1
     clear H1
     have H' := Aside0.mk H
     clear H
     go_wp2_with (first | ((with_reducible refine gate_dst (N := 16) rfl ?_); refine goesLF_ (some 16) rfl rfl eg_ (by rfl) #[.int .i64 x11_1] rfl (by (try simp only [List.map_toArray, List.map_cons, List.map_nil]); first | done | rfl | (simp only [List.length_drop, List.length_take]; rfl)) ?_; (with_reducible refine (hp_.out _ x11_1 false (zh HB.out) A8.out).mono ?_); rintro e w16 ⟨rfl, hb⟩; refine ⟨_, rfl, ?_⟩; have n0_ := Aside0.mk (Kd.S_below (by (with_reducible repeat (first | apply Kd.S_alloc | apply Kd.S_drewN | apply Kd.S_drew)); exact HO_5.out) hb); have n1_ := Aside0.mk (blk_below (g := gb312) (o := .cells #[.int .i64 a0_0, .slice A0_1 l0_1.length c0_1] 61 (0, 0)) (zb BK312.out) hb); have n2_ := Aside0.mk (below_step (zh HB.out) hb); clear HO_5; clear BK312; clear HB; have HO_5 := n0_; have BK312 := n1_; have HB := n2_; clear n0_ n1_ n2_; (try clear hb); (try clear hb2); (try clear hk); (try clear hi)))
     go_roundg k1
     case measure => have := HK1.out; omega
     case rel => exact ⟨(x5_1), (wrap64 (x11_1 + 1)), (by first | rfl | (simp; done) | (simp [*]; done)), H', ⟨by have := HK1.out; omega⟩, ⟨by (with_reducible repeat (first | apply Kd.S_alloc | apply Kd.S_drewN | apply Kd.S_drew)); exact HO_5.out⟩, ⟨zb BK312.out⟩, ⟨zh HB.out⟩⟩
   ·rw [if_neg c7] at H
    have c7b0 : decide (x11_1 < (l0_1.length : Int)) = false := decide_eq_false c7
    clear c7
    replace H := Option.bind_eq_some_iff.mp H
    obtain ⟨t_, A170, H⟩ := H
    replace H : (some t_) = some r := H
    have A17 := Aside0.mk A170
    clear A170
    obtain rfl := Option.some.inj H
    obtain ⟨Ao18, co18, eo18⟩ := Kd.S_slice HO_5.out
    subst eo18
    go_wp2_with (first | ((with_reducible refine gate_callee (f := 163) rfl ?_); refine zl 24 Tryz.func163 #[.slice Ao18 x5_1.length co18, .func (.func 90) #[] #[]] ?_; refine (sortSets.calls x5_1 t_ _ _ w.heap.size (fun _ => True) _ ?side1 A17.out).mono ?_; (case side1 => exact (by (with_reducible repeat (first | apply Kd.S_alloc | apply Kd.S_drewN | apply Kd.S_drew)); exact HO_5.out)); rintro e w' ⟨rfl, hs_, hl_, hg_⟩; refine ⟨_, rfl, ?_⟩; have n0_ := Aside0.mk hs_; have hB_ := ((zh HB.out) : Below w.heap.size w _); have n2_ := Aside0.mk (Below.grown hB_ hg_ (below_size hB_) (Kd.S_base HO_5.out)); clear HO_5; clear HB; have HO_5 := n0_; have HB := n2_; clear n0_ n2_ hs_ hl_ hg_ hB_))
    go_ret
    exact ⟨_, by first | rfl | (simp [*, errW_none, errW_some] <;> rfl), by (with_reducible repeat (first | apply Kd.S_alloc | apply Kd.S_drewN | apply Kd.S_drew)); exact HO_5.out, zh HB.out⟩
end
end Go.Proofs.YtmbkmabpebjboaaGreat.Q
end
section
namespace Go.Proofs.YtmbkmabpebjboaaGreat.Q
open Go.RowKit Go.Proofs.YtmbkmabpebjboaaGreatW.PrintWords Go.Proofs.YtmbkmabpebjboaaGreatW.PrintLast Go.Proofs.YtmbkmabpebjboaaGreatW.PrintMore
set_option linter.unusedVariables false
set_option linter.unusedSimpArgs false
def ow2 (ow : Nat → Bool) (n : Nat) (row : Value) (b : Bool) : Nat → Bool := fun k => if some k = row.ownBlock ∨ n ≤ k then b else ow k
theorem ow2_row {ow : Nat → Bool} {n k : Nat} {row : Value} {b : Bool} (h : some k = row.ownBlock) : ow2 ow n row b k = b := if_pos (.inl h)
theorem ow2_new {ow : Nat → Bool} {n k : Nat} {row : Value} {b : Bool} (h : n ≤ k) : ow2 ow n row b k = b := if_pos (.inr h)
theorem S_ownOk {α : Type} {d : Kd α} {e base : Nat} {W : World} {ok : Nat → Prop} {v : Value} {xs : List α} (h : Kd.S d e W base ok v xs) : ∀ k, v.ownBlock = some k → ok k := (Kd.S_R h).1
theorem ow2_a {α : Type} {d : Kd α} {e base : Nat} {W : World} {ow : Nat → Bool} {u row : Value} {xs : List α} {b : Bool} (h : Kd.S d e W base (fun k => ow k = b ∧ some k ≠ row.ownBlock) u xs) : Kd.S d e W base (fun k => ow2 ow W.heap.size row b k = b ∧ ¬ some k = row.ownBlock) u xs := by
  refine Kd.S_mono (Kd.S_bound h) (fun k hk => ⟨?_, hk.1.2⟩)
  unfold ow2
  split
  · rfl
  · exact hk.1.1
theorem ow2_b {α : Type} {d : Kd α} {e base : Nat} {W w1 : World} {ow : Nat → Bool} {u v row : Value} {xs : List α} {b c : Bool} (hc : c ≠ b) (h : Kd.S d e W base (fun k => ow k = c ∧ some k ≠ row.ownBlock) u xs) (ho : ∀ k, v.ownBlock = some k → ow k = b) (hg : W.grownBy w1 v.ownBlock) : Kd.S d e w1 base (fun k => ow2 ow W.heap.size row b k = c) u xs := by
  refine Kd.S_mono (Kd.S_grown (Kd.S_bound h) hg (fun k hk he => hc (hk.1.1.symm.trans (ho k he.symm)))) (fun k hk => ?_)
  show ow2 ow W.heap.size row b k = c
  unfold ow2
  rw [if_neg]
  · exact hk.1.1
  · rintro (h | h)
    · exact hk.1.2 h
    · exact absurd hk.2.2.1 (Nat.not_lt.2 h)
end Go.Proofs.YtmbkmabpebjboaaGreat.Q
end

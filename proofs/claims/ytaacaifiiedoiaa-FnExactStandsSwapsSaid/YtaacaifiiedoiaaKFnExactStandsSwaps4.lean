/- Part 4 of the proof of FnExactStandsSwaps: what it leans on (no condition). -/
import Derived.Test.YtaacaifiiedoiaaKFnExactStandsSwaps3
import Derived.Shelf.GgClosure.Gives
section
namespace Go.Proofs.Ytaacaifiiedoiaa.Q
open Go.RowKit Go.Proofs.YtaacaifiiedoiaaW.PrintWords Go.Proofs.YtaacaifiiedoiaaW.PrintLast Go.Proofs.YtaacaifiiedoiaaW.PrintMore
attribute [local go_sem] max2_int min2_int max_two min_two max_three min_three max_four min_four
set_option linter.unusedVariables false
set_option linter.unusedSimpArgs false
mutual
def spec_deSwap.l0 : Nat → List Bool → Int → Bool → List Bool → Int → Int → List (List Int) → List (List Int) → Option ((List (List Int)) × (List (List Int)) × Bool)
 | 0, _, _, _, _, _, _, _, _ => none
 | k + 1, x0, x1, x7, x16, x17, x18, x532000, x532001 => if x18 < x17 then (if 0 ≤ x18 then (if x18 < (x16.length : Int) then (spec_deSwap.l1 k x0 x1 x7 x18 (rdOf false x16 x18) 0 x16 x17 x18 x532000 x532001) else (none)) else (none)) else (some (x532000, x532001, x7))
def spec_deSwap.l1 : Nat → List Bool → Int → Bool → Int → Bool → Int → List Bool → Int → Int → List (List Int) → List (List Int) → Option ((List (List Int)) × (List (List Int)) × Bool)
 | 0, _, _, _, _, _, _, _, _, _, _, _ => none
 | k + 1, x0, x1, x7, x8, x9, x10, x16, x17, x18, x532000, x532001 => if x10 < x8 then (if x9 = true then (if 0 ≤ x10 then (if x10 < (x0.length : Int) then (spec_deSwap.j2 k x0 x1 x7 x8 x9 x10 x16 x17 x18 (!(rdOf false x0 x10)) x532000 x532001) else (none)) else (none)) else (spec_deSwap.j2 k x0 x1 x7 x8 x9 x10 x16 x17 x18 true x532000 x532001)) else (spec_deSwap.l0 k x0 x1 x7 x16 x17 (wrap64 (x18 + 1)) x532000 x532001)
def spec_deSwap.j2 : Nat → List Bool → Int → Bool → Int → Bool → Int → List Bool → Int → Int → Bool → List (List Int) → List (List Int) → Option ((List (List Int)) × (List (List Int)) × Bool)
 | 0, _, _, _, _, _, _, _, _, _, _, _, _ => none
 | k + 1, x0, x1, x7, x8, x9, x10, x16, x17, x18, x36, x532000, x532001 => if x36 = true then (spec_deSwap.l1 k x0 x1 x7 x8 x9 (wrap64 (x10 + 1)) x16 x17 x18 x532000 x532001) else (spec_deSwap.l2 k x0 x1 x7 x8 x9 x10 0 x16 x17 x18 x532000 x532001)
def spec_deSwap.l2 : Nat → List Bool → Int → Bool → Int → Bool → Int → Int → List Bool → Int → Int → List (List Int) → List (List Int) → Option ((List (List Int)) × (List (List Int)) × Bool)
 | 0, _, _, _, _, _, _, _, _, _, _, _, _ => none
 | k + 1, x0, x1, x7, x8, x9, x10, x11, x16, x17, x18, x532000, x532001 => if x11 < x1 then (spec_deSwap.l3 k x0 x1 x7 x8 x9 x10 x11 0 x16 x17 x18 x532000 x532001) else (spec_deSwap.l1 k x0 x1 x7 x8 x9 (wrap64 (x10 + 1)) x16 x17 x18 x532000 x532001)
def spec_deSwap.l3 : Nat → List Bool → Int → Bool → Int → Bool → Int → Int → Int → List Bool → Int → Int → List (List Int) → List (List Int) → Option ((List (List Int)) × (List (List Int)) × Bool)
 | 0, _, _, _, _, _, _, _, _, _, _, _, _, _ => none
 | k + 1, x0, x1, x7, x8, x9, x10, x11, x12, x16, x17, x18, x532000, x532001 => if x12 < x1 then (if 0 ≤ x11 then (if (Int.tmod (shr .i64 x8 x11) 2) = 0 then (spec_deSwap.j5 k x0 x1 x7 x8 x9 x10 x11 x12 x16 x17 x18 true x532000 x532001) else (if (Int.tmod (shr .i64 x10 x11) 2) = 1 then (spec_deSwap.j5 k x0 x1 x7 x8 x9 x10 x11 x12 x16 x17 x18 true x532000 x532001) else (if 0 ≤ x12 then (if (Int.tmod (shr .i64 x8 x12) 2) = 1 then (spec_deSwap.j5 k x0 x1 x7 x8 x9 x10 x11 x12 x16 x17 x18 true x532000 x532001) else (spec_deSwap.j5 k x0 x1 x7 x8 x9 x10 x11 x12 x16 x17 x18 ((Int.tmod (shr .i64 x10 x12) 2) == 0) x532000 x532001)) else (none)))) else (none)) else (spec_deSwap.l2 k x0 x1 x7 x8 x9 x10 (wrap64 (x11 + 1)) x16 x17 x18 x532000 x532001)
def spec_deSwap.j5 : Nat → List Bool → Int → Bool → Int → Bool → Int → Int → Int → List Bool → Int → Int → Bool → List (List Int) → List (List Int) → Option ((List (List Int)) × (List (List Int)) × Bool)
 | 0, _, _, _, _, _, _, _, _, _, _, _, _, _, _ => none
 | k + 1, x0, x1, x7, x8, x9, x10, x11, x12, x16, x17, x18, x72, x532000, x532001 => if x72 = true then (spec_deSwap.l3 k x0 x1 x7 x8 x9 x10 x11 (wrap64 (x12 + 1)) x16 x17 x18 x532000 x532001) else (if 0 ≤ x11 then (if 0 ≤ x12 then (if 0 ≤ (Go.bits .xor .i64 (Go.bits .xor .i64 x8 (shl .i64 1 x11)) (shl .i64 1 x12)) then (if (Go.bits .xor .i64 (Go.bits .xor .i64 x8 (shl .i64 1 x11)) (shl .i64 1 x12)) < (x0.length : Int) then (if rdOf false x0 (Go.bits .xor .i64 (Go.bits .xor .i64 x8 (shl .i64 1 x11)) (shl .i64 1 x12)) = true then (spec_deSwap.j6 k x0 x1 x7 x8 x9 x10 x11 x12 (Go.bits .xor .i64 (Go.bits .xor .i64 x8 (shl .i64 1 x11)) (shl .i64 1 x12)) (Go.bits .xor .i64 (Go.bits .xor .i64 x10 (shl .i64 1 x11)) (shl .i64 1 x12)) x16 x17 x18 true x532000 x532001) else (if 0 ≤ (Go.bits .xor .i64 (Go.bits .xor .i64 x10 (shl .i64 1 x11)) (shl .i64 1 x12)) then (if (Go.bits .xor .i64 (Go.bits .xor .i64 x10 (shl .i64 1 x11)) (shl .i64 1 x12)) < (x0.length : Int) then (spec_deSwap.j6 k x0 x1 x7 x8 x9 x10 x11 x12 (Go.bits .xor .i64 (Go.bits .xor .i64 x8 (shl .i64 1 x11)) (shl .i64 1 x12)) (Go.bits .xor .i64 (Go.bits .xor .i64 x10 (shl .i64 1 x11)) (shl .i64 1 x12)) x16 x17 x18 (rdOf false x0 (Go.bits .xor .i64 (Go.bits .xor .i64 x10 (shl .i64 1 x11)) (shl .i64 1 x12))) x532000 x532001) else (none)) else (none))) else (none)) else (none)) else (none)) else (none))
def spec_deSwap.j6 : Nat → List Bool → Int → Bool → Int → Bool → Int → Int → Int → Int → Int → List Bool → Int → Int → Bool → List (List Int) → List (List Int) → Option ((List (List Int)) × (List (List Int)) × Bool)
 | 0, _, _, _, _, _, _, _, _, _, _, _, _, _, _, _, _ => none
 | k + 1, x0, x1, x7, x8, x9, x10, x11, x12, x13, x14, x16, x17, x18, x96, x532000, x532001 => if x96 = true then (spec_deSwap.l3 k x0 x1 x7 x8 x9 x10 x11 (wrap64 (x12 + 1)) x16 x17 x18 x532000 x532001) else ((spec_deTrade.f k (([x8, x10] : List Int)) (([x13, x14] : List Int))).bind fun bt542 => (if x7 = true then ((spec_deTradeBefore.f k bt542.1 bt542.2 x532000 x532001).bind fun t549 => (if t549 = true then (spec_deSwap.l3 k x0 x1 true x8 x9 x10 x11 (wrap64 (x12 + 1)) x16 x17 x18 bt542.1 bt542.2) else (spec_deSwap.l3 k x0 x1 x7 x8 x9 x10 x11 (wrap64 (x12 + 1)) x16 x17 x18 x532000 x532001))) else (spec_deSwap.l3 k x0 x1 true x8 x9 x10 x11 (wrap64 (x12 + 1)) x16 x17 x18 bt542.1 bt542.2)))
end
def spec_deSwap.f (k : Nat) (l0 : List Bool) (a1 : Int) : Option ((List (List Int)) × (List (List Int)) × Bool) := spec_deSwap.l0 k l0 a1 false l0 (l0.length : Int) 0 ([] : List (List Int)) ([] : List (List Int))
set_option maxHeartbeats 8000000 in
set_option maxRecDepth 100000 in
theorem spec_deSwap.calls (k : Nat) (A0 : Option Addr) (c0 : Nat) (l0 : List Bool) (a1 : Int) (r1 : List (List Int)) (r2 : List (List Int)) (r3 : Bool) (w : World) (hr0 : Kd.C Kd.bool w A0 l0.length l0) (hc0 : l0.length ≤ c0) (h : spec_deSwap.f k l0 a1 = some (r1, r2, r3)) :
  Calls Try.prog 60 #[.slice A0 l0.length c0, .int .i64 a1] w fun e w' => ∃ v0_ v1_ : Value, e = .returned (.tuple #[.agg #[v0_, v1_], .bool r3]) ∧ Kd.V (Kd.slice 3 (Kd.int .i64)) 71 w' w.heap.size (fun k_ => (w.heap.size ≤ k_)) v0_ r1 ∧ Kd.V (Kd.slice 3 (Kd.int .i64)) 71 w' w.heap.size (fun k_ => (w.heap.size ≤ k_)) v1_ r2 ∧ Below w.heap.size w w' := by
 have hu46 := Try.underlying46
 have HR0 := Aside0.mk hr0
 have HC0 := Aside0.mk hc0
 clear hr0 hc0
 have HB := Aside0.mk (Below.refl w.heap.size w)
 have H : (spec_deSwap.l0 k l0 a1 false l0 (l0.length : Int) 0 ([] : List (List Int)) ([] : List (List Int))) = some (r1, r2, r3) := h
 clear h
 have H' := Aside0.mk H
 clear H
 go_enter Try.func60, Try.ntmps60
 go_wp2_with (first | ((with_reducible refine gate_dst (N := 4) rfl ?_); refine box_event ?hg (N := 4) ?hd (cs := #[.slice none 0 0, .slice none 0 0]) (t := 46) ?hr ?_; (case hd => rfl); (case hg => rfl); (case hr => first | (go_simp; done) | (go_simp; rfl)); intro gb530 hg w3 hbox hb; have n2_ := Aside0.mk ((by rw [hg]; exact (below_size (zh HB.out)) : w.heap.size ≤ gb530)); replace HB := Aside0.mk (below_step (zh HB.out) hb); have BK530 := Aside0.mk hbox; have GW530 := n2_; have GE530 := n2_; clear n2_ hb hbox hg) | ((with_reducible refine gate_dst (N := 6) rfl ?_); refine box_event ?hg (N := 6) ?hd (cs := #[.slice none 0 0, .slice none 0 0]) (t := 46) ?hr ?_; (case hd => rfl); (case hg => rfl); (case hr => first | (go_simp; done) | (go_simp; rfl)); intro gb531 hg w4 hbox hb; have n0_ := Aside0.mk (blk_below (g := gb530) (o := .cells #[.slice none 0 0, .slice none 0 0] 46 (0, 0)) (zb BK530.out) hb); have n1_ := Aside0.mk (below_step (zh HB.out) hb); have n2_ := Aside0.mk (hbox); have n3_ := Aside0.mk ((by rw [hg]; exact (below_size (zh HB.out)) : w.heap.size ≤ gb531)); have n4_ := Aside0.mk ((by rw [hg]; exact (below_size (zh HB.out)) : w.heap.size ≤ gb531)); have n5_ := Aside0.mk ((by rw [hg]; exact Nat.ne_of_lt (blk_lt (g := gb530) (o := .cells #[.slice none 0 0, .slice none 0 0] 46 (0, 0)) (zb BK530.out)) : gb530 ≠ gb531)); have n6_ := Aside0.mk ((by rw [hg]; exact Nat.ne_of_gt (blk_lt (g := gb530) (o := .cells #[.slice none 0 0, .slice none 0 0] 46 (0, 0)) (zb BK530.out)) : gb531 ≠ gb530)); clear BK530; clear HB; have BK530 := n0_; have HB := n1_; have BK531 := n2_; have GW531 := n3_; have GE531 := n4_; have NB530_531 := n5_; have NB531_530 := n6_; clear n0_ n1_ n2_ n3_ n4_ n5_ n6_; clear hb hbox hg))
 repeat (go_quiet (first | ((with_reducible refine gate_dst (N := 6) rfl ?_); refine box_event ?hg (N := 6) ?hd (cs := #[.slice none 0 0, .slice none 0 0]) (t := 46) ?hr ?_; (case hd => rfl); (case hg => rfl); (case hr => first | (go_simp; done) | (go_simp; rfl)); intro gb531 hg w4 hbox hb; have n0_ := Aside0.mk (blk_below (g := gb530) (o := .cells #[.slice none 0 0, .slice none 0 0] 46 (0, 0)) (zb BK530.out) hb); have n1_ := Aside0.mk (below_step (zh HB.out) hb); have n2_ := Aside0.mk (hbox); have n3_ := Aside0.mk ((by rw [hg]; exact (below_size (zh HB.out)) : w.heap.size ≤ gb531)); have n4_ := Aside0.mk ((by rw [hg]; exact (below_size (zh HB.out)) : w.heap.size ≤ gb531)); have n5_ := Aside0.mk ((by rw [hg]; exact Nat.ne_of_lt (blk_lt (g := gb530) (o := .cells #[.slice none 0 0, .slice none 0 0] 46 (0, 0)) (zb BK530.out)) : gb530 ≠ gb531)); have n6_ := Aside0.mk ((by rw [hg]; exact Nat.ne_of_gt (blk_lt (g := gb530) (o := .cells #[.slice none 0 0, .slice none 0 0] 46 (0, 0)) (zb BK530.out)) : gb531 ≠ gb530)); clear BK530; clear HB; have BK530 := n0_; have HB := n1_; have BK531 := n2_; have GW531 := n3_; have GE531 := n4_; have NB530_531 := n5_; have NB531_530 := n6_; clear n0_ n1_ n2_ n3_ n4_ n5_ n6_; clear hb hbox hg)); try go_wp2_with (first | ((with_reducible refine gate_dst (N := 6) rfl ?_); refine box_event ?hg (N := 6) ?hd (cs := #[.slice none 0 0, .slice none 0 0]) (t := 46) ?hr ?_; (case hd => rfl); (case hg => rfl); (case hr => first | (go_simp; done) | (go_simp; rfl)); intro gb531 hg w4 hbox hb; have n0_ := Aside0.mk (blk_below (g := gb530) (o := .cells #[.slice none 0 0, .slice none 0 0] 46 (0, 0)) (zb BK530.out) hb); have n1_ := Aside0.mk (below_step (zh HB.out) hb); have n2_ := Aside0.mk (hbox); have n3_ := Aside0.mk ((by rw [hg]; exact (below_size (zh HB.out)) : w.heap.size ≤ gb531)); have n4_ := Aside0.mk ((by rw [hg]; exact (below_size (zh HB.out)) : w.heap.size ≤ gb531)); have n5_ := Aside0.mk ((by rw [hg]; exact Nat.ne_of_lt (blk_lt (g := gb530) (o := .cells #[.slice none 0 0, .slice none 0 0] 46 (0, 0)) (zb BK530.out)) : gb530 ≠ gb531)); have n6_ := Aside0.mk ((by rw [hg]; exact Nat.ne_of_gt (blk_lt (g := gb530) (o := .cells #[.slice none 0 0, .slice none 0 0] 46 (0, 0)) (zb BK530.out)) : gb531 ≠ gb530)); clear BK530; clear HB; have BK530 := n0_; have HB := n1_; have BK531 := n2_; have GW531 := n3_; have GE531 := n4_; have NB530_531 := n5_; have NB531_530 := n6_; clear n0_ n1_ n2_ n3_ n4_ n5_ n6_; clear hb hbox hg)))
 go_loopg [7, 18] k (fun kq v7 v18 w' => ∃ (x7_1 : Bool) (x18_1 : Int) (x532000_1 : List (List Int)) (x532001_1 : List (List Int)) (u532000 : Value) (u532001 : Value), v7 = .bool x7_1 ∧ v18 = .int .i64 x18_1 ∧ Aside0 (spec_deSwap.l0 kq l0 a1 x7_1 l0 (l0.length : Int) x18_1 x532000_1 x532001_1 = some (r1, r2, r3)) ∧ Aside0 (kq ≤ k) ∧ Aside0 (Kd.V (Kd.slice 3 (Kd.int .i64)) 71 w' w.heap.size (fun k_ => (w.heap.size ≤ k_) ∧ k_ ≠ gb530 ∧ k_ ≠ gb531) u532000 x532000_1) ∧ Aside0 (Kd.V (Kd.slice 3 (Kd.int .i64)) 71 w' w.heap.size (fun k_ => (w.heap.size ≤ k_) ∧ k_ ≠ gb530 ∧ k_ ≠ gb531) u532001 x532001_1) ∧ Aside0 (w'.heap[gb530]? = some (.cells #[(.slice none 0 0), (.slice none 0 0)] 46 (0, 0))) ∧ Aside0 (w'.heap[gb531]? = some (.cells #[u532000, u532001] 46 (0, 0))) ∧ Aside0 (Below w.heap.size w w'))
 case atStart => exact ⟨(false), (0), (([] : List (List Int))), (([] : List (List Int))), (.slice none 0 0), (.slice none 0 0), (by first | rfl | (simp; done) | (simp [*]; done)), (by first | rfl | (simp; done) | (simp [*]; done)), H', ⟨Nat.le_refl _⟩, ⟨(Kd.V_nil _ _ _ _ _)⟩, ⟨(Kd.V_nil _ _ _ _ _)⟩, ⟨zb BK530.out⟩, ⟨zb BK531.out⟩, ⟨zh HB.out⟩⟩
 case round =>
  clear H'
  try clear p2
  obtain ⟨x7_1, x18_1, x532000_1, x532001_1, u532000, u532001, rfl, rfl, HA, HK1, HO_532000, HO_532001, BK530, BK531, HB⟩ := hrel
  cases gk with
  | zero => exact absurd HA.out (by simp [spec_deSwap.l0])
  | succ k1 =>
   have H := HA.out
   clear HA
   simp only [spec_deSwap.l0] at H
   by_cases c5 : x18_1 < (l0.length : Int)
   rotate_left
   ·rw [if_neg c5] at H
    have c5b0 : decide (x18_1 < (l0.length : Int)) = false := decide_eq_false c5
    clear c5
    simp only [Option.some.injEq, Prod.mk.injEq] at H
    obtain ⟨rfl, rfl, rfl⟩ := H
    have hnb101 := NB531_530.out
    have hnc101 := NB530_531.out
    have hcz102_0 : wr.cell? ⟨gb531, 0, none⟩ = some (u532000) := (blk_cell BK531.out 0).trans rfl
    have hcz102_1 : wr.cell? ⟨gb531, 1, none⟩ = some (u532001) := (blk_cell BK531.out 1).trans rfl
    have hfz102_0 := blk_frozen BK531.out 0
    have hfz102_1 := blk_frozen BK531.out 1
    obtain ⟨Ao103, co103, eo103⟩ := Kd.V_slice HO_532000.out
    subst eo103
    have hcz104_0 : wr.cell? ⟨gb530, 0, none⟩ = some (.slice none 0 0) := (blk_cell BK530.out 0).trans rfl
    have hcz104_1 : wr.cell? ⟨gb530, 1, none⟩ = some (.slice none 0 0) := (blk_cell BK530.out 1).trans rfl
    have hfz104_0 := blk_frozen BK530.out 0
    have hfz104_1 := blk_frozen BK530.out 1
    obtain ⟨Ao105, co105, eo105⟩ := Kd.V_slice HO_532001.out
    subst eo105
    go_wp2
    repeat (go_quiet (fail); try go_wp2)
    refine bodyPost_ret (results_ct rfl _ _ gb530 46 #[.slice Ao103 x532000_1.length co103, .slice Ao105 x532001_1.length co105] (0, 0) _ rfl (by (with_reducible repeat (first | refine blk_drewN ?_ _ | refine blk_drew ?_ | refine blk_alloc ?_ _)); refine blk_put (cs := #[.slice Ao103 x532000_1.length co103, .slice none 0 0]) ?_ 1 _ rfl; (with_reducible repeat (first | refine blk_drewN ?_ _ | refine blk_drew ?_ | refine blk_alloc ?_ _)); refine blk_put (cs := #[.slice none 0 0, .slice none 0 0]) ?_ 0 _ rfl; (with_reducible repeat (first | refine blk_drewN ?_ _ | refine blk_drew ?_ | refine blk_alloc ?_ _)); exact BK530.out) Try.underlying46 rfl (by kernel_rfl)) rfl ?_
    exact ⟨_, _, by first | rfl | (simp [*, errW_none, errW_some] <;> rfl), by (with_reducible repeat (first | apply Kd.V_alloc | apply Kd.V_drewN | apply Kd.V_drew)); exact Kd.V_mono (Kd.V_far (p := ⟨gb530, 1, none⟩) (Kd.V_far (p := ⟨gb530, 0, none⟩) (Kd.V_mono HO_532000.out (fun k_ hk => (⟨hk, hk.2.1⟩ : _ ∧ k_ ≠ gb530))) (fun _ hk => hk.2) (.slice Ao103 x532000_1.length co103)) (fun _ hk => hk.2) (.slice Ao105 x532001_1.length co105)) (fun _ hk => hk.1.1), by (with_reducible repeat (first | apply Kd.V_alloc | apply Kd.V_drewN | apply Kd.V_drew)); exact Kd.V_mono (Kd.V_far (p := ⟨gb530, 1, none⟩) (Kd.V_far (p := ⟨gb530, 0, none⟩) (Kd.V_mono HO_532001.out (fun k_ hk => (⟨hk, hk.2.1⟩ : _ ∧ k_ ≠ gb530))) (fun _ hk => hk.2) (.slice Ao103 x532000_1.length co103)) (fun _ hk => hk.2) (.slice Ao105 x532001_1.length co105)) (fun _ hk => hk.1.1), zh HB.out⟩
   rw [if_pos c5] at H
   have c5b0 : decide (x18_1 < (l0.length : Int)) = true := decide_eq_true c5
   clear c5
   by_cases c6 : 0 ≤ x18_1
   rotate_left
   ·rw [if_neg c6] at H
    exact absurd H (by simp)
   rw [if_pos c6] at H
   have c6b0 : decide (0 ≤ x18_1) = true := decide_eq_true c6
   clear c6
   by_cases c7 : x18_1 < (l0.length : Int)
   rotate_left
   ·rw [if_neg c7] at H
    exact absurd H (by simp)
   rw [if_pos c7] at H
   have c7b0 : decide (x18_1 < (l0.length : Int)) = true := decide_eq_true c7
   clear c7
   have H' := Aside0.mk H
   clear H
   have p532 : 0 ≤ (x18_1 : Int) := of_decide_eq_true (by first | (with_reducible assumption) | assumption)
   have q532 : x18_1 < (l0.length : Int) := of_decide_eq_true (by first | (with_reducible assumption) | assumption)
   obtain ⟨ad532, e532, hx532_0⟩ := Kd.at_bool HR0.out x18_1 p532 q532
   cases e532
   replace hx532_0 := (HB.out.cell (World.block_lt_of_cell? w _ hx532_0)).trans hx532_0
   obtain ⟨bz532, hbz532⟩ : ∃ b_ : Bool, b_ = (rdOf false l0 x18_1) := ⟨_, rfl⟩
   (try rw [← hbz532] at hx532_0)
   (try rw [← hbz532] at H)
   (try (have H2_ := H'.out; rw [← hbz532] at H2_; clear H'; have H' := Aside0.mk H2_; clear H2_))
   have Nbz532 := Aside0.mk hbz532
   clear hbz532
   replace p532 := eq_true p532
   replace q532 := eq_true q532
   go_wp2
   repeat (go_quiet (fail); try go_wp2)
   go_loopg [7, 10] k1 (fun kq v7 v10 w' => ∃ (x7_2 : Bool) (x10_2 : Int) (x532000_2 : List (List Int)) (x532001_2 : List (List Int)) (u532000 : Value) (u532001 : Value), v7 = .bool x7_2 ∧ v10 = .int .i64 x10_2 ∧ Aside0 (spec_deSwap.l1 kq l0 a1 x7_2 x18_1 bz532 x10_2 l0 (l0.length : Int) x18_1 x532000_2 x532001_2 = some (r1, r2, r3)) ∧ Aside0 (kq ≤ k1) ∧ Aside0 (Kd.V (Kd.slice 3 (Kd.int .i64)) 71 w' w.heap.size (fun k_ => (w.heap.size ≤ k_) ∧ k_ ≠ gb530 ∧ k_ ≠ gb531) u532000 x532000_2) ∧ Aside0 (Kd.V (Kd.slice 3 (Kd.int .i64)) 71 w' w.heap.size (fun k_ => (w.heap.size ≤ k_) ∧ k_ ≠ gb530 ∧ k_ ≠ gb531) u532001 x532001_2) ∧ Aside0 (w'.heap[gb530]? = some (.cells #[(.slice none 0 0), (.slice none 0 0)] 46 (0, 0))) ∧ Aside0 (w'.heap[gb531]? = some (.cells #[u532000, u532001] 46 (0, 0))) ∧ Aside0 (Below w.heap.size w w'))
   case atStart => exact ⟨(x7_1), (0), (x532000_1), (x532001_1), (u532000), (u532001), (by first | rfl | (simp; done) | (simp [*]; done)), (by first | rfl | (simp; done) | (simp [*]; done)), H', ⟨Nat.le_refl _⟩, ⟨by (with_reducible repeat (first | apply Kd.V_alloc | apply Kd.V_drewN | apply Kd.V_drew)); exact HO_532000.out⟩, ⟨by (with_reducible repeat (first | apply Kd.V_alloc | apply Kd.V_drewN | apply Kd.V_drew)); exact HO_532001.out⟩, ⟨zb BK530.out⟩, ⟨zb BK531.out⟩, ⟨zh HB.out⟩⟩
   case round =>
    clear H'
    try clear p2
    try clear c5
    try clear c5b0
    try clear p5
    try clear q5
    try clear hx5
    try clear c6
    try clear c6b0
    try clear c7
    try clear c7b0
    try clear hx532_0
    try clear p2
    try clear p532
    try clear q532
    obtain ⟨x7_2, x10_2, x532000_2, x532001_2, u532000, u532001, rfl, rfl, HA, HK2, HO_532000, HO_532001, BK530, BK531, HB⟩ := hrel
    cases gk with
    | zero => exact absurd HA.out (by simp [spec_deSwap.l1])
    | succ k2 =>
     have H := HA.out
     clear HA
     simp only [spec_deSwap.l1] at H
     by_cases c8 : x10_2 < x18_1
     rotate_left
     ·rw [if_neg c8] at H
      have c8b0 : decide (x10_2 < x18_1) = false := decide_eq_false c8
      clear c8
      have H' := Aside0.mk H
      clear H
      go_wp2
      repeat (go_quiet (fail); try go_wp2)
      go_roundg k2
      case measure => have := HK1.out; have := HK2.out; omega
      case rel => exact ⟨(x7_2), (wrap64 (x18_1 + 1)), (x532000_2), (x532001_2), (u532000), (u532001), (by first | rfl | (simp; done) | (simp [*]; done)), (by first | rfl | (simp; done) | (simp [*]; done)), H', ⟨by have := HK1.out; have := HK2.out; omega⟩, ⟨by (with_reducible repeat (first | apply Kd.V_alloc | apply Kd.V_drewN | apply Kd.V_drew)); exact HO_532000.out⟩, ⟨by (with_reducible repeat (first | apply Kd.V_alloc | apply Kd.V_drewN | apply Kd.V_drew)); exact HO_532001.out⟩, ⟨zb BK530.out⟩, ⟨zb BK531.out⟩, ⟨zh HB.out⟩⟩
     rw [if_pos c8] at H
     have c8b0 : decide (x10_2 < x18_1) = true := decide_eq_true c8
     clear c8
     have HC9 := Aside0.mk H
     clear H
     go_upto_region 9 with (fail)
     repeat (go_quiet (fail); go_upto_region 9 with (fail))
     go_cut [36] (fun v36 wc => ∃ (kq : Nat) (x36_8 : Bool), v36 = .bool x36_8 ∧ Aside0 (spec_deSwap.j2 kq l0 a1 x7_2 x18_1 bz532 x10_2 l0 (l0.length : Int) x18_1 x36_8 x532000_2 x532001_2 = some (r1, r2, r3)) ∧ Aside0 (kq ≤ k2) ∧ Aside0 (Kd.V (Kd.slice 3 (Kd.int .i64)) 71 wc w.heap.size (fun k_ => (w.heap.size ≤ k_) ∧ k_ ≠ gb530 ∧ k_ ≠ gb531) u532000 x532000_2) ∧ Aside0 (Kd.V (Kd.slice 3 (Kd.int .i64)) 71 wc w.heap.size (fun k_ => (w.heap.size ≤ k_) ∧ k_ ≠ gb530 ∧ k_ ≠ gb531) u532001 x532001_2) ∧ Aside0 (wc.heap[gb530]? = some (.cells #[(.slice none 0 0), (.slice none 0 0)] 46 (0, 0))) ∧ Aside0 (wc.heap[gb531]? = some (.cells #[u532000, u532001] 46 (0, 0))) ∧ Aside0 (Below w.heap.size w wc))
     case first =>
      have H := HC9.out
      clear HC9
      (try rw [← Nbz532.out])
      by_cases c11 : (bz532) = true
      ·rw [if_pos c11] at H
       subst c11
       by_cases c12 : 0 ≤ x10_2
       ·rw [if_pos c12] at H
        have c12b0 : decide (0 ≤ x10_2) = true := decide_eq_true c12
        clear c12
        by_cases c13 : x10_2 < (l0.length : Int)
        ·rw [if_pos c13] at H
         have c13b0 : decide (x10_2 < (l0.length : Int)) = true := decide_eq_true c13
         clear c13
         have H' := Aside0.mk H
         clear H
         have p533 : 0 ≤ (x10_2 : Int) := of_decide_eq_true (by first | (with_reducible assumption) | assumption)
         have q533 : x10_2 < (l0.length : Int) := of_decide_eq_true (by first | (with_reducible assumption) | assumption)
         obtain ⟨ad533, e533, hx533_0⟩ := Kd.at_bool HR0.out x10_2 p533 q533
         (try rw [← Nbz532.out] at hx533_0)
         obtain rfl : ad532 = ad533 := (by injection e533)
         replace hx533_0 := (HB.out.cell (World.block_lt_of_cell? w _ hx533_0)).trans hx533_0
         replace p533 := eq_true p533
         replace q533 := eq_true q533
         go_wp2
         repeat (go_quiet (fail); try go_wp2)
         go_meet
         case rel => exact ⟨_, (!(rdOf false l0 x10_2)), (by first | rfl | (simp; done) | (simp [*]; done)), H', ⟨by have := HK1.out; have := HK2.out; first | omega | exact Nat.le_refl _⟩, ⟨by (with_reducible repeat (first | apply Kd.V_alloc | apply Kd.V_drewN | apply Kd.V_drew)); exact HO_532000.out⟩, ⟨by (with_reducible repeat (first | apply Kd.V_alloc | apply Kd.V_drewN | apply Kd.V_drew)); exact HO_532001.out⟩, ⟨zb BK530.out⟩, ⟨zb BK531.out⟩, ⟨zh HB.out⟩⟩
        ·rw [if_neg c13] at H
         exact absurd H (by simp)
       ·rw [if_neg c12] at H
        exact absurd H (by simp)
      ·rw [if_neg c11] at H
       have c11b0 := Bool.eq_false_iff.mpr c11
       clear c11
       have H' := Aside0.mk H
       clear H
       go_wp2
       repeat (go_quiet (fail); try go_wp2)
       go_meet
       case rel => exact ⟨_, (true), (by first | rfl | (simp; done) | (simp [*]; done)), H', ⟨by have := HK1.out; have := HK2.out; first | omega | exact Nat.le_refl _⟩, ⟨by (with_reducible repeat (first | apply Kd.V_alloc | apply Kd.V_drewN | apply Kd.V_drew)); exact HO_532000.out⟩, ⟨by (with_reducible repeat (first | apply Kd.V_alloc | apply Kd.V_drewN | apply Kd.V_drew)); exact HO_532001.out⟩, ⟨zb BK530.out⟩, ⟨zb BK531.out⟩, ⟨zh HB.out⟩⟩
     case rest =>
      clear HC9
      try clear c1
      try clear q1
      try clear p2
      try clear c5
      try clear c5b0
      try clear p5
      try clear q5
      try clear hx5
      try clear c6
      try clear c6b0
      try clear c7
      try clear c7b0
      try clear c8
      try clear c8b0
      try clear q10
      try clear c11
      try clear c11b0
      try clear c12
      try clear c12b0
      try clear c13
      try clear c13b0
      try clear hx532_0
      try clear hx533_0
      try clear p2
      try clear p5
      try clear p532
      try clear p533
      try clear q5
      try clear q532
      try clear q533
      obtain ⟨kq, x36_8, rfl, HA, HJ8, HO_532000, HO_532001, BK530, BK531, HB⟩ := hcut
      cases kq with
      | zero => exact absurd HA.out (by simp [spec_deSwap.j2])
      | succ kj8 =>
       have H := HA.out
       clear HA
       simp only [spec_deSwap.j2] at H
       by_cases c14 : x36_8 = true
       ·subst c14
        have H1 : (spec_deSwap.l1 kj8 l0 a1 x7_2 x18_1 bz532 (wrap64 (x10_2 + 1)) l0 (l0.length : Int) x18_1 x532000_2 x532001_2) = some (r1, r2, r3) := by rw [if_pos rfl] at H; exact H
        clear H
        have H := H1
        clear H1
        have H' := Aside0.mk H
        clear H
        go_wp2
        repeat (go_quiet (fail); try go_wp2)
        go_roundg kj8
        case measure => have := HK1.out; have := HK2.out; have := HJ8.out; omega
        case rel => exact ⟨(x7_2), (wrap64 (x10_2 + 1)), (x532000_2), (x532001_2), (u532000), (u532001), (by first | rfl | (simp; done) | (simp [*]; done)), (by first | rfl | (simp; done) | (simp [*]; done)), H', ⟨by have := HK1.out; have := HK2.out; have := HJ8.out; omega⟩, ⟨by (with_reducible repeat (first | apply Kd.V_alloc | apply Kd.V_drewN | apply Kd.V_drew)); exact HO_532000.out⟩, ⟨by (with_reducible repeat (first | apply Kd.V_alloc | apply Kd.V_drewN | apply Kd.V_drew)); exact HO_532001.out⟩, ⟨zb BK530.out⟩, ⟨zb BK531.out⟩, ⟨zh HB.out⟩⟩
       replace c14 := Bool.eq_false_iff.mpr c14
       subst c14
       have H1 : (spec_deSwap.l2 kj8 l0 a1 x7_2 x18_1 bz532 x10_2 0 l0 (l0.length : Int) x18_1 x532000_2 x532001_2) = some (r1, r2, r3) := by rw [if_neg (show ¬ (false = true) by decide)] at H; exact H
       clear H
       have H := H1
       clear H1
       have H' := Aside0.mk H
       clear H
       go_wp2
       repeat (go_quiet (fail); try go_wp2)
       go_loopg [7, 11] kj8 (fun kq v7 v11 w' => ∃ (x7_4 : Bool) (x11_4 : Int) (x532000_4 : List (List Int)) (x532001_4 : List (List Int)) (u532000 : Value) (u532001 : Value), v7 = .bool x7_4 ∧ v11 = .int .i64 x11_4 ∧ Aside0 (spec_deSwap.l2 kq l0 a1 x7_4 x18_1 bz532 x10_2 x11_4 l0 (l0.length : Int) x18_1 x532000_4 x532001_4 = some (r1, r2, r3)) ∧ Aside0 (kq ≤ kj8) ∧ Aside0 (Kd.V (Kd.slice 3 (Kd.int .i64)) 71 w' w.heap.size (fun k_ => (w.heap.size ≤ k_) ∧ k_ ≠ gb530 ∧ k_ ≠ gb531) u532000 x532000_4) ∧ Aside0 (Kd.V (Kd.slice 3 (Kd.int .i64)) 71 w' w.heap.size (fun k_ => (w.heap.size ≤ k_) ∧ k_ ≠ gb530 ∧ k_ ≠ gb531) u532001 x532001_4) ∧ Aside0 (w'.heap[gb530]? = some (.cells #[(.slice none 0 0), (.slice none 0 0)] 46 (0, 0))) ∧ Aside0 (w'.heap[gb531]? = some (.cells #[u532000, u532001] 46 (0, 0))) ∧ Aside0 (Below w.heap.size w w'))
       case atStart => exact ⟨(x7_2), (0), (x532000_2), (x532001_2), (u532000), (u532001), (by first | rfl | (simp; done) | (simp [*]; done)), (by first | rfl | (simp; done) | (simp [*]; done)), H', ⟨Nat.le_refl _⟩, ⟨by (with_reducible repeat (first | apply Kd.V_alloc | apply Kd.V_drewN | apply Kd.V_drew)); exact HO_532000.out⟩, ⟨by (with_reducible repeat (first | apply Kd.V_alloc | apply Kd.V_drewN | apply Kd.V_drew)); exact HO_532001.out⟩, ⟨zb BK530.out⟩, ⟨zb BK531.out⟩, ⟨zh HB.out⟩⟩
       case round =>
        clear H'
        try clear c1
        try clear q1
        try clear p2
        try clear c5
        try clear c5b0
        try clear p5
        try clear q5
        try clear hx5
        try clear c6
        try clear c6b0
        try clear p6
        try clear c7
        try clear c7b0
        try clear c8
        try clear c8b0
        try clear q10
        try clear c11
        try clear c11b0
        try clear c12
        try clear c12b0
        try clear c13
        try clear c13b0
        try clear c14
        try clear hx532_0
        try clear hx533_0
        try clear p2
        try clear p5
        try clear p532
        try clear p533
        try clear q1
        try clear q10
        try clear q5
        try clear q532
        try clear q533
        obtain ⟨x7_4, x11_4, x532000_4, x532001_4, u532000, u532001, rfl, rfl, HA, HK4, HO_532000, HO_532001, BK530, BK531, HB⟩ := hrel
        cases gk with
        | zero => exact absurd HA.out (by simp [spec_deSwap.l2])
        | succ k4 =>
         have H := HA.out
         clear HA
         simp only [spec_deSwap.l2] at H
         by_cases c15 : x11_4 < a1
         rotate_left
         ·rw [if_neg c15] at H
          have c15b0 : decide (x11_4 < a1) = false := decide_eq_false c15
          clear c15
          have H' := Aside0.mk H
          clear H
          go_wp2
          repeat (go_quiet (fail); try go_wp2)
          go_roundg k4
          case measure => have := HK1.out; have := HK2.out; have := HJ8.out; have := HK4.out; omega
          case rel => exact ⟨(x7_4), (wrap64 (x10_2 + 1)), (x532000_4), (x532001_4), (u532000), (u532001), (by first | rfl | (simp; done) | (simp [*]; done)), (by first | rfl | (simp; done) | (simp [*]; done)), H', ⟨by have := HK1.out; have := HK2.out; have := HJ8.out; have := HK4.out; omega⟩, ⟨by (with_reducible repeat (first | apply Kd.V_alloc | apply Kd.V_drewN | apply Kd.V_drew)); exact HO_532000.out⟩, ⟨by (with_reducible repeat (first | apply Kd.V_alloc | apply Kd.V_drewN | apply Kd.V_drew)); exact HO_532001.out⟩, ⟨zb BK530.out⟩, ⟨zb BK531.out⟩, ⟨zh HB.out⟩⟩
         rw [if_pos c15] at H
         have c15b0 : decide (x11_4 < a1) = true := decide_eq_true c15
         clear c15
         have H' := Aside0.mk H
         clear H
         go_wp2
         repeat (go_quiet (fail); try go_wp2)
         go_loopg [7, 12] k4 (fun kq v7 v12 w' => ∃ (x7_5 : Bool) (x12_5 : Int) (x532000_5 : List (List Int)) (x532001_5 : List (List Int)) (u532000 : Value) (u532001 : Value), v7 = .bool x7_5 ∧ v12 = .int .i64 x12_5 ∧ Aside0 (spec_deSwap.l3 kq l0 a1 x7_5 x18_1 bz532 x10_2 x11_4 x12_5 l0 (l0.length : Int) x18_1 x532000_5 x532001_5 = some (r1, r2, r3)) ∧ Aside0 (kq ≤ k4) ∧ Aside0 (Kd.V (Kd.slice 3 (Kd.int .i64)) 71 w' w.heap.size (fun k_ => (w.heap.size ≤ k_) ∧ k_ ≠ gb530 ∧ k_ ≠ gb531) u532000 x532000_5) ∧ Aside0 (Kd.V (Kd.slice 3 (Kd.int .i64)) 71 w' w.heap.size (fun k_ => (w.heap.size ≤ k_) ∧ k_ ≠ gb530 ∧ k_ ≠ gb531) u532001 x532001_5) ∧ Aside0 (w'.heap[gb530]? = some (.cells #[(.slice none 0 0), (.slice none 0 0)] 46 (0, 0))) ∧ Aside0 (w'.heap[gb531]? = some (.cells #[u532000, u532001] 46 (0, 0))) ∧ Aside0 (Below w.heap.size w w'))
         case atStart => exact ⟨(x7_4), (0), (x532000_4), (x532001_4), (u532000), (u532001), (by first | rfl | (simp; done) | (simp [*]; done)), (by first | rfl | (simp; done) | (simp [*]; done)), H', ⟨Nat.le_refl _⟩, ⟨by (with_reducible repeat (first | apply Kd.V_alloc | apply Kd.V_drewN | apply Kd.V_drew)); exact HO_532000.out⟩, ⟨by (with_reducible repeat (first | apply Kd.V_alloc | apply Kd.V_drewN | apply Kd.V_drew)); exact HO_532001.out⟩, ⟨zb BK530.out⟩, ⟨zb BK531.out⟩, ⟨zh HB.out⟩⟩
         case round =>
          clear H'
          try clear c1
          try clear q1
          try clear p2
          try clear c5
          try clear c5b0
          try clear p5
          try clear q5
          try clear hx5
          try clear c6
          try clear c6b0
          try clear p6
          try clear c7
          try clear c7b0
          try clear c8
          try clear c8b0
          try clear q10
          try clear c11
          try clear c11b0
          try clear c12
          try clear c12b0
          try clear c13
          try clear c13b0
          try clear c14
          try clear c15
          try clear c15b0
          try clear hx532_0
          try clear hx533_0
          try clear p2
          try clear p5
          try clear p532
          try clear p533
          try clear p6
          try clear q1
          try clear q10
          try clear q5
          try clear q532
          try clear q533
          obtain ⟨x7_5, x12_5, x532000_5, x532001_5, u532000, u532001, rfl, rfl, HA, HK5, HO_532000, HO_532001, BK530, BK531, HB⟩ := hrel
          cases gk with
          | zero => exact absurd HA.out (by simp [spec_deSwap.l3])
          | succ k5 =>
           have H := HA.out
           clear HA
           simp only [spec_deSwap.l3] at H
           by_cases c16 : x12_5 < a1
           rotate_left
           ·rw [if_neg c16] at H
            have c16b0 : decide (x12_5 < a1) = false := decide_eq_false c16
            clear c16
            have H' := Aside0.mk H
            clear H
            go_wp2
            repeat (go_quiet (fail); try go_wp2)
            go_roundg k5
            case measure => have := HK1.out; have := HK2.out; have := HJ8.out; have := HK4.out; have := HK5.out; omega
            case rel => exact ⟨(x7_5), (wrap64 (x11_4 + 1)), (x532000_5), (x532001_5), (u532000), (u532001), (by first | rfl | (simp; done) | (simp [*]; done)), (by first | rfl | (simp; done) | (simp [*]; done)), H', ⟨by have := HK1.out; have := HK2.out; have := HJ8.out; have := HK4.out; have := HK5.out; omega⟩, ⟨by (with_reducible repeat (first | apply Kd.V_alloc | apply Kd.V_drewN | apply Kd.V_drew)); exact HO_532000.out⟩, ⟨by (with_reducible repeat (first | apply Kd.V_alloc | apply Kd.V_drewN | apply Kd.V_drew)); exact HO_532001.out⟩, ⟨zb BK530.out⟩, ⟨zb BK531.out⟩, ⟨zh HB.out⟩⟩
           rw [if_pos c16] at H
           have c16b0 : decide (x12_5 < a1) = true := decide_eq_true c16
           clear c16
           have HC17 := Aside0.mk H
           clear H
           go_upto_region 16 with (fail)
           repeat (go_quiet (fail); go_upto_region 16 with (fail))
           go_cut [72] (fun v72 wc => ∃ (kq : Nat) (x72_16 : Bool), v72 = .bool x72_16 ∧ Aside0 (spec_deSwap.j5 kq l0 a1 x7_5 x18_1 bz532 x10_2 x11_4 x12_5 l0 (l0.length : Int) x18_1 x72_16 x532000_5 x532001_5 = some (r1, r2, r3)) ∧ Aside0 (kq ≤ k5) ∧ Aside0 (Kd.V (Kd.slice 3 (Kd.int .i64)) 71 wc w.heap.size (fun k_ => (w.heap.size ≤ k_) ∧ k_ ≠ gb530 ∧ k_ ≠ gb531) u532000 x532000_5) ∧ Aside0 (Kd.V (Kd.slice 3 (Kd.int .i64)) 71 wc w.heap.size (fun k_ => (w.heap.size ≤ k_) ∧ k_ ≠ gb530 ∧ k_ ≠ gb531) u532001 x532001_5) ∧ Aside0 (wc.heap[gb530]? = some (.cells #[(.slice none 0 0), (.slice none 0 0)] 46 (0, 0))) ∧ Aside0 (wc.heap[gb531]? = some (.cells #[u532000, u532001] 46 (0, 0))) ∧ Aside0 (Below w.heap.size w wc))
           case first =>
            have H := HC17.out
            clear HC17
            by_cases c18 : 0 ≤ x11_4
            ·rw [if_pos c18] at H
             have c18b0 := eq_true c18
             have c18b1 : decide (0 ≤ x11_4) = true := decide_eq_true c18
             clear c18
             obtain ⟨ji19, hji19⟩ : ∃ j_ : Int, (shr .i64 x18_1 x11_4) = j_ := ⟨_, rfl⟩
             replace H : (if (Int.tmod (ji19) 2) = 0 then (spec_deSwap.j5 k5 l0 a1 x7_5 x18_1 bz532 x10_2 x11_4 x12_5 l0 (l0.length : Int) x18_1 true x532000_5 x532001_5) else (if (Int.tmod (shr .i64 x10_2 x11_4) 2) = 1 then (spec_deSwap.j5 k5 l0 a1 x7_5 x18_1 bz532 x10_2 x11_4 x12_5 l0 (l0.length : Int) x18_1 true x532000_5 x532001_5) else (if 0 ≤ x12_5 then (if (Int.tmod (shr .i64 x18_1 x12_5) 2) = 1 then (spec_deSwap.j5 k5 l0 a1 x7_5 x18_1 bz532 x10_2 x11_4 x12_5 l0 (l0.length : Int) x18_1 true x532000_5 x532001_5) else (spec_deSwap.j5 k5 l0 a1 x7_5 x18_1 bz532 x10_2 x11_4 x12_5 l0 (l0.length : Int) x18_1 ((Int.tmod (shr .i64 x10_2 x12_5) 2) == 0) x532000_5 x532001_5)) else (none)))) = some (r1, r2, r3) := by first | (rw [hji19] at H; exact H) | (simp only [hji19] at H ⊢; exact H)
             have hji19_ : (x18_1 / 2 ^ min x11_4.toNat 64) = ji19 := hji19
             have hji19z : x11_4 ≤ 64 → (x18_1 / 2 ^ x11_4.toNat) = ji19 := shr_small hji19
             by_cases c20 : (Int.tmod (ji19) 2) = 0
             ·rw [if_pos c20] at H
              have c20b0 : ((Int.tmod (ji19) 2) == 0) = true := beq_iff_eq.mpr c20
              have c20b1 : ((Int.tmod (ji19) 2) != 0) = false := bne_eq_false_iff_eq.mpr c20
              clear c20
              (first | rw [c20b0] | (simp only [i64_w, i32_w]; rw [c20b0]) | skip)
              have H' := Aside0.mk H
              clear H
              go_wp2
              repeat (go_quiet (fail); try go_wp2)
              go_meet
              case rel => exact ⟨_, (true), (by first | rfl | (simp; done) | (simp [*]; done)), H', ⟨by have := HK1.out; have := HK2.out; have := HJ8.out; have := HK4.out; have := HK5.out; first | omega | exact Nat.le_refl _⟩, ⟨by (with_reducible repeat (first | apply Kd.V_alloc | apply Kd.V_drewN | apply Kd.V_drew)); exact HO_532000.out⟩, ⟨by (with_reducible repeat (first | apply Kd.V_alloc | apply Kd.V_drewN | apply Kd.V_drew)); exact HO_532001.out⟩, ⟨zb BK530.out⟩, ⟨zb BK531.out⟩, ⟨zh HB.out⟩⟩
             ·rw [if_neg c20] at H
              have c20b0 : ((Int.tmod (ji19) 2) == 0) = false := beq_eq_false_iff_ne.mpr c20
              have c20b1 : ((Int.tmod (ji19) 2) != 0) = true := bne_iff_ne.mpr c20
              (first | rw [c20b0] | (simp only [i64_w, i32_w]; rw [c20b0]) | skip)
              have c21b0 := eq_true (of_decide_eq_true (by first | (with_reducible assumption) | assumption) : 0 ≤ x11_4)
              obtain ⟨ji22, hji22⟩ : ∃ j_ : Int, (shr .i64 x10_2 x11_4) = j_ := ⟨_, rfl⟩
              replace H : (if (Int.tmod (ji22) 2) = 1 then (spec_deSwap.j5 k5 l0 a1 x7_5 x18_1 bz532 x10_2 x11_4 x12_5 l0 (l0.length : Int) x18_1 true x532000_5 x532001_5) else (if 0 ≤ x12_5 then (if (Int.tmod (shr .i64 x18_1 x12_5) 2) = 1 then (spec_deSwap.j5 k5 l0 a1 x7_5 x18_1 bz532 x10_2 x11_4 x12_5 l0 (l0.length : Int) x18_1 true x532000_5 x532001_5) else (spec_deSwap.j5 k5 l0 a1 x7_5 x18_1 bz532 x10_2 x11_4 x12_5 l0 (l0.length : Int) x18_1 ((Int.tmod (shr .i64 x10_2 x12_5) 2) == 0) x532000_5 x532001_5)) else (none))) = some (r1, r2, r3) := by first | (rw [hji22] at H; exact H) | (simp only [hji22] at H ⊢; exact H)
              have hji22_ : (x10_2 / 2 ^ min x11_4.toNat 64) = ji22 := hji22
              have hji22z : x11_4 ≤ 64 → (x10_2 / 2 ^ x11_4.toNat) = ji22 := shr_small hji22
              by_cases c23 : (Int.tmod (ji22) 2) = 1
              ·rw [if_pos c23] at H
               have c23b0 : ((Int.tmod (ji22) 2) == 1) = true := beq_iff_eq.mpr c23
               have c23b1 : ((Int.tmod (ji22) 2) != 1) = false := bne_eq_false_iff_eq.mpr c23
               clear c23
               have H' := Aside0.mk H
               clear H
               go_wp2
               repeat (go_quiet (fail); try go_wp2)
               go_meet
               case rel => exact ⟨_, (true), (by first | rfl | (simp; done) | (simp [*]; done)), H', ⟨by have := HK1.out; have := HK2.out; have := HJ8.out; have := HK4.out; have := HK5.out; first | omega | exact Nat.le_refl _⟩, ⟨by (with_reducible repeat (first | apply Kd.V_alloc | apply Kd.V_drewN | apply Kd.V_drew)); exact HO_532000.out⟩, ⟨by (with_reducible repeat (first | apply Kd.V_alloc | apply Kd.V_drewN | apply Kd.V_drew)); exact HO_532001.out⟩, ⟨zb BK530.out⟩, ⟨zb BK531.out⟩, ⟨zh HB.out⟩⟩
              ·rw [if_neg c23] at H
               have c23b0 : ((Int.tmod (ji22) 2) == 1) = false := beq_eq_false_iff_ne.mpr c23
               have c23b1 : ((Int.tmod (ji22) 2) != 1) = true := bne_iff_ne.mpr c23
               by_cases c24 : 0 ≤ x12_5
               ·rw [if_pos c24] at H
                have c24b0 := eq_true c24
                have c24b1 : decide (0 ≤ x12_5) = true := decide_eq_true c24
                clear c24
                obtain ⟨ji25, hji25⟩ : ∃ j_ : Int, (shr .i64 x18_1 x12_5) = j_ := ⟨_, rfl⟩
                replace H : (if (Int.tmod (ji25) 2) = 1 then (spec_deSwap.j5 k5 l0 a1 x7_5 x18_1 bz532 x10_2 x11_4 x12_5 l0 (l0.length : Int) x18_1 true x532000_5 x532001_5) else (spec_deSwap.j5 k5 l0 a1 x7_5 x18_1 bz532 x10_2 x11_4 x12_5 l0 (l0.length : Int) x18_1 ((Int.tmod (shr .i64 x10_2 x12_5) 2) == 0) x532000_5 x532001_5)) = some (r1, r2, r3) := by first | (rw [hji25] at H; exact H) | (simp only [hji25] at H ⊢; exact H)
                have hji25_ : (x18_1 / 2 ^ min x12_5.toNat 64) = ji25 := hji25
                have hji25z : x12_5 ≤ 64 → (x18_1 / 2 ^ x12_5.toNat) = ji25 := shr_small hji25
                by_cases c26 : (Int.tmod (ji25) 2) = 1
                ·rw [if_pos c26] at H
                 have c26b0 : ((Int.tmod (ji25) 2) == 1) = true := beq_iff_eq.mpr c26
                 have c26b1 : ((Int.tmod (ji25) 2) != 1) = false := bne_eq_false_iff_eq.mpr c26
                 clear c26
                 have H' := Aside0.mk H
                 clear H
                 go_wp2
                 repeat (go_quiet (fail); try go_wp2)
                 go_meet
                 case rel => exact ⟨_, (true), (by first | rfl | (simp; done) | (simp [*]; done)), H', ⟨by have := HK1.out; have := HK2.out; have := HJ8.out; have := HK4.out; have := HK5.out; first | omega | exact Nat.le_refl _⟩, ⟨by (with_reducible repeat (first | apply Kd.V_alloc | apply Kd.V_drewN | apply Kd.V_drew)); exact HO_532000.out⟩, ⟨by (with_reducible repeat (first | apply Kd.V_alloc | apply Kd.V_drewN | apply Kd.V_drew)); exact HO_532001.out⟩, ⟨zb BK530.out⟩, ⟨zb BK531.out⟩, ⟨zh HB.out⟩⟩
                ·rw [if_neg c26] at H
                 have c26b0 : ((Int.tmod (ji25) 2) == 1) = false := beq_eq_false_iff_ne.mpr c26
                 have c26b1 : ((Int.tmod (ji25) 2) != 1) = true := bne_iff_ne.mpr c26
                 have c27b0 := eq_true (of_decide_eq_true (by first | (with_reducible assumption) | assumption) : 0 ≤ x12_5)
                 obtain ⟨ji28, hji28⟩ : ∃ j_ : Int, (shr .i64 x10_2 x12_5) = j_ := ⟨_, rfl⟩
                 replace H : (spec_deSwap.j5 k5 l0 a1 x7_5 x18_1 bz532 x10_2 x11_4 x12_5 l0 (l0.length : Int) x18_1 ((Int.tmod (ji28) 2) == 0) x532000_5 x532001_5) = some (r1, r2, r3) := by first | (rw [hji28] at H; exact H) | (simp only [hji28] at H ⊢; exact H)
                 have hji28_ : (x10_2 / 2 ^ min x12_5.toNat 64) = ji28 := hji28
                 have hji28z : x12_5 ≤ 64 → (x10_2 / 2 ^ x12_5.toNat) = ji28 := shr_small hji28
                 have H' := Aside0.mk H
                 clear H
                 go_wp2
                 repeat (go_quiet (fail); try go_wp2)
                 go_meet
                 case rel => exact ⟨_, (((Int.tmod (ji28) 2) == 0)), (by first | rfl | (simp; done) | (simp only [← hji28] <;> (first | rfl | simp)) | (simp [*]; done)), H', ⟨by have := HK1.out; have := HK2.out; have := HJ8.out; have := HK4.out; have := HK5.out; first | omega | exact Nat.le_refl _⟩, ⟨by (with_reducible repeat (first | apply Kd.V_alloc | apply Kd.V_drewN | apply Kd.V_drew)); exact HO_532000.out⟩, ⟨by (with_reducible repeat (first | apply Kd.V_alloc | apply Kd.V_drewN | apply Kd.V_drew)); exact HO_532001.out⟩, ⟨zb BK530.out⟩, ⟨zb BK531.out⟩, ⟨zh HB.out⟩⟩
               ·rw [if_neg c24] at H
                exact absurd H (by simp)
            ·rw [if_neg c18] at H
             exact absurd H (by simp)
           case rest =>
            clear HC17
            try clear c1
            try clear q1
            try clear c2
            try clear p2
            try clear c5
            try clear c5b0
            try clear p5
            try clear q5
            try clear hx5
            try clear c6
            try clear c6b0
            try clear p6
            try clear c7
            try clear c7b0
            try clear c8
            try clear c8b0
            try clear q10
            try clear c11
            try clear c11b0
            try clear c12
            try clear c12b0
            try clear c13
            try clear c13b0
            try clear c14
            try clear c15
            try clear c15b0
            try clear c16
            try clear c16b0
            try clear c18
            try clear c18b0
            try clear c18b1
            try clear c20
            try clear c20b0
            try clear c20b1
            try clear c21
            try clear c21b0
            try clear c23
            try clear c23b0
            try clear c23b1
            try clear c24
            try clear c24b0
            try clear c24b1
            try clear c26
            try clear c26b0
            try clear c26b1
            try clear c27
            try clear c27b0
            try clear hx532_0
            try clear hx533_0
            try clear p2
            try clear p5
            try clear p532
            try clear p533
            try clear p6
            try clear q1
            try clear q10
            try clear q5
            try clear q532
            try clear q533
            obtain ⟨kq, x72_16, rfl, HA, HJ16, HO_532000, HO_532001, BK530, BK531, HB⟩ := hcut
            cases kq with
            | zero => exact absurd HA.out (by simp [spec_deSwap.j5])
            | succ kj16 =>
             have H := HA.out
             clear HA
             simp only [spec_deSwap.j5] at H
             by_cases c29 : x72_16 = true
             ·subst c29
              have H1 : (spec_deSwap.l3 kj16 l0 a1 x7_5 x18_1 bz532 x10_2 x11_4 (wrap64 (x12_5 + 1)) l0 (l0.length : Int) x18_1 x532000_5 x532001_5) = some (r1, r2, r3) := by rw [if_pos rfl] at H; exact H
              clear H
              have H := H1
              clear H1
              have H' := Aside0.mk H
              clear H
              go_wp2
              repeat (go_quiet (fail); try go_wp2)
              go_roundg kj16
              case measure => have := HK1.out; have := HK2.out; have := HJ8.out; have := HK4.out; have := HK5.out; have := HJ16.out; omega
              case rel => exact ⟨(x7_5), (wrap64 (x12_5 + 1)), (x532000_5), (x532001_5), (u532000), (u532001), (by first | rfl | (simp; done) | (simp [*]; done)), (by first | rfl | (simp; done) | (simp [*]; done)), H', ⟨by have := HK1.out; have := HK2.out; have := HJ8.out; have := HK4.out; have := HK5.out; have := HJ16.out; omega⟩, ⟨by (with_reducible repeat (first | apply Kd.V_alloc | apply Kd.V_drewN | apply Kd.V_drew)); exact HO_532000.out⟩, ⟨by (with_reducible repeat (first | apply Kd.V_alloc | apply Kd.V_drewN | apply Kd.V_drew)); exact HO_532001.out⟩, ⟨zb BK530.out⟩, ⟨zb BK531.out⟩, ⟨zh HB.out⟩⟩
             replace c29 := Bool.eq_false_iff.mpr c29
             subst c29
             have H1 : (if 0 ≤ x11_4 then (if 0 ≤ x12_5 then (if 0 ≤ (Go.bits .xor .i64 (Go.bits .xor .i64 x18_1 (shl .i64 1 x11_4)) (shl .i64 1 x12_5)) then (if (Go.bits .xor .i64 (Go.bits .xor .i64 x18_1 (shl .i64 1 x11_4)) (shl .i64 1 x12_5)) < (l0.length : Int) then (if rdOf false l0 (Go.bits .xor .i64 (Go.bits .xor .i64 x18_1 (shl .i64 1 x11_4)) (shl .i64 1 x12_5)) = true then (spec_deSwap.j6 kj16 l0 a1 x7_5 x18_1 bz532 x10_2 x11_4 x12_5 (Go.bits .xor .i64 (Go.bits .xor .i64 x18_1 (shl .i64 1 x11_4)) (shl .i64 1 x12_5)) (Go.bits .xor .i64 (Go.bits .xor .i64 x10_2 (shl .i64 1 x11_4)) (shl .i64 1 x12_5)) l0 (l0.length : Int) x18_1 true x532000_5 x532001_5) else (if 0 ≤ (Go.bits .xor .i64 (Go.bits .xor .i64 x10_2 (shl .i64 1 x11_4)) (shl .i64 1 x12_5)) then (if (Go.bits .xor .i64 (Go.bits .xor .i64 x10_2 (shl .i64 1 x11_4)) (shl .i64 1 x12_5)) < (l0.length : Int) then (spec_deSwap.j6 kj16 l0 a1 x7_5 x18_1 bz532 x10_2 x11_4 x12_5 (Go.bits .xor .i64 (Go.bits .xor .i64 x18_1 (shl .i64 1 x11_4)) (shl .i64 1 x12_5)) (Go.bits .xor .i64 (Go.bits .xor .i64 x10_2 (shl .i64 1 x11_4)) (shl .i64 1 x12_5)) l0 (l0.length : Int) x18_1 (rdOf false l0 (Go.bits .xor .i64 (Go.bits .xor .i64 x10_2 (shl .i64 1 x11_4)) (shl .i64 1 x12_5))) x532000_5 x532001_5) else (none)) else (none))) else (none)) else (none)) else (none)) else (none)) = some (r1, r2, r3) := by rw [if_neg (show ¬ (false = true) by decide)] at H; exact H
             clear H
             have H := H1
             clear H1
             by_cases c30 : 0 ≤ x11_4
             rotate_left
             ·rw [if_neg c30] at H
              exact absurd H (by simp)
             rw [if_pos c30] at H
             have c30b0 := eq_true c30
             have c30b1 : decide (0 ≤ x11_4) = true := decide_eq_true c30
             clear c30
             obtain ⟨ji31, hji31⟩ : ∃ j_ : Int, (shl .i64 1 x11_4) = j_ := ⟨_, rfl⟩
             replace H : (if 0 ≤ x12_5 then (if 0 ≤ (Go.bits .xor .i64 (Go.bits .xor .i64 x18_1 (ji31)) (shl .i64 1 x12_5)) then (if (Go.bits .xor .i64 (Go.bits .xor .i64 x18_1 (ji31)) (shl .i64 1 x12_5)) < (l0.length : Int) then (if rdOf false l0 (Go.bits .xor .i64 (Go.bits .xor .i64 x18_1 (ji31)) (shl .i64 1 x12_5)) = true then (spec_deSwap.j6 kj16 l0 a1 x7_5 x18_1 bz532 x10_2 x11_4 x12_5 (Go.bits .xor .i64 (Go.bits .xor .i64 x18_1 (ji31)) (shl .i64 1 x12_5)) (Go.bits .xor .i64 (Go.bits .xor .i64 x10_2 (ji31)) (shl .i64 1 x12_5)) l0 (l0.length : Int) x18_1 true x532000_5 x532001_5) else (if 0 ≤ (Go.bits .xor .i64 (Go.bits .xor .i64 x10_2 (ji31)) (shl .i64 1 x12_5)) then (if (Go.bits .xor .i64 (Go.bits .xor .i64 x10_2 (ji31)) (shl .i64 1 x12_5)) < (l0.length : Int) then (spec_deSwap.j6 kj16 l0 a1 x7_5 x18_1 bz532 x10_2 x11_4 x12_5 (Go.bits .xor .i64 (Go.bits .xor .i64 x18_1 (ji31)) (shl .i64 1 x12_5)) (Go.bits .xor .i64 (Go.bits .xor .i64 x10_2 (ji31)) (shl .i64 1 x12_5)) l0 (l0.length : Int) x18_1 (rdOf false l0 (Go.bits .xor .i64 (Go.bits .xor .i64 x10_2 (ji31)) (shl .i64 1 x12_5))) x532000_5 x532001_5) else (none)) else (none))) else (none)) else (none)) else (none)) = some (r1, r2, r3) := by first | (rw [hji31] at H; exact H) | (simp only [hji31] at H ⊢; exact H)
             have hji31_ : (IntKind.i64.wrap (1 * 2 ^ min x11_4.toNat 64)) = ji31 := hji31
             have hji31z : x11_4 ≤ 64 → (IntKind.i64.wrap (1 * 2 ^ x11_4.toNat)) = ji31 := shl_small hji31
             have hji31u : (IntKind.i64.wrap (2 ^ min x11_4.toNat 64)) = ji31 := by have h_ := hji31_; rw [Int.one_mul] at h_; exact h_
             have hji31v : x11_4 ≤ 64 → (IntKind.i64.wrap (2 ^ x11_4.toNat)) = ji31 := fun hle_ => by have h_ := hji31z hle_; rw [Int.one_mul] at h_; exact h_
             have hji31y : (wrap64 (1 * 2 ^ min x11_4.toNat 64)) = ji31 := (i64_w _).symm.trans hji31_
             have hji31x : x11_4 ≤ 64 → (wrap64 (1 * 2 ^ x11_4.toNat)) = ji31 := fun h_ => (i64_w _).symm.trans (hji31z h_)
             by_cases c32 : 0 ≤ x12_5
             rotate_left
             ·rw [if_neg c32] at H
              exact absurd H (by simp)
             rw [if_pos c32] at H
             have c32b0 := eq_true c32
             have c32b1 : decide (0 ≤ x12_5) = true := decide_eq_true c32
             clear c32
             obtain ⟨ji33, hji33⟩ : ∃ j_ : Int, (shl .i64 1 x12_5) = j_ := ⟨_, rfl⟩
             replace H : (if 0 ≤ (Go.bits .xor .i64 (Go.bits .xor .i64 x18_1 (ji31)) (ji33)) then (if (Go.bits .xor .i64 (Go.bits .xor .i64 x18_1 (ji31)) (ji33)) < (l0.length : Int) then (if rdOf false l0 (Go.bits .xor .i64 (Go.bits .xor .i64 x18_1 (ji31)) (ji33)) = true then (spec_deSwap.j6 kj16 l0 a1 x7_5 x18_1 bz532 x10_2 x11_4 x12_5 (Go.bits .xor .i64 (Go.bits .xor .i64 x18_1 (ji31)) (ji33)) (Go.bits .xor .i64 (Go.bits .xor .i64 x10_2 (ji31)) (ji33)) l0 (l0.length : Int) x18_1 true x532000_5 x532001_5) else (if 0 ≤ (Go.bits .xor .i64 (Go.bits .xor .i64 x10_2 (ji31)) (ji33)) then (if (Go.bits .xor .i64 (Go.bits .xor .i64 x10_2 (ji31)) (ji33)) < (l0.length : Int) then (spec_deSwap.j6 kj16 l0 a1 x7_5 x18_1 bz532 x10_2 x11_4 x12_5 (Go.bits .xor .i64 (Go.bits .xor .i64 x18_1 (ji31)) (ji33)) (Go.bits .xor .i64 (Go.bits .xor .i64 x10_2 (ji31)) (ji33)) l0 (l0.length : Int) x18_1 (rdOf false l0 (Go.bits .xor .i64 (Go.bits .xor .i64 x10_2 (ji31)) (ji33))) x532000_5 x532001_5) else (none)) else (none))) else (none)) else (none)) = some (r1, r2, r3) := by first | (rw [hji33] at H; exact H) | (simp only [hji33] at H ⊢; exact H)
             have hji33_ : (IntKind.i64.wrap (1 * 2 ^ min x12_5.toNat 64)) = ji33 := hji33
             have hji33z : x12_5 ≤ 64 → (IntKind.i64.wrap (1 * 2 ^ x12_5.toNat)) = ji33 := shl_small hji33
             have hji33u : (IntKind.i64.wrap (2 ^ min x12_5.toNat 64)) = ji33 := by have h_ := hji33_; rw [Int.one_mul] at h_; exact h_
             have hji33v : x12_5 ≤ 64 → (IntKind.i64.wrap (2 ^ x12_5.toNat)) = ji33 := fun hle_ => by have h_ := hji33z hle_; rw [Int.one_mul] at h_; exact h_
             have hji33y : (wrap64 (1 * 2 ^ min x12_5.toNat 64)) = ji33 := (i64_w _).symm.trans hji33_
             have hji33x : x12_5 ≤ 64 → (wrap64 (1 * 2 ^ x12_5.toNat)) = ji33 := fun h_ => (i64_w _).symm.trans (hji33z h_)
             have c34b0 := eq_true (of_decide_eq_true (by first | (with_reducible assumption) | assumption) : 0 ≤ x11_4)
             have c35b0 := eq_true (of_decide_eq_true (by first | (with_reducible assumption) | assumption) : 0 ≤ x12_5)
             have HC36 := Aside0.mk H
             clear H
             go_upto_region 18 with (fail)
             repeat (go_quiet (fail); go_upto_region 18 with (fail))
             go_cut [96] (fun v96 wc => ∃ (kq : Nat) (x96_35 : Bool), v96 = .bool x96_35 ∧ Aside0 (spec_deSwap.j6 kq l0 a1 x7_5 x18_1 bz532 x10_2 x11_4 x12_5 (Go.bits .xor .i64 (Go.bits .xor .i64 x18_1 (ji31)) (ji33)) (Go.bits .xor .i64 (Go.bits .xor .i64 x10_2 (ji31)) (ji33)) l0 (l0.length : Int) x18_1 x96_35 x532000_5 x532001_5 = some (r1, r2, r3)) ∧ Aside0 (kq ≤ kj16) ∧ Aside0 (Kd.V (Kd.slice 3 (Kd.int .i64)) 71 wc w.heap.size (fun k_ => (w.heap.size ≤ k_) ∧ k_ ≠ gb530 ∧ k_ ≠ gb531) u532000 x532000_5) ∧ Aside0 (Kd.V (Kd.slice 3 (Kd.int .i64)) 71 wc w.heap.size (fun k_ => (w.heap.size ≤ k_) ∧ k_ ≠ gb530 ∧ k_ ≠ gb531) u532001 x532001_5) ∧ Aside0 (wc.heap[gb530]? = some (.cells #[(.slice none 0 0), (.slice none 0 0)] 46 (0, 0))) ∧ Aside0 (wc.heap[gb531]? = some (.cells #[u532000, u532001] 46 (0, 0))) ∧ Aside0 (Below w.heap.size w wc))
             case first =>
              have H := HC36.out
              clear HC36
              by_cases c37 : 0 ≤ (Go.bits .xor .i64 (Go.bits .xor .i64 x18_1 (ji31)) (ji33))
              ·rw [if_pos c37] at H
               have c37b0 : decide (0 ≤ (Go.bits .xor .i64 (Go.bits .xor .i64 x18_1 (ji31)) (ji33))) = true := decide_eq_true c37
               clear c37
               (first | rw [c37b0] | (simp only [i64_w, i32_w]; rw [c37b0]) | skip)
               by_cases c38 : (Go.bits .xor .i64 (Go.bits .xor .i64 x18_1 (ji31)) (ji33)) < (l0.length : Int)
               ·rw [if_pos c38] at H
                have c38b0 : decide ((Go.bits .xor .i64 (Go.bits .xor .i64 x18_1 (ji31)) (ji33)) < (l0.length : Int)) = true := decide_eq_true c38
                clear c38
                obtain ⟨bq39, hbq39⟩ : ∃ b_ : Bool, b_ = (rdOf false l0 (Go.bits .xor .i64 (Go.bits .xor .i64 x18_1 (ji31)) (ji33))) := ⟨_, rfl⟩
                replace H : (if bq39 = true then (spec_deSwap.j6 kj16 l0 a1 x7_5 x18_1 bz532 x10_2 x11_4 x12_5 (Go.bits .xor .i64 (Go.bits .xor .i64 x18_1 (ji31)) (ji33)) (Go.bits .xor .i64 (Go.bits .xor .i64 x10_2 (ji31)) (ji33)) l0 (l0.length : Int) x18_1 true x532000_5 x532001_5) else (if 0 ≤ (Go.bits .xor .i64 (Go.bits .xor .i64 x10_2 (ji31)) (ji33)) then (if (Go.bits .xor .i64 (Go.bits .xor .i64 x10_2 (ji31)) (ji33)) < (l0.length : Int) then (spec_deSwap.j6 kj16 l0 a1 x7_5 x18_1 bz532 x10_2 x11_4 x12_5 (Go.bits .xor .i64 (Go.bits .xor .i64 x18_1 (ji31)) (ji33)) (Go.bits .xor .i64 (Go.bits .xor .i64 x10_2 (ji31)) (ji33)) l0 (l0.length : Int) x18_1 (rdOf false l0 (Go.bits .xor .i64 (Go.bits .xor .i64 x10_2 (ji31)) (ji33))) x532000_5 x532001_5) else (none)) else (none))) = some (r1, r2, r3) := by rw [← hbq39] at H; exact H
                have Nbq39 := Aside0.mk hbq39
                clear hbq39
                by_cases c40 : bq39 = true
                ·subst c40
                 have H1 : (spec_deSwap.j6 kj16 l0 a1 x7_5 x18_1 bz532 x10_2 x11_4 x12_5 (Go.bits .xor .i64 (Go.bits .xor .i64 x18_1 (ji31)) (ji33)) (Go.bits .xor .i64 (Go.bits .xor .i64 x10_2 (ji31)) (ji33)) l0 (l0.length : Int) x18_1 true x532000_5 x532001_5) = some (r1, r2, r3) := by rw [if_pos rfl] at H; exact H
                 clear H
                 have H := H1
                 clear H1
                 have H' := Aside0.mk H
                 clear H
                 have p534 : 0 ≤ ((Go.bits .xor .i64 (Go.bits .xor .i64 x18_1 (ji31)) (ji33)) : Int) := of_decide_eq_true (by first | (with_reducible assumption) | assumption)
                 have q534 : (Go.bits .xor .i64 (Go.bits .xor .i64 x18_1 (ji31)) (ji33)) < (l0.length : Int) := of_decide_eq_true (by first | (with_reducible assumption) | assumption)
                 obtain ⟨ad534, e534, hx534_0⟩ := Kd.at_bool HR0.out (Go.bits .xor .i64 (Go.bits .xor .i64 x18_1 (ji31)) (ji33)) p534 q534
                 (try rw [← Nbq39.out] at hx534_0)
                 obtain rfl : ad532 = ad534 := (by injection e534)
                 replace hx534_0 := (HB.out.cell (World.block_lt_of_cell? w _ hx534_0)).trans hx534_0
                 replace p534 := eq_true p534
                 replace q534 := eq_true q534
                 go_wp2
                 repeat (go_quiet (fail); try go_wp2)
                 go_meet
                 case rel => exact ⟨_, (true), (by first | rfl | (simp; done) | (simp [*]; done)), H', ⟨by have := HK1.out; have := HK2.out; have := HJ8.out; have := HK4.out; have := HK5.out; have := HJ16.out; first | omega | exact Nat.le_refl _⟩, ⟨by (with_reducible repeat (first | apply Kd.V_alloc | apply Kd.V_drewN | apply Kd.V_drew)); exact HO_532000.out⟩, ⟨by (with_reducible repeat (first | apply Kd.V_alloc | apply Kd.V_drewN | apply Kd.V_drew)); exact HO_532001.out⟩, ⟨zb BK530.out⟩, ⟨zb BK531.out⟩, ⟨zh HB.out⟩⟩
                ·replace c40 := Bool.eq_false_iff.mpr c40
                 subst c40
                 have H1 : (if 0 ≤ (Go.bits .xor .i64 (Go.bits .xor .i64 x10_2 (ji31)) (ji33)) then (if (Go.bits .xor .i64 (Go.bits .xor .i64 x10_2 (ji31)) (ji33)) < (l0.length : Int) then (spec_deSwap.j6 kj16 l0 a1 x7_5 x18_1 bz532 x10_2 x11_4 x12_5 (Go.bits .xor .i64 (Go.bits .xor .i64 x18_1 (ji31)) (ji33)) (Go.bits .xor .i64 (Go.bits .xor .i64 x10_2 (ji31)) (ji33)) l0 (l0.length : Int) x18_1 (rdOf false l0 (Go.bits .xor .i64 (Go.bits .xor .i64 x10_2 (ji31)) (ji33))) x532000_5 x532001_5) else (none)) else (none)) = some (r1, r2, r3) := by rw [if_neg (show ¬ (false = true) by decide)] at H; exact H
                 clear H
                 have H := H1
                 clear H1
                 by_cases c41 : 0 ≤ (Go.bits .xor .i64 (Go.bits .xor .i64 x10_2 (ji31)) (ji33))
                 ·rw [if_pos c41] at H
                  have c41b0 : decide (0 ≤ (Go.bits .xor .i64 (Go.bits .xor .i64 x10_2 (ji31)) (ji33))) = true := decide_eq_true c41
                  clear c41
                  by_cases c42 : (Go.bits .xor .i64 (Go.bits .xor .i64 x10_2 (ji31)) (ji33)) < (l0.length : Int)
                  ·rw [if_pos c42] at H
                   have c42b0 : decide ((Go.bits .xor .i64 (Go.bits .xor .i64 x10_2 (ji31)) (ji33)) < (l0.length : Int)) = true := decide_eq_true c42
                   clear c42
                   have H' := Aside0.mk H
                   clear H
                   have p534 : 0 ≤ ((Go.bits .xor .i64 (Go.bits .xor .i64 x18_1 (ji31)) (ji33)) : Int) := of_decide_eq_true (by first | (with_reducible assumption) | assumption)
                   have q534 : (Go.bits .xor .i64 (Go.bits .xor .i64 x18_1 (ji31)) (ji33)) < (l0.length : Int) := of_decide_eq_true (by first | (with_reducible assumption) | assumption)
                   obtain ⟨ad534, e534, hx534_0⟩ := Kd.at_bool HR0.out (Go.bits .xor .i64 (Go.bits .xor .i64 x18_1 (ji31)) (ji33)) p534 q534
                   (try rw [← Nbq39.out] at hx534_0)
                   obtain rfl : ad532 = ad534 := (by injection e534)
                   replace hx534_0 := (HB.out.cell (World.block_lt_of_cell? w _ hx534_0)).trans hx534_0
                   replace p534 := eq_true p534
                   replace q534 := eq_true q534
                   have p535 : 0 ≤ ((Go.bits .xor .i64 (Go.bits .xor .i64 x10_2 (ji31)) (ji33)) : Int) := of_decide_eq_true (by first | (with_reducible assumption) | assumption)
                   have q535 : (Go.bits .xor .i64 (Go.bits .xor .i64 x10_2 (ji31)) (ji33)) < (l0.length : Int) := of_decide_eq_true (by first | (with_reducible assumption) | assumption)
                   obtain ⟨ad535, e535, hx535_0⟩ := Kd.at_bool HR0.out (Go.bits .xor .i64 (Go.bits .xor .i64 x10_2 (ji31)) (ji33)) p535 q535
                   (try rw [← Nbq39.out] at hx535_0)
                   obtain rfl : ad532 = ad535 := (by injection e535)
                   replace hx535_0 := (HB.out.cell (World.block_lt_of_cell? w _ hx535_0)).trans hx535_0
                   replace p535 := eq_true p535
                   replace q535 := eq_true q535
                   go_wp2
                   repeat (go_quiet (fail); try go_wp2)
                   go_meet
                   case rel => exact ⟨_, (rdOf false l0 (Go.bits .xor .i64 (Go.bits .xor .i64 x10_2 (ji31)) (ji33))), (by first | rfl | (simp; done) | (simp only [← hji31, ← hji33] <;> (first | rfl | simp)) | (simp [*]; done)), H', ⟨by have := HK1.out; have := HK2.out; have := HJ8.out; have := HK4.out; have := HK5.out; have := HJ16.out; first | omega | exact Nat.le_refl _⟩, ⟨by (with_reducible repeat (first | apply Kd.V_alloc | apply Kd.V_drewN | apply Kd.V_drew)); exact HO_532000.out⟩, ⟨by (with_reducible repeat (first | apply Kd.V_alloc | apply Kd.V_drewN | apply Kd.V_drew)); exact HO_532001.out⟩, ⟨zb BK530.out⟩, ⟨zb BK531.out⟩, ⟨zh HB.out⟩⟩
                  ·rw [if_neg c42] at H
                   exact absurd H (by simp)
                 ·rw [if_neg c41] at H
                  exact absurd H (by simp)
               ·rw [if_neg c38] at H
                exact absurd H (by simp)
              ·rw [if_neg c37] at H
               exact absurd H (by simp)
             case rest =>
              clear HC36
              try clear c1
              try clear q1
              try clear c2
              try clear p2
              try clear c3
              try clear q3
              try clear c4
              try clear c5
              try clear c5b0
              try clear p5
              try clear q5
              try clear hx5
              try clear c6
              try clear c6b0
              try clear p6
              try clear c7
              try clear c7b0
              try clear c8
              try clear c8b0
              try clear q10
              try clear c11
              try clear c11b0
              try clear c12
              try clear c12b0
              try clear c13
              try clear c13b0
              try clear c14
              try clear c15
              try clear c15b0
              try clear c16
              try clear c16b0
              try clear c18
              try clear c18b0
              try clear c18b1
              try clear c20
              try clear c20b0
              try clear c20b1
              try clear c21
              try clear c21b0
              try clear c23
              try clear c23b0
              try clear c23b1
              try clear c24
              try clear c24b0
              try clear c24b1
              try clear c26
              try clear c26b0
              try clear c26b1
              try clear c27
              try clear c27b0
              try clear c29
              try clear c30
              try clear c30b0
              try clear c30b1
              try clear c32
              try clear c32b0
              try clear c32b1
              try clear c34
              try clear c34b0
              try clear c35
              try clear c35b0
              try clear c37
              try clear c37b0
              try clear c38
              try clear c38b0
              try clear q39
              try clear c40
              try clear c41
              try clear c41b0
              try clear c42
              try clear c42b0
              try clear hx532_0
              try clear hx533_0
              try clear hx534_0
              try clear hx535_0
              try clear p2
              try clear p5
              try clear p532
              try clear p533
              try clear p534
              try clear p535
              try clear p6
              try clear q1
              try clear q10
              try clear q5
              try clear q532
              try clear q533
              try clear q534
              try clear q535
              obtain ⟨kq, x96_35, rfl, HA, HJ35, HO_532000, HO_532001, BK530, BK531, HB⟩ := hcut
              cases kq with
              | zero => exact absurd HA.out (by simp [spec_deSwap.j6])
              | succ kj35 =>
               have H := HA.out
               clear HA
               simp only [spec_deSwap.j6] at H
               by_cases c43 : x96_35 = true
               ·subst c43
                have H1 : (spec_deSwap.l3 kj35 l0 a1 x7_5 x18_1 bz532 x10_2 x11_4 (wrap64 (x12_5 + 1)) l0 (l0.length : Int) x18_1 x532000_5 x532001_5) = some (r1, r2, r3) := by rw [if_pos rfl] at H; exact H
                clear H
                have H := H1
                clear H1
                have H' := Aside0.mk H
                clear H
                go_wp2
                repeat (go_quiet (fail); try go_wp2)
                go_roundg kj35
                case measure => have := HK1.out; have := HK2.out; have := HJ8.out; have := HK4.out; have := HK5.out; have := HJ16.out; have := HJ35.out; omega
                case rel => exact ⟨(x7_5), (wrap64 (x12_5 + 1)), (x532000_5), (x532001_5), (u532000), (u532001), (by first | rfl | (simp; done) | (simp [*]; done)), (by first | rfl | (simp; done) | (simp [*]; done)), H', ⟨by have := HK1.out; have := HK2.out; have := HJ8.out; have := HK4.out; have := HK5.out; have := HJ16.out; have := HJ35.out; omega⟩, ⟨by (with_reducible repeat (first | apply Kd.V_alloc | apply Kd.V_drewN | apply Kd.V_drew)); exact HO_532000.out⟩, ⟨by (with_reducible repeat (first | apply Kd.V_alloc | apply Kd.V_drewN | apply Kd.V_drew)); exact HO_532001.out⟩, ⟨zb BK530.out⟩, ⟨zb BK531.out⟩, ⟨zh HB.out⟩⟩
               replace c43 := Bool.eq_false_iff.mpr c43
               subst c43
               have H1 : ((spec_deTrade.f kj35 (([x18_1, x10_2] : List Int)) (([(Go.bits .xor .i64 (Go.bits .xor .i64 x18_1 (ji31)) (ji33)), (Go.bits .xor .i64 (Go.bits .xor .i64 x10_2 (ji31)) (ji33))] : List Int))).bind fun bt542 => (if x7_5 = true then ((spec_deTradeBefore.f kj35 bt542.1 bt542.2 x532000_5 x532001_5).bind fun t549 => (if t549 = true then (spec_deSwap.l3 kj35 l0 a1 true x18_1 bz532 x10_2 x11_4 (wrap64 (x12_5 + 1)) l0 (l0.length : Int) x18_1 bt542.1 bt542.2) else (spec_deSwap.l3 kj35 l0 a1 x7_5 x18_1 bz532 x10_2 x11_4 (wrap64 (x12_5 + 1)) l0 (l0.length : Int) x18_1 x532000_5 x532001_5))) else (spec_deSwap.l3 kj35 l0 a1 true x18_1 bz532 x10_2 x11_4 (wrap64 (x12_5 + 1)) l0 (l0.length : Int) x18_1 bt542.1 bt542.2))) = some (r1, r2, r3) := by rw [if_neg (show ¬ (false = true) by decide)] at H; exact H
               clear H
               have H := H1
               clear H1
               obtain ⟨y536, hy536⟩ : ∃ y_ : List Int, y_ = (([x18_1, x10_2] : List Int)) := ⟨_, rfl⟩
               replace H : ((spec_deTrade.f kj35 y536 (([(Go.bits .xor .i64 (Go.bits .xor .i64 x18_1 (ji31)) (ji33)), (Go.bits .xor .i64 (Go.bits .xor .i64 x10_2 (ji31)) (ji33))] : List Int))).bind fun bt542 => (if x7_5 = true then ((spec_deTradeBefore.f kj35 bt542.1 bt542.2 x532000_5 x532001_5).bind fun t549 => (if t549 = true then (spec_deSwap.l3 kj35 l0 a1 true x18_1 bz532 x10_2 x11_4 (wrap64 (x12_5 + 1)) l0 (l0.length : Int) x18_1 bt542.1 bt542.2) else (spec_deSwap.l3 kj35 l0 a1 x7_5 x18_1 bz532 x10_2 x11_4 (wrap64 (x12_5 + 1)) l0 (l0.length : Int) x18_1 x532000_5 x532001_5))) else (spec_deSwap.l3 kj35 l0 a1 true x18_1 bz532 x10_2 x11_4 (wrap64 (x12_5 + 1)) l0 (l0.length : Int) x18_1 bt542.1 bt542.2))) = some (r1, r2, r3) := by first | (rw [hy536]; with_reducible exact H) | (have H2_ := (Option.bind_some _ _).symm.trans H; rw [hy536]; with_reducible exact H2_) | (have H2_ := (Option.bind_some _ _).symm.trans H; with_reducible exact H2_) | with_reducible exact H | (rw [hy536]; exact H) | exact H
               have Ny536 := Aside0.mk hy536
               clear hy536
               obtain ⟨y539, hy539⟩ : ∃ y_ : List Int, y_ = (([(Go.bits .xor .i64 (Go.bits .xor .i64 x18_1 (ji31)) (ji33)), (Go.bits .xor .i64 (Go.bits .xor .i64 x10_2 (ji31)) (ji33))] : List Int)) := ⟨_, rfl⟩
               replace H : ((spec_deTrade.f kj35 y536 y539).bind fun bt542 => (if x7_5 = true then ((spec_deTradeBefore.f kj35 bt542.1 bt542.2 x532000_5 x532001_5).bind fun t549 => (if t549 = true then (spec_deSwap.l3 kj35 l0 a1 true x18_1 bz532 x10_2 x11_4 (wrap64 (x12_5 + 1)) l0 (l0.length : Int) x18_1 bt542.1 bt542.2) else (spec_deSwap.l3 kj35 l0 a1 x7_5 x18_1 bz532 x10_2 x11_4 (wrap64 (x12_5 + 1)) l0 (l0.length : Int) x18_1 x532000_5 x532001_5))) else (spec_deSwap.l3 kj35 l0 a1 true x18_1 bz532 x10_2 x11_4 (wrap64 (x12_5 + 1)) l0 (l0.length : Int) x18_1 bt542.1 bt542.2))) = some (r1, r2, r3) := by first | (rw [hy539]; with_reducible exact H) | (have H2_ := (Option.bind_some _ _).symm.trans H; rw [hy539]; with_reducible exact H2_) | (have H2_ := (Option.bind_some _ _).symm.trans H; with_reducible exact H2_) | with_reducible exact H | (rw [hy539]; exact H) | exact H
               have Ny539 := Aside0.mk hy539
               clear hy539
               replace H := Option.bind_eq_some_iff.mp H
               obtain ⟨⟨t542, t545⟩, A440, H⟩ := H
               replace H : (if x7_5 = true then ((spec_deTradeBefore.f kj35 t542 t545 x532000_5 x532001_5).bind fun t549 => (if t549 = true then (spec_deSwap.l3 kj35 l0 a1 true x18_1 bz532 x10_2 x11_4 (wrap64 (x12_5 + 1)) l0 (l0.length : Int) x18_1 t542 t545) else (spec_deSwap.l3 kj35 l0 a1 x7_5 x18_1 bz532 x10_2 x11_4 (wrap64 (x12_5 + 1)) l0 (l0.length : Int) x18_1 x532000_5 x532001_5))) else (spec_deSwap.l3 kj35 l0 a1 true x18_1 bz532 x10_2 x11_4 (wrap64 (x12_5 + 1)) l0 (l0.length : Int) x18_1 t542 t545)) = some (r1, r2, r3) := H
               have A44 := Aside0.mk A440
               clear A440
               by_cases c45 : x7_5 = true
               rotate_left
               ·replace c45 := Bool.eq_false_iff.mpr c45
                subst c45
                have H1 : (spec_deSwap.l3 kj35 l0 a1 true x18_1 bz532 x10_2 x11_4 (wrap64 (x12_5 + 1)) l0 (l0.length : Int) x18_1 t542 t545) = some (r1, r2, r3) := by rw [if_neg (show ¬ (false = true) by decide)] at H; exact H
                clear H
                have H := H1
                clear H1
                have H' := Aside0.mk H
                clear H
                go_wp2_with (first | ((with_reducible refine gate_dst (N := 99) rfl ?_); refine Kd.R_lit (Kd.int .i64) _ 3 ?hg (N := 99) ?hd (xs := ([x18_1, x10_2] : List Int)) (inner := [.int .i64 x18_1, .int .i64 x10_2]) (ok := fun _ => True) (okp := fun _ => True) ?hr ?hp (fun _ hk => hk) trivial (Below.refl _ _) (Nat.le_refl _) (by simp) ?_; (case hd => rfl); (case hg => rfl); (case hr => first | (go_simp; done) | (go_simp; rfl)); (case hp => exact (Reps.one (show Kd.M (Kd.int .i64) _ _ _ x18_1 [.int .i64 x18_1] from rfl) (Reps.one (show Kd.M (Kd.int .i64) _ _ _ x10_2 [.int .i64 x10_2] from rfl) (Reps.none _ _)))); intro v537 w86 ho87 hb hg_ hnew_; clear hg_ hnew_; (first | rw [← Ny536.out] at ho87 | (simp only [Int.reduceToNat] at ho87; rw [← Ny536.out] at ho87)); have n0_ := Aside0.mk (Kd.V_elder' (by (with_reducible repeat (first | apply Kd.V_alloc | apply Kd.V_drewN | apply Kd.V_drew)); exact HO_532000.out) (Kd.R_base ho87) hb); have n1_ := Aside0.mk (Kd.V_elder' (by (with_reducible repeat (first | apply Kd.V_alloc | apply Kd.V_drewN | apply Kd.V_drew)); exact HO_532001.out) (Kd.R_base ho87) hb); have n2_ := Aside0.mk (Kd.R_lower (Kd.R_newM (M := fun k_ => (w.heap.size ≤ k_)) ho87 (below_size (zh HB.out)) (fun k_ h_ => h_)) (below_size (zh HB.out))); have n3_ := Aside0.mk (blk_below (g := gb530) (o := .cells #[.slice none 0 0, .slice none 0 0] 46 (0, 0)) (zb BK530.out) hb); have n4_ := Aside0.mk (blk_below (g := gb531) (o := .cells #[u532000, u532001] 46 (0, 0)) (zb BK531.out) hb); have n5_ := Aside0.mk (below_step (zh HB.out) hb); clear HO_532000; clear HO_532001; clear BK530; clear BK531; clear HB; have HO_532000 := n0_; have HO_532001 := n1_; have HO538 := n2_; have BK530 := n3_; have BK531 := n4_; have HB := n5_; clear n0_ n1_ n2_ n3_ n4_ n5_; clear hb ho87) | ((with_reducible refine gate_dst (N := 102) rfl ?_); refine Kd.R_lit (Kd.int .i64) _ 3 ?hg (N := 102) ?hd (xs := ([(Go.bits .xor .i64 (Go.bits .xor .i64 x18_1 (ji31)) (ji33)), (Go.bits .xor .i64 (Go.bits .xor .i64 x10_2 (ji31)) (ji33))] : List Int)) (inner := [.int .i64 (Go.bits .xor .i64 (Go.bits .xor .i64 x18_1 (ji31)) (ji33)), .int .i64 (Go.bits .xor .i64 (Go.bits .xor .i64 x10_2 (ji31)) (ji33))]) (ok := fun _ => True) (okp := fun _ => True) ?hr ?hp (fun _ hk => hk) trivial (Below.refl _ _) (Nat.le_refl _) (by simp) ?_; (case hd => rfl); (case hg => rfl); (case hr => first | (go_simp; done) | (go_simp; rfl)); (case hp => exact (Reps.one (show Kd.M (Kd.int .i64) _ _ _ (Go.bits .xor .i64 (Go.bits .xor .i64 x18_1 (ji31)) (ji33)) [.int .i64 (Go.bits .xor .i64 (Go.bits .xor .i64 x18_1 (ji31)) (ji33))] from rfl) (Reps.one (show Kd.M (Kd.int .i64) _ _ _ (Go.bits .xor .i64 (Go.bits .xor .i64 x10_2 (ji31)) (ji33)) [.int .i64 (Go.bits .xor .i64 (Go.bits .xor .i64 x10_2 (ji31)) (ji33))] from rfl) (Reps.none _ _)))); intro v540 w88 ho89 hb hg_ hnew_; clear hg_ hnew_; (first | rw [← Ny539.out] at ho89 | (simp only [Int.reduceToNat] at ho89; rw [← Ny539.out] at ho89)); have n0_ := Aside0.mk (Kd.V_elder' (by (with_reducible repeat (first | apply Kd.V_alloc | apply Kd.V_drewN | apply Kd.V_drew)); exact HO_532000.out) (Kd.R_base ho89) hb); have n1_ := Aside0.mk (Kd.V_elder' (by (with_reducible repeat (first | apply Kd.V_alloc | apply Kd.V_drewN | apply Kd.V_drew)); exact HO_532001.out) (Kd.R_base ho89) hb); have n2_ := Aside0.mk (Kd.R_elder' (zr HO538.out) (Kd.R_base ho89) hb); have n3_ := Aside0.mk (Kd.R_lower (Kd.R_new' (Kd.R_newM (M := fun k_ => (w.heap.size ≤ k_)) ho89 (below_size (zh HB.out)) (fun k_ h_ => h_)) (Kd.R_lt (zr HO538.out))) (below_size (zh HB.out))); have n4_ := Aside0.mk (blk_below (g := gb530) (o := .cells #[.slice none 0 0, .slice none 0 0] 46 (0, 0)) (zb BK530.out) hb); have n5_ := Aside0.mk (blk_below (g := gb531) (o := .cells #[u532000, u532001] 46 (0, 0)) (zb BK531.out) hb); have n6_ := Aside0.mk (below_step (zh HB.out) hb); clear HO_532000; clear HO_532001; clear HO538; clear BK530; clear BK531; clear HB; have HO_532000 := n0_; have HO_532001 := n1_; have HO538 := n2_; have HO541 := n3_; have BK530 := n4_; have BK531 := n5_; have HB := n6_; clear n0_ n1_ n2_ n3_ n4_ n5_ n6_; clear hb ho89; obtain ⟨Ao90, co90, eo90⟩ := Kd.R_slice HO538.out; subst eo90; obtain ⟨Ao91, co91, eo91⟩ := Kd.R_slice HO541.out; subst eo91) | (go_at_call 91; (with_reducible refine (spec_deTrade.calls kj35 _ _ y536 _ _ y539 t542 t545 _ ?side1 ?side2 ?side3 ?side4 A44.out).mono ?_); (case side1 => repeat (first | exact (Kd.R_reads' HO538.out).2.2 | (with_reducible refine Kd.C_alloc ?_ _) | (with_reducible refine Kd.C_drewN ?_ _) | (with_reducible refine Kd.C_drew ?_))); (case side2 => exact (Kd.R_reads' HO538.out).2.1); (case side3 => repeat (first | exact (Kd.R_reads' HO541.out).2.2 | (with_reducible refine Kd.C_alloc ?_ _) | (with_reducible refine Kd.C_drewN ?_ _) | (with_reducible refine Kd.C_drew ?_))); (case side4 => exact (Kd.R_reads' HO541.out).2.1); rintro e w92 ⟨v543, v546, rfl, ho0, ho1, hb⟩; have n0_ := Aside0.mk (Kd.V_below (by (with_reducible repeat (first | apply Kd.V_alloc | apply Kd.V_drewN | apply Kd.V_drew)); exact HO_532000.out) hb); have n1_ := Aside0.mk (Kd.V_below (by (with_reducible repeat (first | apply Kd.V_alloc | apply Kd.V_drewN | apply Kd.V_drew)); exact HO_532001.out) hb); have n2_ := Aside0.mk (Kd.R_below (zr HO538.out) hb); have n3_ := Aside0.mk (Kd.R_below (zr HO541.out) hb); have n4_ := Aside0.mk (Kd.V_lower (Kd.V_mono (ok' := fun k_ => (w.heap.size ≤ k_) ∧ some k_ ≠ (.slice Ao90 y536.length co90 : Value).ownBlock ∧ some k_ ≠ (.slice Ao91 y539.length co91 : Value).ownBlock ∧ k_ ≠ gb530 ∧ k_ ≠ gb531) ho0 (fun k_ hk_ => ⟨(Nat.le_trans (below_size (zh HB.out)) hk_), (Kd.fresh' (Kd.R_lt (zr HO538.out)) k_ hk_), (Kd.fresh' (Kd.R_lt (zr HO541.out)) k_ hk_), (Kd.freshB (g := gb530) (o := .cells #[.slice none 0 0, .slice none 0 0] 46 (0, 0)) (zb BK530.out) k_ hk_), (Kd.freshB (g := gb531) (o := .cells #[u532000, u532001] 46 (0, 0)) (zb BK531.out) k_ hk_)⟩)) (below_size (zh HB.out))); have n5_ := Aside0.mk (Kd.V_lower (Kd.V_mono (ok' := fun k_ => (w.heap.size ≤ k_) ∧ some k_ ≠ (.slice Ao90 y536.length co90 : Value).ownBlock ∧ some k_ ≠ (.slice Ao91 y539.length co91 : Value).ownBlock ∧ k_ ≠ gb530 ∧ k_ ≠ gb531) ho1 (fun k_ hk_ => ⟨(Nat.le_trans (below_size (zh HB.out)) hk_), (Kd.fresh' (Kd.R_lt (zr HO538.out)) k_ hk_), (Kd.fresh' (Kd.R_lt (zr HO541.out)) k_ hk_), (Kd.freshB (g := gb530) (o := .cells #[.slice none 0 0, .slice none 0 0] 46 (0, 0)) (zb BK530.out) k_ hk_), (Kd.freshB (g := gb531) (o := .cells #[u532000, u532001] 46 (0, 0)) (zb BK531.out) k_ hk_)⟩)) (below_size (zh HB.out))); have n6_ := Aside0.mk (blk_below (g := gb530) (o := .cells #[.slice none 0 0, .slice none 0 0] 46 (0, 0)) (zb BK530.out) hb); have n7_ := Aside0.mk (blk_below (g := gb531) (o := .cells #[u532000, u532001] 46 (0, 0)) (zb BK531.out) hb); have n8_ := Aside0.mk (below_step (zh HB.out) hb); clear HO_532000; clear HO_532001; clear HO538; clear HO541; clear BK530; clear BK531; clear HB; have HO_532000 := n0_; have HO_532001 := n1_; have HO538 := n2_; have HO541 := n3_; have HO544 := n4_; have HO547 := n5_; have BK530 := n6_; have BK531 := n7_; have HB := n8_; clear n0_ n1_ n2_ n3_ n4_ n5_ n6_ n7_ n8_; (try clear hb); (try clear hb2); (try clear hk); (try clear hi); (try clear ho0); (try clear ho1)) | ((with_reducible refine gate_dst (N := 15) rfl ?_); refine box_event ?hg (N := 15) ?hd (cs := #[.slice none 0 0, .slice none 0 0]) (t := 46) ?hr ?_; (case hd => rfl); (case hg => rfl); (case hr => first | (go_simp; done) | (go_simp; rfl)); intro gb548 hg w93 hbox hb; have n0_ := Aside0.mk (Kd.V_below (Kd.V_elderB (by (with_reducible repeat (first | apply Kd.V_alloc | apply Kd.V_drewN | apply Kd.V_drew)); exact HO_532000.out) gb548 (Nat.le_of_eq hg.symm)) hb); have n1_ := Aside0.mk (Kd.V_below (Kd.V_elderB (by (with_reducible repeat (first | apply Kd.V_alloc | apply Kd.V_drewN | apply Kd.V_drew)); exact HO_532001.out) gb548 (Nat.le_of_eq hg.symm)) hb); have n2_ := Aside0.mk (Kd.R_below (zr HO538.out) hb); have n3_ := Aside0.mk (Kd.R_below (zr HO541.out) hb); have n4_ := Aside0.mk (Kd.V_below (Kd.V_elderB (by (with_reducible repeat (first | apply Kd.V_alloc | apply Kd.V_drewN | apply Kd.V_drew)); exact HO544.out) gb548 (Nat.le_of_eq hg.symm)) hb); have n5_ := Aside0.mk (Kd.V_below (Kd.V_elderB (by (with_reducible repeat (first | apply Kd.V_alloc | apply Kd.V_drewN | apply Kd.V_drew)); exact HO547.out) gb548 (Nat.le_of_eq hg.symm)) hb); have n6_ := Aside0.mk (blk_below (g := gb530) (o := .cells #[.slice none 0 0, .slice none 0 0] 46 (0, 0)) (zb BK530.out) hb); have n7_ := Aside0.mk (blk_below (g := gb531) (o := .cells #[u532000, u532001] 46 (0, 0)) (zb BK531.out) hb); have n8_ := Aside0.mk (below_step (zh HB.out) hb); have n9_ := Aside0.mk (hbox); have n10_ := Aside0.mk ((by rw [hg]; exact (below_size (zh HB.out)) : w.heap.size ≤ gb548)); have n11_ := Aside0.mk ((by rw [hg]; exact (below_size (zh HB.out)) : w.heap.size ≤ gb548)); have n12_ := Aside0.mk ((by rw [hg]; exact Nat.ne_of_lt (blk_lt (g := gb530) (o := .cells #[.slice none 0 0, .slice none 0 0] 46 (0, 0)) (zb BK530.out)) : gb530 ≠ gb548)); have n13_ := Aside0.mk ((by rw [hg]; exact Nat.ne_of_gt (blk_lt (g := gb530) (o := .cells #[.slice none 0 0, .slice none 0 0] 46 (0, 0)) (zb BK530.out)) : gb548 ≠ gb530)); have n14_ := Aside0.mk ((by rw [hg]; exact Nat.ne_of_lt (blk_lt (g := gb531) (o := .cells #[u532000, u532001] 46 (0, 0)) (zb BK531.out)) : gb531 ≠ gb548)); have n15_ := Aside0.mk ((by rw [hg]; exact Nat.ne_of_gt (blk_lt (g := gb531) (o := .cells #[u532000, u532001] 46 (0, 0)) (zb BK531.out)) : gb548 ≠ gb531)); clear HO_532000; clear HO_532001; clear HO538; clear HO541; clear HO544; clear HO547; clear BK530; clear BK531; clear HB; have HO_532000 := n0_; have HO_532001 := n1_; have HO538 := n2_; have HO541 := n3_; have HO544 := n4_; have HO547 := n5_; have BK530 := n6_; have BK531 := n7_; have HB := n8_; have BK548 := n9_; have GW548 := n10_; have GE548 := n11_; have NB530_548 := n12_; have NB548_530 := n13_; have NB531_548 := n14_; have NB548_531 := n15_; clear n0_ n1_ n2_ n3_ n4_ n5_ n6_ n7_ n8_ n9_ n10_ n11_ n12_ n13_ n14_ n15_; clear hb hbox hg; obtain ⟨Ao94, co94, eo94⟩ := Kd.V_slice HO544.out; subst eo94; have hnb95 := NB548_530.out; have hnc95 := NB530_548.out; have hnb96 := NB548_531.out; have hnc96 := NB531_548.out; have hcz97_0 : w93.cell? ⟨gb548, 0, none⟩ = some (.slice none 0 0) := (blk_cell BK548.out 0).trans rfl; have hcz97_1 : w93.cell? ⟨gb548, 1, none⟩ = some (.slice none 0 0) := (blk_cell BK548.out 1).trans rfl; have hfz97_0 := blk_frozen BK548.out 0; have hfz97_1 := blk_frozen BK548.out 1; obtain ⟨Ao98, co98, eo98⟩ := Kd.V_slice HO547.out; subst eo98; have hnb99 := NB531_530.out; have hnc99 := NB530_531.out; have hcz100_0 : w93.cell? ⟨gb531, 0, none⟩ = some (u532000) := (blk_cell BK531.out 0).trans rfl; have hcz100_1 : w93.cell? ⟨gb531, 1, none⟩ = some (u532001) := (blk_cell BK531.out 1).trans rfl; have hfz100_0 := blk_frozen BK531.out 0; have hfz100_1 := blk_frozen BK531.out 1))
                repeat (go_quiet (first | ((with_reducible refine gate_dst (N := 99) rfl ?_); refine Kd.R_lit (Kd.int .i64) _ 3 ?hg (N := 99) ?hd (xs := ([x18_1, x10_2] : List Int)) (inner := [.int .i64 x18_1, .int .i64 x10_2]) (ok := fun _ => True) (okp := fun _ => True) ?hr ?hp (fun _ hk => hk) trivial (Below.refl _ _) (Nat.le_refl _) (by simp) ?_; (case hd => rfl); (case hg => rfl); (case hr => first | (go_simp; done) | (go_simp; rfl)); (case hp => exact (Reps.one (show Kd.M (Kd.int .i64) _ _ _ x18_1 [.int .i64 x18_1] from rfl) (Reps.one (show Kd.M (Kd.int .i64) _ _ _ x10_2 [.int .i64 x10_2] from rfl) (Reps.none _ _)))); intro v537 w86 ho87 hb hg_ hnew_; clear hg_ hnew_; (first | rw [← Ny536.out] at ho87 | (simp only [Int.reduceToNat] at ho87; rw [← Ny536.out] at ho87)); have n0_ := Aside0.mk (Kd.V_elder' (by (with_reducible repeat (first | apply Kd.V_alloc | apply Kd.V_drewN | apply Kd.V_drew)); exact HO_532000.out) (Kd.R_base ho87) hb); have n1_ := Aside0.mk (Kd.V_elder' (by (with_reducible repeat (first | apply Kd.V_alloc | apply Kd.V_drewN | apply Kd.V_drew)); exact HO_532001.out) (Kd.R_base ho87) hb); have n2_ := Aside0.mk (Kd.R_lower (Kd.R_newM (M := fun k_ => (w.heap.size ≤ k_)) ho87 (below_size (zh HB.out)) (fun k_ h_ => h_)) (below_size (zh HB.out))); have n3_ := Aside0.mk (blk_below (g := gb530) (o := .cells #[.slice none 0 0, .slice none 0 0] 46 (0, 0)) (zb BK530.out) hb); have n4_ := Aside0.mk (blk_below (g := gb531) (o := .cells #[u532000, u532001] 46 (0, 0)) (zb BK531.out) hb); have n5_ := Aside0.mk (below_step (zh HB.out) hb); clear HO_532000; clear HO_532001; clear BK530; clear BK531; clear HB; have HO_532000 := n0_; have HO_532001 := n1_; have HO538 := n2_; have BK530 := n3_; have BK531 := n4_; have HB := n5_; clear n0_ n1_ n2_ n3_ n4_ n5_; clear hb ho87) | ((with_reducible refine gate_dst (N := 102) rfl ?_); refine Kd.R_lit (Kd.int .i64) _ 3 ?hg (N := 102) ?hd (xs := ([(Go.bits .xor .i64 (Go.bits .xor .i64 x18_1 (ji31)) (ji33)), (Go.bits .xor .i64 (Go.bits .xor .i64 x10_2 (ji31)) (ji33))] : List Int)) (inner := [.int .i64 (Go.bits .xor .i64 (Go.bits .xor .i64 x18_1 (ji31)) (ji33)), .int .i64 (Go.bits .xor .i64 (Go.bits .xor .i64 x10_2 (ji31)) (ji33))]) (ok := fun _ => True) (okp := fun _ => True) ?hr ?hp (fun _ hk => hk) trivial (Below.refl _ _) (Nat.le_refl _) (by simp) ?_; (case hd => rfl); (case hg => rfl); (case hr => first | (go_simp; done) | (go_simp; rfl)); (case hp => exact (Reps.one (show Kd.M (Kd.int .i64) _ _ _ (Go.bits .xor .i64 (Go.bits .xor .i64 x18_1 (ji31)) (ji33)) [.int .i64 (Go.bits .xor .i64 (Go.bits .xor .i64 x18_1 (ji31)) (ji33))] from rfl) (Reps.one (show Kd.M (Kd.int .i64) _ _ _ (Go.bits .xor .i64 (Go.bits .xor .i64 x10_2 (ji31)) (ji33)) [.int .i64 (Go.bits .xor .i64 (Go.bits .xor .i64 x10_2 (ji31)) (ji33))] from rfl) (Reps.none _ _)))); intro v540 w88 ho89 hb hg_ hnew_; clear hg_ hnew_; (first | rw [← Ny539.out] at ho89 | (simp only [Int.reduceToNat] at ho89; rw [← Ny539.out] at ho89)); have n0_ := Aside0.mk (Kd.V_elder' (by (with_reducible repeat (first | apply Kd.V_alloc | apply Kd.V_drewN | apply Kd.V_drew)); exact HO_532000.out) (Kd.R_base ho89) hb); have n1_ := Aside0.mk (Kd.V_elder' (by (with_reducible repeat (first | apply Kd.V_alloc | apply Kd.V_drewN | apply Kd.V_drew)); exact HO_532001.out) (Kd.R_base ho89) hb); have n2_ := Aside0.mk (Kd.R_elder' (zr HO538.out) (Kd.R_base ho89) hb); have n3_ := Aside0.mk (Kd.R_lower (Kd.R_new' (Kd.R_newM (M := fun k_ => (w.heap.size ≤ k_)) ho89 (below_size (zh HB.out)) (fun k_ h_ => h_)) (Kd.R_lt (zr HO538.out))) (below_size (zh HB.out))); have n4_ := Aside0.mk (blk_below (g := gb530) (o := .cells #[.slice none 0 0, .slice none 0 0] 46 (0, 0)) (zb BK530.out) hb); have n5_ := Aside0.mk (blk_below (g := gb531) (o := .cells #[u532000, u532001] 46 (0, 0)) (zb BK531.out) hb); have n6_ := Aside0.mk (below_step (zh HB.out) hb); clear HO_532000; clear HO_532001; clear HO538; clear BK530; clear BK531; clear HB; have HO_532000 := n0_; have HO_532001 := n1_; have HO538 := n2_; have HO541 := n3_; have BK530 := n4_; have BK531 := n5_; have HB := n6_; clear n0_ n1_ n2_ n3_ n4_ n5_ n6_; clear hb ho89; obtain ⟨Ao90, co90, eo90⟩ := Kd.R_slice HO538.out; subst eo90; obtain ⟨Ao91, co91, eo91⟩ := Kd.R_slice HO541.out; subst eo91) | (go_at_call 91; (with_reducible refine (spec_deTrade.calls kj35 _ _ y536 _ _ y539 t542 t545 _ ?side1 ?side2 ?side3 ?side4 A44.out).mono ?_); (case side1 => repeat (first | exact (Kd.R_reads' HO538.out).2.2 | (with_reducible refine Kd.C_alloc ?_ _) | (with_reducible refine Kd.C_drewN ?_ _) | (with_reducible refine Kd.C_drew ?_))); (case side2 => exact (Kd.R_reads' HO538.out).2.1); (case side3 => repeat (first | exact (Kd.R_reads' HO541.out).2.2 | (with_reducible refine Kd.C_alloc ?_ _) | (with_reducible refine Kd.C_drewN ?_ _) | (with_reducible refine Kd.C_drew ?_))); (case side4 => exact (Kd.R_reads' HO541.out).2.1); rintro e w92 ⟨v543, v546, rfl, ho0, ho1, hb⟩; have n0_ := Aside0.mk (Kd.V_below (by (with_reducible repeat (first | apply Kd.V_alloc | apply Kd.V_drewN | apply Kd.V_drew)); exact HO_532000.out) hb); have n1_ := Aside0.mk (Kd.V_below (by (with_reducible repeat (first | apply Kd.V_alloc | apply Kd.V_drewN | apply Kd.V_drew)); exact HO_532001.out) hb); have n2_ := Aside0.mk (Kd.R_below (zr HO538.out) hb); have n3_ := Aside0.mk (Kd.R_below (zr HO541.out) hb); have n4_ := Aside0.mk (Kd.V_lower (Kd.V_mono (ok' := fun k_ => (w.heap.size ≤ k_) ∧ some k_ ≠ (.slice Ao90 y536.length co90 : Value).ownBlock ∧ some k_ ≠ (.slice Ao91 y539.length co91 : Value).ownBlock ∧ k_ ≠ gb530 ∧ k_ ≠ gb531) ho0 (fun k_ hk_ => ⟨(Nat.le_trans (below_size (zh HB.out)) hk_), (Kd.fresh' (Kd.R_lt (zr HO538.out)) k_ hk_), (Kd.fresh' (Kd.R_lt (zr HO541.out)) k_ hk_), (Kd.freshB (g := gb530) (o := .cells #[.slice none 0 0, .slice none 0 0] 46 (0, 0)) (zb BK530.out) k_ hk_), (Kd.freshB (g := gb531) (o := .cells #[u532000, u532001] 46 (0, 0)) (zb BK531.out) k_ hk_)⟩)) (below_size (zh HB.out))); have n5_ := Aside0.mk (Kd.V_lower (Kd.V_mono (ok' := fun k_ => (w.heap.size ≤ k_) ∧ some k_ ≠ (.slice Ao90 y536.length co90 : Value).ownBlock ∧ some k_ ≠ (.slice Ao91 y539.length co91 : Value).ownBlock ∧ k_ ≠ gb530 ∧ k_ ≠ gb531) ho1 (fun k_ hk_ => ⟨(Nat.le_trans (below_size (zh HB.out)) hk_), (Kd.fresh' (Kd.R_lt (zr HO538.out)) k_ hk_), (Kd.fresh' (Kd.R_lt (zr HO541.out)) k_ hk_), (Kd.freshB (g := gb530) (o := .cells #[.slice none 0 0, .slice none 0 0] 46 (0, 0)) (zb BK530.out) k_ hk_), (Kd.freshB (g := gb531) (o := .cells #[u532000, u532001] 46 (0, 0)) (zb BK531.out) k_ hk_)⟩)) (below_size (zh HB.out))); have n6_ := Aside0.mk (blk_below (g := gb530) (o := .cells #[.slice none 0 0, .slice none 0 0] 46 (0, 0)) (zb BK530.out) hb); have n7_ := Aside0.mk (blk_below (g := gb531) (o := .cells #[u532000, u532001] 46 (0, 0)) (zb BK531.out) hb); have n8_ := Aside0.mk (below_step (zh HB.out) hb); clear HO_532000; clear HO_532001; clear HO538; clear HO541; clear BK530; clear BK531; clear HB; have HO_532000 := n0_; have HO_532001 := n1_; have HO538 := n2_; have HO541 := n3_; have HO544 := n4_; have HO547 := n5_; have BK530 := n6_; have BK531 := n7_; have HB := n8_; clear n0_ n1_ n2_ n3_ n4_ n5_ n6_ n7_ n8_; (try clear hb); (try clear hb2); (try clear hk); (try clear hi); (try clear ho0); (try clear ho1)) | ((with_reducible refine gate_dst (N := 15) rfl ?_); refine box_event ?hg (N := 15) ?hd (cs := #[.slice none 0 0, .slice none 0 0]) (t := 46) ?hr ?_; (case hd => rfl); (case hg => rfl); (case hr => first | (go_simp; done) | (go_simp; rfl)); intro gb548 hg w93 hbox hb; have n0_ := Aside0.mk (Kd.V_below (Kd.V_elderB (by (with_reducible repeat (first | apply Kd.V_alloc | apply Kd.V_drewN | apply Kd.V_drew)); exact HO_532000.out) gb548 (Nat.le_of_eq hg.symm)) hb); have n1_ := Aside0.mk (Kd.V_below (Kd.V_elderB (by (with_reducible repeat (first | apply Kd.V_alloc | apply Kd.V_drewN | apply Kd.V_drew)); exact HO_532001.out) gb548 (Nat.le_of_eq hg.symm)) hb); have n2_ := Aside0.mk (Kd.R_below (zr HO538.out) hb); have n3_ := Aside0.mk (Kd.R_below (zr HO541.out) hb); have n4_ := Aside0.mk (Kd.V_below (Kd.V_elderB (by (with_reducible repeat (first | apply Kd.V_alloc | apply Kd.V_drewN | apply Kd.V_drew)); exact HO544.out) gb548 (Nat.le_of_eq hg.symm)) hb); have n5_ := Aside0.mk (Kd.V_below (Kd.V_elderB (by (with_reducible repeat (first | apply Kd.V_alloc | apply Kd.V_drewN | apply Kd.V_drew)); exact HO547.out) gb548 (Nat.le_of_eq hg.symm)) hb); have n6_ := Aside0.mk (blk_below (g := gb530) (o := .cells #[.slice none 0 0, .slice none 0 0] 46 (0, 0)) (zb BK530.out) hb); have n7_ := Aside0.mk (blk_below (g := gb531) (o := .cells #[u532000, u532001] 46 (0, 0)) (zb BK531.out) hb); have n8_ := Aside0.mk (below_step (zh HB.out) hb); have n9_ := Aside0.mk (hbox); have n10_ := Aside0.mk ((by rw [hg]; exact (below_size (zh HB.out)) : w.heap.size ≤ gb548)); have n11_ := Aside0.mk ((by rw [hg]; exact (below_size (zh HB.out)) : w.heap.size ≤ gb548)); have n12_ := Aside0.mk ((by rw [hg]; exact Nat.ne_of_lt (blk_lt (g := gb530) (o := .cells #[.slice none 0 0, .slice none 0 0] 46 (0, 0)) (zb BK530.out)) : gb530 ≠ gb548)); have n13_ := Aside0.mk ((by rw [hg]; exact Nat.ne_of_gt (blk_lt (g := gb530) (o := .cells #[.slice none 0 0, .slice none 0 0] 46 (0, 0)) (zb BK530.out)) : gb548 ≠ gb530)); have n14_ := Aside0.mk ((by rw [hg]; exact Nat.ne_of_lt (blk_lt (g := gb531) (o := .cells #[u532000, u532001] 46 (0, 0)) (zb BK531.out)) : gb531 ≠ gb548)); have n15_ := Aside0.mk ((by rw [hg]; exact Nat.ne_of_gt (blk_lt (g := gb531) (o := .cells #[u532000, u532001] 46 (0, 0)) (zb BK531.out)) : gb548 ≠ gb531)); clear HO_532000; clear HO_532001; clear HO538; clear HO541; clear HO544; clear HO547; clear BK530; clear BK531; clear HB; have HO_532000 := n0_; have HO_532001 := n1_; have HO538 := n2_; have HO541 := n3_; have HO544 := n4_; have HO547 := n5_; have BK530 := n6_; have BK531 := n7_; have HB := n8_; have BK548 := n9_; have GW548 := n10_; have GE548 := n11_; have NB530_548 := n12_; have NB548_530 := n13_; have NB531_548 := n14_; have NB548_531 := n15_; clear n0_ n1_ n2_ n3_ n4_ n5_ n6_ n7_ n8_ n9_ n10_ n11_ n12_ n13_ n14_ n15_; clear hb hbox hg; obtain ⟨Ao94, co94, eo94⟩ := Kd.V_slice HO544.out; subst eo94; have hnb95 := NB548_530.out; have hnc95 := NB530_548.out; have hnb96 := NB548_531.out; have hnc96 := NB531_548.out; have hcz97_0 : w93.cell? ⟨gb548, 0, none⟩ = some (.slice none 0 0) := (blk_cell BK548.out 0).trans rfl; have hcz97_1 : w93.cell? ⟨gb548, 1, none⟩ = some (.slice none 0 0) := (blk_cell BK548.out 1).trans rfl; have hfz97_0 := blk_frozen BK548.out 0; have hfz97_1 := blk_frozen BK548.out 1; obtain ⟨Ao98, co98, eo98⟩ := Kd.V_slice HO547.out; subst eo98; have hnb99 := NB531_530.out; have hnc99 := NB530_531.out; have hcz100_0 : w93.cell? ⟨gb531, 0, none⟩ = some (u532000) := (blk_cell BK531.out 0).trans rfl; have hcz100_1 : w93.cell? ⟨gb531, 1, none⟩ = some (u532001) := (blk_cell BK531.out 1).trans rfl; have hfz100_0 := blk_frozen BK531.out 0; have hfz100_1 := blk_frozen BK531.out 1)); try go_wp2_with (first | ((with_reducible refine gate_dst (N := 99) rfl ?_); refine Kd.R_lit (Kd.int .i64) _ 3 ?hg (N := 99) ?hd (xs := ([x18_1, x10_2] : List Int)) (inner := [.int .i64 x18_1, .int .i64 x10_2]) (ok := fun _ => True) (okp := fun _ => True) ?hr ?hp (fun _ hk => hk) trivial (Below.refl _ _) (Nat.le_refl _) (by simp) ?_; (case hd => rfl); (case hg => rfl); (case hr => first | (go_simp; done) | (go_simp; rfl)); (case hp => exact (Reps.one (show Kd.M (Kd.int .i64) _ _ _ x18_1 [.int .i64 x18_1] from rfl) (Reps.one (show Kd.M (Kd.int .i64) _ _ _ x10_2 [.int .i64 x10_2] from rfl) (Reps.none _ _)))); intro v537 w86 ho87 hb hg_ hnew_; clear hg_ hnew_; (first | rw [← Ny536.out] at ho87 | (simp only [Int.reduceToNat] at ho87; rw [← Ny536.out] at ho87)); have n0_ := Aside0.mk (Kd.V_elder' (by (with_reducible repeat (first | apply Kd.V_alloc | apply Kd.V_drewN | apply Kd.V_drew)); exact HO_532000.out) (Kd.R_base ho87) hb); have n1_ := Aside0.mk (Kd.V_elder' (by (with_reducible repeat (first | apply Kd.V_alloc | apply Kd.V_drewN | apply Kd.V_drew)); exact HO_532001.out) (Kd.R_base ho87) hb); have n2_ := Aside0.mk (Kd.R_lower (Kd.R_newM (M := fun k_ => (w.heap.size ≤ k_)) ho87 (below_size (zh HB.out)) (fun k_ h_ => h_)) (below_size (zh HB.out))); have n3_ := Aside0.mk (blk_below (g := gb530) (o := .cells #[.slice none 0 0, .slice none 0 0] 46 (0, 0)) (zb BK530.out) hb); have n4_ := Aside0.mk (blk_below (g := gb531) (o := .cells #[u532000, u532001] 46 (0, 0)) (zb BK531.out) hb); have n5_ := Aside0.mk (below_step (zh HB.out) hb); clear HO_532000; clear HO_532001; clear BK530; clear BK531; clear HB; have HO_532000 := n0_; have HO_532001 := n1_; have HO538 := n2_; have BK530 := n3_; have BK531 := n4_; have HB := n5_; clear n0_ n1_ n2_ n3_ n4_ n5_; clear hb ho87) | ((with_reducible refine gate_dst (N := 102) rfl ?_); refine Kd.R_lit (Kd.int .i64) _ 3 ?hg (N := 102) ?hd (xs := ([(Go.bits .xor .i64 (Go.bits .xor .i64 x18_1 (ji31)) (ji33)), (Go.bits .xor .i64 (Go.bits .xor .i64 x10_2 (ji31)) (ji33))] : List Int)) (inner := [.int .i64 (Go.bits .xor .i64 (Go.bits .xor .i64 x18_1 (ji31)) (ji33)), .int .i64 (Go.bits .xor .i64 (Go.bits .xor .i64 x10_2 (ji31)) (ji33))]) (ok := fun _ => True) (okp := fun _ => True) ?hr ?hp (fun _ hk => hk) trivial (Below.refl _ _) (Nat.le_refl _) (by simp) ?_; (case hd => rfl); (case hg => rfl); (case hr => first | (go_simp; done) | (go_simp; rfl)); (case hp => exact (Reps.one (show Kd.M (Kd.int .i64) _ _ _ (Go.bits .xor .i64 (Go.bits .xor .i64 x18_1 (ji31)) (ji33)) [.int .i64 (Go.bits .xor .i64 (Go.bits .xor .i64 x18_1 (ji31)) (ji33))] from rfl) (Reps.one (show Kd.M (Kd.int .i64) _ _ _ (Go.bits .xor .i64 (Go.bits .xor .i64 x10_2 (ji31)) (ji33)) [.int .i64 (Go.bits .xor .i64 (Go.bits .xor .i64 x10_2 (ji31)) (ji33))] from rfl) (Reps.none _ _)))); intro v540 w88 ho89 hb hg_ hnew_; clear hg_ hnew_; (first | rw [← Ny539.out] at ho89 | (simp only [Int.reduceToNat] at ho89; rw [← Ny539.out] at ho89)); have n0_ := Aside0.mk (Kd.V_elder' (by (with_reducible repeat (first | apply Kd.V_alloc | apply Kd.V_drewN | apply Kd.V_drew)); exact HO_532000.out) (Kd.R_base ho89) hb); have n1_ := Aside0.mk (Kd.V_elder' (by (with_reducible repeat (first | apply Kd.V_alloc | apply Kd.V_drewN | apply Kd.V_drew)); exact HO_532001.out) (Kd.R_base ho89) hb); have n2_ := Aside0.mk (Kd.R_elder' (zr HO538.out) (Kd.R_base ho89) hb); have n3_ := Aside0.mk (Kd.R_lower (Kd.R_new' (Kd.R_newM (M := fun k_ => (w.heap.size ≤ k_)) ho89 (below_size (zh HB.out)) (fun k_ h_ => h_)) (Kd.R_lt (zr HO538.out))) (below_size (zh HB.out))); have n4_ := Aside0.mk (blk_below (g := gb530) (o := .cells #[.slice none 0 0, .slice none 0 0] 46 (0, 0)) (zb BK530.out) hb); have n5_ := Aside0.mk (blk_below (g := gb531) (o := .cells #[u532000, u532001] 46 (0, 0)) (zb BK531.out) hb); have n6_ := Aside0.mk (below_step (zh HB.out) hb); clear HO_532000; clear HO_532001; clear HO538; clear BK530; clear BK531; clear HB; have HO_532000 := n0_; have HO_532001 := n1_; have HO538 := n2_; have HO541 := n3_; have BK530 := n4_; have BK531 := n5_; have HB := n6_; clear n0_ n1_ n2_ n3_ n4_ n5_ n6_; clear hb ho89; obtain ⟨Ao90, co90, eo90⟩ := Kd.R_slice HO538.out; subst eo90; obtain ⟨Ao91, co91, eo91⟩ := Kd.R_slice HO541.out; subst eo91) | (go_at_call 91; (with_reducible refine (spec_deTrade.calls kj35 _ _ y536 _ _ y539 t542 t545 _ ?side1 ?side2 ?side3 ?side4 A44.out).mono ?_); (case side1 => repeat (first | exact (Kd.R_reads' HO538.out).2.2 | (with_reducible refine Kd.C_alloc ?_ _) | (with_reducible refine Kd.C_drewN ?_ _) | (with_reducible refine Kd.C_drew ?_))); (case side2 => exact (Kd.R_reads' HO538.out).2.1); (case side3 => repeat (first | exact (Kd.R_reads' HO541.out).2.2 | (with_reducible refine Kd.C_alloc ?_ _) | (with_reducible refine Kd.C_drewN ?_ _) | (with_reducible refine Kd.C_drew ?_))); (case side4 => exact (Kd.R_reads' HO541.out).2.1); rintro e w92 ⟨v543, v546, rfl, ho0, ho1, hb⟩; have n0_ := Aside0.mk (Kd.V_below (by (with_reducible repeat (first | apply Kd.V_alloc | apply Kd.V_drewN | apply Kd.V_drew)); exact HO_532000.out) hb); have n1_ := Aside0.mk (Kd.V_below (by (with_reducible repeat (first | apply Kd.V_alloc | apply Kd.V_drewN | apply Kd.V_drew)); exact HO_532001.out) hb); have n2_ := Aside0.mk (Kd.R_below (zr HO538.out) hb); have n3_ := Aside0.mk (Kd.R_below (zr HO541.out) hb); have n4_ := Aside0.mk (Kd.V_lower (Kd.V_mono (ok' := fun k_ => (w.heap.size ≤ k_) ∧ some k_ ≠ (.slice Ao90 y536.length co90 : Value).ownBlock ∧ some k_ ≠ (.slice Ao91 y539.length co91 : Value).ownBlock ∧ k_ ≠ gb530 ∧ k_ ≠ gb531) ho0 (fun k_ hk_ => ⟨(Nat.le_trans (below_size (zh HB.out)) hk_), (Kd.fresh' (Kd.R_lt (zr HO538.out)) k_ hk_), (Kd.fresh' (Kd.R_lt (zr HO541.out)) k_ hk_), (Kd.freshB (g := gb530) (o := .cells #[.slice none 0 0, .slice none 0 0] 46 (0, 0)) (zb BK530.out) k_ hk_), (Kd.freshB (g := gb531) (o := .cells #[u532000, u532001] 46 (0, 0)) (zb BK531.out) k_ hk_)⟩)) (below_size (zh HB.out))); have n5_ := Aside0.mk (Kd.V_lower (Kd.V_mono (ok' := fun k_ => (w.heap.size ≤ k_) ∧ some k_ ≠ (.slice Ao90 y536.length co90 : Value).ownBlock ∧ some k_ ≠ (.slice Ao91 y539.length co91 : Value).ownBlock ∧ k_ ≠ gb530 ∧ k_ ≠ gb531) ho1 (fun k_ hk_ => ⟨(Nat.le_trans (below_size (zh HB.out)) hk_), (Kd.fresh' (Kd.R_lt (zr HO538.out)) k_ hk_), (Kd.fresh' (Kd.R_lt (zr HO541.out)) k_ hk_), (Kd.freshB (g := gb530) (o := .cells #[.slice none 0 0, .slice none 0 0] 46 (0, 0)) (zb BK530.out) k_ hk_), (Kd.freshB (g := gb531) (o := .cells #[u532000, u532001] 46 (0, 0)) (zb BK531.out) k_ hk_)⟩)) (below_size (zh HB.out))); have n6_ := Aside0.mk (blk_below (g := gb530) (o := .cells #[.slice none 0 0, .slice none 0 0] 46 (0, 0)) (zb BK530.out) hb); have n7_ := Aside0.mk (blk_below (g := gb531) (o := .cells #[u532000, u532001] 46 (0, 0)) (zb BK531.out) hb); have n8_ := Aside0.mk (below_step (zh HB.out) hb); clear HO_532000; clear HO_532001; clear HO538; clear HO541; clear BK530; clear BK531; clear HB; have HO_532000 := n0_; have HO_532001 := n1_; have HO538 := n2_; have HO541 := n3_; have HO544 := n4_; have HO547 := n5_; have BK530 := n6_; have BK531 := n7_; have HB := n8_; clear n0_ n1_ n2_ n3_ n4_ n5_ n6_ n7_ n8_; (try clear hb); (try clear hb2); (try clear hk); (try clear hi); (try clear ho0); (try clear ho1)) | ((with_reducible refine gate_dst (N := 15) rfl ?_); refine box_event ?hg (N := 15) ?hd (cs := #[.slice none 0 0, .slice none 0 0]) (t := 46) ?hr ?_; (case hd => rfl); (case hg => rfl); (case hr => first | (go_simp; done) | (go_simp; rfl)); intro gb548 hg w93 hbox hb; have n0_ := Aside0.mk (Kd.V_below (Kd.V_elderB (by (with_reducible repeat (first | apply Kd.V_alloc | apply Kd.V_drewN | apply Kd.V_drew)); exact HO_532000.out) gb548 (Nat.le_of_eq hg.symm)) hb); have n1_ := Aside0.mk (Kd.V_below (Kd.V_elderB (by (with_reducible repeat (first | apply Kd.V_alloc | apply Kd.V_drewN | apply Kd.V_drew)); exact HO_532001.out) gb548 (Nat.le_of_eq hg.symm)) hb); have n2_ := Aside0.mk (Kd.R_below (zr HO538.out) hb); have n3_ := Aside0.mk (Kd.R_below (zr HO541.out) hb); have n4_ := Aside0.mk (Kd.V_below (Kd.V_elderB (by (with_reducible repeat (first | apply Kd.V_alloc | apply Kd.V_drewN | apply Kd.V_drew)); exact HO544.out) gb548 (Nat.le_of_eq hg.symm)) hb); have n5_ := Aside0.mk (Kd.V_below (Kd.V_elderB (by (with_reducible repeat (first | apply Kd.V_alloc | apply Kd.V_drewN | apply Kd.V_drew)); exact HO547.out) gb548 (Nat.le_of_eq hg.symm)) hb); have n6_ := Aside0.mk (blk_below (g := gb530) (o := .cells #[.slice none 0 0, .slice none 0 0] 46 (0, 0)) (zb BK530.out) hb); have n7_ := Aside0.mk (blk_below (g := gb531) (o := .cells #[u532000, u532001] 46 (0, 0)) (zb BK531.out) hb); have n8_ := Aside0.mk (below_step (zh HB.out) hb); have n9_ := Aside0.mk (hbox); have n10_ := Aside0.mk ((by rw [hg]; exact (below_size (zh HB.out)) : w.heap.size ≤ gb548)); have n11_ := Aside0.mk ((by rw [hg]; exact (below_size (zh HB.out)) : w.heap.size ≤ gb548)); have n12_ := Aside0.mk ((by rw [hg]; exact Nat.ne_of_lt (blk_lt (g := gb530) (o := .cells #[.slice none 0 0, .slice none 0 0] 46 (0, 0)) (zb BK530.out)) : gb530 ≠ gb548)); have n13_ := Aside0.mk ((by rw [hg]; exact Nat.ne_of_gt (blk_lt (g := gb530) (o := .cells #[.slice none 0 0, .slice none 0 0] 46 (0, 0)) (zb BK530.out)) : gb548 ≠ gb530)); have n14_ := Aside0.mk ((by rw [hg]; exact Nat.ne_of_lt (blk_lt (g := gb531) (o := .cells #[u532000, u532001] 46 (0, 0)) (zb BK531.out)) : gb531 ≠ gb548)); have n15_ := Aside0.mk ((by rw [hg]; exact Nat.ne_of_gt (blk_lt (g := gb531) (o := .cells #[u532000, u532001] 46 (0, 0)) (zb BK531.out)) : gb548 ≠ gb531)); clear HO_532000; clear HO_532001; clear HO538; clear HO541; clear HO544; clear HO547; clear BK530; clear BK531; clear HB; have HO_532000 := n0_; have HO_532001 := n1_; have HO538 := n2_; have HO541 := n3_; have HO544 := n4_; have HO547 := n5_; have BK530 := n6_; have BK531 := n7_; have HB := n8_; have BK548 := n9_; have GW548 := n10_; have GE548 := n11_; have NB530_548 := n12_; have NB548_530 := n13_; have NB531_548 := n14_; have NB548_531 := n15_; clear n0_ n1_ n2_ n3_ n4_ n5_ n6_ n7_ n8_ n9_ n10_ n11_ n12_ n13_ n14_ n15_; clear hb hbox hg; obtain ⟨Ao94, co94, eo94⟩ := Kd.V_slice HO544.out; subst eo94; have hnb95 := NB548_530.out; have hnc95 := NB530_548.out; have hnb96 := NB548_531.out; have hnc96 := NB531_548.out; have hcz97_0 : w93.cell? ⟨gb548, 0, none⟩ = some (.slice none 0 0) := (blk_cell BK548.out 0).trans rfl; have hcz97_1 : w93.cell? ⟨gb548, 1, none⟩ = some (.slice none 0 0) := (blk_cell BK548.out 1).trans rfl; have hfz97_0 := blk_frozen BK548.out 0; have hfz97_1 := blk_frozen BK548.out 1; obtain ⟨Ao98, co98, eo98⟩ := Kd.V_slice HO547.out; subst eo98; have hnb99 := NB531_530.out; have hnc99 := NB530_531.out; have hcz100_0 : w93.cell? ⟨gb531, 0, none⟩ = some (u532000) := (blk_cell BK531.out 0).trans rfl; have hcz100_1 : w93.cell? ⟨gb531, 1, none⟩ = some (u532001) := (blk_cell BK531.out 1).trans rfl; have hfz100_0 := blk_frozen BK531.out 0; have hfz100_1 := blk_frozen BK531.out 1)))
                go_roundg kj35
                case measure => have := HK1.out; have := HK2.out; have := HJ8.out; have := HK4.out; have := HK5.out; have := HJ16.out; have := HJ35.out; omega
                case rel => exact ⟨(true), (wrap64 (x12_5 + 1)), (t542), (t545), (.slice Ao94 t542.length co94), (.slice Ao98 t545.length co98), (by first | rfl | (simp; done) | (simp [*]; done)), (by first | rfl | (simp; done) | (simp [*]; done)), H', ⟨by have := HK1.out; have := HK2.out; have := HJ8.out; have := HK4.out; have := HK5.out; have := HJ16.out; have := HJ35.out; omega⟩, ⟨by (with_reducible repeat (first | apply Kd.V_alloc | apply Kd.V_drewN | apply Kd.V_drew)); exact Kd.V_mono (Kd.V_far (p := ⟨gb531, 1, none⟩) (Kd.V_far (p := ⟨gb531, 0, none⟩) (Kd.V_far (p := ⟨gb548, 1, none⟩) (Kd.V_far (p := ⟨gb548, 0, none⟩) (Kd.V_mono (Kd.V_mono HO544.out (fun k_ hk => (⟨hk, hk.2⟩ : _ ∧ k_ ≠ gb548))) (fun k_ hk => (⟨hk, hk.1.1.2.2.2.2⟩ : _ ∧ k_ ≠ gb531))) (fun _ hk => hk.1.2) (.slice Ao94 t542.length co94)) (fun _ hk => hk.1.2) (.slice Ao98 t545.length co98)) (fun _ hk => hk.2) (.slice Ao94 t542.length co94)) (fun _ hk => hk.2) (.slice Ao98 t545.length co98)) (fun _ hk => ⟨hk.1.1.1.1, ⟨hk.1.1.1.2.2.2.1, hk.1.1.1.2.2.2.2⟩⟩)⟩, ⟨by (with_reducible repeat (first | apply Kd.V_alloc | apply Kd.V_drewN | apply Kd.V_drew)); exact Kd.V_mono (Kd.V_far (p := ⟨gb531, 1, none⟩) (Kd.V_far (p := ⟨gb531, 0, none⟩) (Kd.V_far (p := ⟨gb548, 1, none⟩) (Kd.V_far (p := ⟨gb548, 0, none⟩) (Kd.V_mono (Kd.V_mono HO547.out (fun k_ hk => (⟨hk, hk.2⟩ : _ ∧ k_ ≠ gb548))) (fun k_ hk => (⟨hk, hk.1.1.2.2.2.2⟩ : _ ∧ k_ ≠ gb531))) (fun _ hk => hk.1.2) (.slice Ao94 t542.length co94)) (fun _ hk => hk.1.2) (.slice Ao98 t545.length co98)) (fun _ hk => hk.2) (.slice Ao94 t542.length co94)) (fun _ hk => hk.2) (.slice Ao98 t545.length co98)) (fun _ hk => ⟨hk.1.1.1.1, ⟨hk.1.1.1.2.2.2.1, hk.1.1.1.2.2.2.2⟩⟩)⟩, ⟨by (with_reducible repeat (first | refine blk_drewN ?_ _ | refine blk_drew ?_ | refine blk_alloc ?_ _)); refine blk_far ?_ NB530_531.out _; (with_reducible repeat (first | refine blk_drewN ?_ _ | refine blk_drew ?_ | refine blk_alloc ?_ _)); refine blk_far ?_ NB530_531.out _; (with_reducible repeat (first | refine blk_drewN ?_ _ | refine blk_drew ?_ | refine blk_alloc ?_ _)); refine blk_far ?_ NB530_548.out _; (with_reducible repeat (first | refine blk_drewN ?_ _ | refine blk_drew ?_ | refine blk_alloc ?_ _)); refine blk_far ?_ NB530_548.out _; (with_reducible repeat (first | refine blk_drewN ?_ _ | refine blk_drew ?_ | refine blk_alloc ?_ _)); exact BK530.out⟩, ⟨by (with_reducible repeat (first | refine blk_drewN ?_ _ | refine blk_drew ?_ | refine blk_alloc ?_ _)); refine blk_put (cs := #[.slice Ao94 t542.length co94, u532001]) ?_ 1 _ rfl; (with_reducible repeat (first | refine blk_drewN ?_ _ | refine blk_drew ?_ | refine blk_alloc ?_ _)); refine blk_put (cs := #[u532000, u532001]) ?_ 0 _ rfl; (with_reducible repeat (first | refine blk_drewN ?_ _ | refine blk_drew ?_ | refine blk_alloc ?_ _)); refine blk_far ?_ NB531_548.out _; (with_reducible repeat (first | refine blk_drewN ?_ _ | refine blk_drew ?_ | refine blk_alloc ?_ _)); refine blk_far ?_ NB531_548.out _; (with_reducible repeat (first | refine blk_drewN ?_ _ | refine blk_drew ?_ | refine blk_alloc ?_ _)); exact BK531.out⟩, ⟨zh HB.out⟩⟩
               subst c45
               have H1 : ((spec_deTradeBefore.f kj35 t542 t545 x532000_5 x532001_5).bind fun t549 => (if t549 = true then (spec_deSwap.l3 kj35 l0 a1 true x18_1 bz532 x10_2 x11_4 (wrap64 (x12_5 + 1)) l0 (l0.length : Int) x18_1 t542 t545) else (spec_deSwap.l3 kj35 l0 a1 true x18_1 bz532 x10_2 x11_4 (wrap64 (x12_5 + 1)) l0 (l0.length : Int) x18_1 x532000_5 x532001_5))) = some (r1, r2, r3) := by rw [if_pos rfl] at H; exact H
               clear H
               have H := H1
               clear H1
               replace H := Option.bind_eq_some_iff.mp H
               obtain ⟨t549, A460, H⟩ := H
               replace H : (if t549 = true then (spec_deSwap.l3 kj35 l0 a1 true x18_1 bz532 x10_2 x11_4 (wrap64 (x12_5 + 1)) l0 (l0.length : Int) x18_1 t542 t545) else (spec_deSwap.l3 kj35 l0 a1 true x18_1 bz532 x10_2 x11_4 (wrap64 (x12_5 + 1)) l0 (l0.length : Int) x18_1 x532000_5 x532001_5)) = some (r1, r2, r3) := H
               have A46 := Aside0.mk A460
               clear A460
               by_cases c47 : t549 = true
               rotate_left
               ·replace c47 := Bool.eq_false_iff.mpr c47
                subst c47
                have H1 : (spec_deSwap.l3 kj35 l0 a1 true x18_1 bz532 x10_2 x11_4 (wrap64 (x12_5 + 1)) l0 (l0.length : Int) x18_1 x532000_5 x532001_5) = some (r1, r2, r3) := by rw [if_neg (show ¬ (false = true) by decide)] at H; exact H
                clear H
                have H := H1
                clear H1
                have H' := Aside0.mk H
                clear H
                go_wp2_with (first | ((with_reducible refine gate_dst (N := 99) rfl ?_); refine Kd.R_lit (Kd.int .i64) _ 3 ?hg (N := 99) ?hd (xs := ([x18_1, x10_2] : List Int)) (inner := [.int .i64 x18_1, .int .i64 x10_2]) (ok := fun _ => True) (okp := fun _ => True) ?hr ?hp (fun _ hk => hk) trivial (Below.refl _ _) (Nat.le_refl _) (by simp) ?_; (case hd => rfl); (case hg => rfl); (case hr => first | (go_simp; done) | (go_simp; rfl)); (case hp => exact (Reps.one (show Kd.M (Kd.int .i64) _ _ _ x18_1 [.int .i64 x18_1] from rfl) (Reps.one (show Kd.M (Kd.int .i64) _ _ _ x10_2 [.int .i64 x10_2] from rfl) (Reps.none _ _)))); intro v537 w68 ho69 hb hg_ hnew_; clear hg_ hnew_; (first | rw [← Ny536.out] at ho69 | (simp only [Int.reduceToNat] at ho69; rw [← Ny536.out] at ho69)); have n0_ := Aside0.mk (Kd.V_elder' (by (with_reducible repeat (first | apply Kd.V_alloc | apply Kd.V_drewN | apply Kd.V_drew)); exact HO_532000.out) (Kd.R_base ho69) hb); have n1_ := Aside0.mk (Kd.V_elder' (by (with_reducible repeat (first | apply Kd.V_alloc | apply Kd.V_drewN | apply Kd.V_drew)); exact HO_532001.out) (Kd.R_base ho69) hb); have n2_ := Aside0.mk (Kd.R_lower (Kd.R_newM (M := fun k_ => (w.heap.size ≤ k_)) ho69 (below_size (zh HB.out)) (fun k_ h_ => h_)) (below_size (zh HB.out))); have n3_ := Aside0.mk (blk_below (g := gb530) (o := .cells #[.slice none 0 0, .slice none 0 0] 46 (0, 0)) (zb BK530.out) hb); have n4_ := Aside0.mk (blk_below (g := gb531) (o := .cells #[u532000, u532001] 46 (0, 0)) (zb BK531.out) hb); have n5_ := Aside0.mk (below_step (zh HB.out) hb); clear HO_532000; clear HO_532001; clear BK530; clear BK531; clear HB; have HO_532000 := n0_; have HO_532001 := n1_; have HO538 := n2_; have BK530 := n3_; have BK531 := n4_; have HB := n5_; clear n0_ n1_ n2_ n3_ n4_ n5_; clear hb ho69) | ((with_reducible refine gate_dst (N := 102) rfl ?_); refine Kd.R_lit (Kd.int .i64) _ 3 ?hg (N := 102) ?hd (xs := ([(Go.bits .xor .i64 (Go.bits .xor .i64 x18_1 (ji31)) (ji33)), (Go.bits .xor .i64 (Go.bits .xor .i64 x10_2 (ji31)) (ji33))] : List Int)) (inner := [.int .i64 (Go.bits .xor .i64 (Go.bits .xor .i64 x18_1 (ji31)) (ji33)), .int .i64 (Go.bits .xor .i64 (Go.bits .xor .i64 x10_2 (ji31)) (ji33))]) (ok := fun _ => True) (okp := fun _ => True) ?hr ?hp (fun _ hk => hk) trivial (Below.refl _ _) (Nat.le_refl _) (by simp) ?_; (case hd => rfl); (case hg => rfl); (case hr => first | (go_simp; done) | (go_simp; rfl)); (case hp => exact (Reps.one (show Kd.M (Kd.int .i64) _ _ _ (Go.bits .xor .i64 (Go.bits .xor .i64 x18_1 (ji31)) (ji33)) [.int .i64 (Go.bits .xor .i64 (Go.bits .xor .i64 x18_1 (ji31)) (ji33))] from rfl) (Reps.one (show Kd.M (Kd.int .i64) _ _ _ (Go.bits .xor .i64 (Go.bits .xor .i64 x10_2 (ji31)) (ji33)) [.int .i64 (Go.bits .xor .i64 (Go.bits .xor .i64 x10_2 (ji31)) (ji33))] from rfl) (Reps.none _ _)))); intro v540 w70 ho71 hb hg_ hnew_; clear hg_ hnew_; (first | rw [← Ny539.out] at ho71 | (simp only [Int.reduceToNat] at ho71; rw [← Ny539.out] at ho71)); have n0_ := Aside0.mk (Kd.V_elder' (by (with_reducible repeat (first | apply Kd.V_alloc | apply Kd.V_drewN | apply Kd.V_drew)); exact HO_532000.out) (Kd.R_base ho71) hb); have n1_ := Aside0.mk (Kd.V_elder' (by (with_reducible repeat (first | apply Kd.V_alloc | apply Kd.V_drewN | apply Kd.V_drew)); exact HO_532001.out) (Kd.R_base ho71) hb); have n2_ := Aside0.mk (Kd.R_elder' (zr HO538.out) (Kd.R_base ho71) hb); have n3_ := Aside0.mk (Kd.R_lower (Kd.R_new' (Kd.R_newM (M := fun k_ => (w.heap.size ≤ k_)) ho71 (below_size (zh HB.out)) (fun k_ h_ => h_)) (Kd.R_lt (zr HO538.out))) (below_size (zh HB.out))); have n4_ := Aside0.mk (blk_below (g := gb530) (o := .cells #[.slice none 0 0, .slice none 0 0] 46 (0, 0)) (zb BK530.out) hb); have n5_ := Aside0.mk (blk_below (g := gb531) (o := .cells #[u532000, u532001] 46 (0, 0)) (zb BK531.out) hb); have n6_ := Aside0.mk (below_step (zh HB.out) hb); clear HO_532000; clear HO_532001; clear HO538; clear BK530; clear BK531; clear HB; have HO_532000 := n0_; have HO_532001 := n1_; have HO538 := n2_; have HO541 := n3_; have BK530 := n4_; have BK531 := n5_; have HB := n6_; clear n0_ n1_ n2_ n3_ n4_ n5_ n6_; clear hb ho71; obtain ⟨Ao72, co72, eo72⟩ := Kd.R_slice HO538.out; subst eo72; obtain ⟨Ao73, co73, eo73⟩ := Kd.R_slice HO541.out; subst eo73) | (go_at_call 91; (with_reducible refine (spec_deTrade.calls kj35 _ _ y536 _ _ y539 t542 t545 _ ?side1 ?side2 ?side3 ?side4 A44.out).mono ?_); (case side1 => repeat (first | exact (Kd.R_reads' HO538.out).2.2 | (with_reducible refine Kd.C_alloc ?_ _) | (with_reducible refine Kd.C_drewN ?_ _) | (with_reducible refine Kd.C_drew ?_))); (case side2 => exact (Kd.R_reads' HO538.out).2.1); (case side3 => repeat (first | exact (Kd.R_reads' HO541.out).2.2 | (with_reducible refine Kd.C_alloc ?_ _) | (with_reducible refine Kd.C_drewN ?_ _) | (with_reducible refine Kd.C_drew ?_))); (case side4 => exact (Kd.R_reads' HO541.out).2.1); rintro e w74 ⟨v543, v546, rfl, ho0, ho1, hb⟩; have n0_ := Aside0.mk (Kd.V_below (by (with_reducible repeat (first | apply Kd.V_alloc | apply Kd.V_drewN | apply Kd.V_drew)); exact HO_532000.out) hb); have n1_ := Aside0.mk (Kd.V_below (by (with_reducible repeat (first | apply Kd.V_alloc | apply Kd.V_drewN | apply Kd.V_drew)); exact HO_532001.out) hb); have n2_ := Aside0.mk (Kd.R_below (zr HO538.out) hb); have n3_ := Aside0.mk (Kd.R_below (zr HO541.out) hb); have n4_ := Aside0.mk (Kd.V_lower (Kd.V_mono (ok' := fun k_ => (w.heap.size ≤ k_) ∧ some k_ ≠ (.slice Ao72 y536.length co72 : Value).ownBlock ∧ some k_ ≠ (.slice Ao73 y539.length co73 : Value).ownBlock ∧ k_ ≠ gb530 ∧ k_ ≠ gb531) ho0 (fun k_ hk_ => ⟨(Nat.le_trans (below_size (zh HB.out)) hk_), (Kd.fresh' (Kd.R_lt (zr HO538.out)) k_ hk_), (Kd.fresh' (Kd.R_lt (zr HO541.out)) k_ hk_), (Kd.freshB (g := gb530) (o := .cells #[.slice none 0 0, .slice none 0 0] 46 (0, 0)) (zb BK530.out) k_ hk_), (Kd.freshB (g := gb531) (o := .cells #[u532000, u532001] 46 (0, 0)) (zb BK531.out) k_ hk_)⟩)) (below_size (zh HB.out))); have n5_ := Aside0.mk (Kd.V_lower (Kd.V_mono (ok' := fun k_ => (w.heap.size ≤ k_) ∧ some k_ ≠ (.slice Ao72 y536.length co72 : Value).ownBlock ∧ some k_ ≠ (.slice Ao73 y539.length co73 : Value).ownBlock ∧ k_ ≠ gb530 ∧ k_ ≠ gb531) ho1 (fun k_ hk_ => ⟨(Nat.le_trans (below_size (zh HB.out)) hk_), (Kd.fresh' (Kd.R_lt (zr HO538.out)) k_ hk_), (Kd.fresh' (Kd.R_lt (zr HO541.out)) k_ hk_), (Kd.freshB (g := gb530) (o := .cells #[.slice none 0 0, .slice none 0 0] 46 (0, 0)) (zb BK530.out) k_ hk_), (Kd.freshB (g := gb531) (o := .cells #[u532000, u532001] 46 (0, 0)) (zb BK531.out) k_ hk_)⟩)) (below_size (zh HB.out))); have n6_ := Aside0.mk (blk_below (g := gb530) (o := .cells #[.slice none 0 0, .slice none 0 0] 46 (0, 0)) (zb BK530.out) hb); have n7_ := Aside0.mk (blk_below (g := gb531) (o := .cells #[u532000, u532001] 46 (0, 0)) (zb BK531.out) hb); have n8_ := Aside0.mk (below_step (zh HB.out) hb); clear HO_532000; clear HO_532001; clear HO538; clear HO541; clear BK530; clear BK531; clear HB; have HO_532000 := n0_; have HO_532001 := n1_; have HO538 := n2_; have HO541 := n3_; have HO544 := n4_; have HO547 := n5_; have BK530 := n6_; have BK531 := n7_; have HB := n8_; clear n0_ n1_ n2_ n3_ n4_ n5_ n6_ n7_ n8_; (try clear hb); (try clear hb2); (try clear hk); (try clear hi); (try clear ho0); (try clear ho1)) | ((with_reducible refine gate_dst (N := 15) rfl ?_); refine box_event ?hg (N := 15) ?hd (cs := #[.slice none 0 0, .slice none 0 0]) (t := 46) ?hr ?_; (case hd => rfl); (case hg => rfl); (case hr => first | (go_simp; done) | (go_simp; rfl)); intro gb548 hg w75 hbox hb; have n0_ := Aside0.mk (Kd.V_below (Kd.V_elderB (by (with_reducible repeat (first | apply Kd.V_alloc | apply Kd.V_drewN | apply Kd.V_drew)); exact HO_532000.out) gb548 (Nat.le_of_eq hg.symm)) hb); have n1_ := Aside0.mk (Kd.V_below (Kd.V_elderB (by (with_reducible repeat (first | apply Kd.V_alloc | apply Kd.V_drewN | apply Kd.V_drew)); exact HO_532001.out) gb548 (Nat.le_of_eq hg.symm)) hb); have n2_ := Aside0.mk (Kd.R_below (zr HO538.out) hb); have n3_ := Aside0.mk (Kd.R_below (zr HO541.out) hb); have n4_ := Aside0.mk (Kd.V_below (Kd.V_elderB (by (with_reducible repeat (first | apply Kd.V_alloc | apply Kd.V_drewN | apply Kd.V_drew)); exact HO544.out) gb548 (Nat.le_of_eq hg.symm)) hb); have n5_ := Aside0.mk (Kd.V_below (Kd.V_elderB (by (with_reducible repeat (first | apply Kd.V_alloc | apply Kd.V_drewN | apply Kd.V_drew)); exact HO547.out) gb548 (Nat.le_of_eq hg.symm)) hb); have n6_ := Aside0.mk (blk_below (g := gb530) (o := .cells #[.slice none 0 0, .slice none 0 0] 46 (0, 0)) (zb BK530.out) hb); have n7_ := Aside0.mk (blk_below (g := gb531) (o := .cells #[u532000, u532001] 46 (0, 0)) (zb BK531.out) hb); have n8_ := Aside0.mk (below_step (zh HB.out) hb); have n9_ := Aside0.mk (hbox); have n10_ := Aside0.mk ((by rw [hg]; exact (below_size (zh HB.out)) : w.heap.size ≤ gb548)); have n11_ := Aside0.mk ((by rw [hg]; exact (below_size (zh HB.out)) : w.heap.size ≤ gb548)); have n12_ := Aside0.mk ((by rw [hg]; exact Nat.ne_of_lt (blk_lt (g := gb530) (o := .cells #[.slice none 0 0, .slice none 0 0] 46 (0, 0)) (zb BK530.out)) : gb530 ≠ gb548)); have n13_ := Aside0.mk ((by rw [hg]; exact Nat.ne_of_gt (blk_lt (g := gb530) (o := .cells #[.slice none 0 0, .slice none 0 0] 46 (0, 0)) (zb BK530.out)) : gb548 ≠ gb530)); have n14_ := Aside0.mk ((by rw [hg]; exact Nat.ne_of_lt (blk_lt (g := gb531) (o := .cells #[u532000, u532001] 46 (0, 0)) (zb BK531.out)) : gb531 ≠ gb548)); have n15_ := Aside0.mk ((by rw [hg]; exact Nat.ne_of_gt (blk_lt (g := gb531) (o := .cells #[u532000, u532001] 46 (0, 0)) (zb BK531.out)) : gb548 ≠ gb531)); clear HO_532000; clear HO_532001; clear HO538; clear HO541; clear HO544; clear HO547; clear BK530; clear BK531; clear HB; have HO_532000 := n0_; have HO_532001 := n1_; have HO538 := n2_; have HO541 := n3_; have HO544 := n4_; have HO547 := n5_; have BK530 := n6_; have BK531 := n7_; have HB := n8_; have BK548 := n9_; have GW548 := n10_; have GE548 := n11_; have NB530_548 := n12_; have NB548_530 := n13_; have NB531_548 := n14_; have NB548_531 := n15_; clear n0_ n1_ n2_ n3_ n4_ n5_ n6_ n7_ n8_ n9_ n10_ n11_ n12_ n13_ n14_ n15_; clear hb hbox hg; obtain ⟨Ao76, co76, eo76⟩ := Kd.V_slice HO544.out; subst eo76; have hnb77 := NB548_530.out; have hnc77 := NB530_548.out; have hnb78 := NB548_531.out; have hnc78 := NB531_548.out; have hcz79_0 : w75.cell? ⟨gb548, 0, none⟩ = some (.slice none 0 0) := (blk_cell BK548.out 0).trans rfl; have hcz79_1 : w75.cell? ⟨gb548, 1, none⟩ = some (.slice none 0 0) := (blk_cell BK548.out 1).trans rfl; have hfz79_0 := blk_frozen BK548.out 0; have hfz79_1 := blk_frozen BK548.out 1; obtain ⟨Ao80, co80, eo80⟩ := Kd.V_slice HO547.out; subst eo80; have hnb81 := NB531_530.out; have hnc81 := NB530_531.out; have hcz82_0 : w75.cell? ⟨gb531, 0, none⟩ = some (u532000) := (blk_cell BK531.out 0).trans rfl; have hcz82_1 : w75.cell? ⟨gb531, 1, none⟩ = some (u532001) := (blk_cell BK531.out 1).trans rfl; have hfz82_0 := blk_frozen BK531.out 0; have hfz82_1 := blk_frozen BK531.out 1; obtain ⟨Ao83, co83, eo83⟩ := Kd.V_slice HO_532000.out; subst eo83; obtain ⟨Ao84, co84, eo84⟩ := Kd.V_slice HO_532001.out; subst eo84) | (go_at_call 92; (with_reducible refine (spec_deTradeBefore.calls kj35 _ _ t542 _ _ t545 _ _ x532000_5 _ _ x532001_5 false _ ?side1 ?side2 ?side3 ?side4 ?side5 ?side6 ?side7 ?side8 A46.out).mono ?_); (case side1 => refine (Kd.V_reads' (e := 71) (base := w.heap.size) (ok := fun k_ => (((w.heap.size ≤ k_) ∧ (some k_ ≠ (.slice Ao72 y536.length co72 : Value).ownBlock ∧ (some k_ ≠ (.slice Ao73 y539.length co73 : Value).ownBlock ∧ (k_ ≠ gb530 ∧ k_ ≠ gb531)))) ∧ k_ ≠ gb548)) (n := t542.length) (c := co76) ?_).2.2; exact (by (with_reducible repeat (first | apply Kd.V_alloc | apply Kd.V_drewN | apply Kd.V_drew)); exact (Kd.V_mono (Kd.V_far (p := ⟨gb548, 1, none⟩) (Kd.V_far (p := ⟨gb548, 0, none⟩) (Kd.V_mono HO544.out (fun k_ hk => (⟨hk, hk.2⟩ : _ ∧ k_ ≠ gb548))) (fun _ hk => hk.2) (.slice Ao76 t542.length co76)) (fun _ hk => hk.2) (.slice Ao80 t545.length co80)) (fun _ h_ => h_.1)))); (case side2 => exact (Kd.V_reads' HO544.out).2.1); (case side3 => refine (Kd.V_reads' (e := 71) (base := w.heap.size) (ok := fun k_ => (((w.heap.size ≤ k_) ∧ (some k_ ≠ (.slice Ao72 y536.length co72 : Value).ownBlock ∧ (some k_ ≠ (.slice Ao73 y539.length co73 : Value).ownBlock ∧ (k_ ≠ gb530 ∧ k_ ≠ gb531)))) ∧ k_ ≠ gb548)) (n := t545.length) (c := co80) ?_).2.2; exact (by (with_reducible repeat (first | apply Kd.V_alloc | apply Kd.V_drewN | apply Kd.V_drew)); exact (Kd.V_mono (Kd.V_far (p := ⟨gb548, 1, none⟩) (Kd.V_far (p := ⟨gb548, 0, none⟩) (Kd.V_mono HO547.out (fun k_ hk => (⟨hk, hk.2⟩ : _ ∧ k_ ≠ gb548))) (fun _ hk => hk.2) (.slice Ao76 t542.length co76)) (fun _ hk => hk.2) (.slice Ao80 t545.length co80)) (fun _ h_ => h_.1)))); (case side4 => exact (Kd.V_reads' HO547.out).2.1); (case side5 => refine (Kd.V_reads' (e := 71) (base := w.heap.size) (ok := fun k_ => (((((w.heap.size ≤ k_) ∧ (k_ ≠ gb530 ∧ k_ ≠ gb531)) ∧ some k_ ≠ (.slice Ao72 y536.length co72 : Value).ownBlock) ∧ some k_ ≠ (.slice Ao73 y539.length co73 : Value).ownBlock) ∧ k_ ≠ gb548)) (n := x532000_5.length) (c := co83) ?_).2.2; exact (by (with_reducible repeat (first | apply Kd.V_alloc | apply Kd.V_drewN | apply Kd.V_drew)); exact (Kd.V_mono (Kd.V_far (p := ⟨gb548, 1, none⟩) (Kd.V_far (p := ⟨gb548, 0, none⟩) (Kd.V_mono HO_532000.out (fun k_ hk => (⟨hk, hk.2⟩ : _ ∧ k_ ≠ gb548))) (fun _ hk => hk.2) (.slice Ao76 t542.length co76)) (fun _ hk => hk.2) (.slice Ao80 t545.length co80)) (fun _ h_ => h_.1)))); (case side6 => exact (Kd.V_reads' HO_532000.out).2.1); (case side7 => refine (Kd.V_reads' (e := 71) (base := w.heap.size) (ok := fun k_ => (((((w.heap.size ≤ k_) ∧ (k_ ≠ gb530 ∧ k_ ≠ gb531)) ∧ some k_ ≠ (.slice Ao72 y536.length co72 : Value).ownBlock) ∧ some k_ ≠ (.slice Ao73 y539.length co73 : Value).ownBlock) ∧ k_ ≠ gb548)) (n := x532001_5.length) (c := co84) ?_).2.2; exact (by (with_reducible repeat (first | apply Kd.V_alloc | apply Kd.V_drewN | apply Kd.V_drew)); exact (Kd.V_mono (Kd.V_far (p := ⟨gb548, 1, none⟩) (Kd.V_far (p := ⟨gb548, 0, none⟩) (Kd.V_mono HO_532001.out (fun k_ hk => (⟨hk, hk.2⟩ : _ ∧ k_ ≠ gb548))) (fun _ hk => hk.2) (.slice Ao76 t542.length co76)) (fun _ hk => hk.2) (.slice Ao80 t545.length co80)) (fun _ h_ => h_.1)))); (case side8 => exact (Kd.V_reads' HO_532001.out).2.1); rintro e w85 ⟨rfl, hb⟩; have n0_ := Aside0.mk (Kd.V_below (by (with_reducible repeat (first | apply Kd.V_alloc | apply Kd.V_drewN | apply Kd.V_drew)); exact (Kd.V_mono (Kd.V_far (p := ⟨gb548, 1, none⟩) (Kd.V_far (p := ⟨gb548, 0, none⟩) (Kd.V_mono HO_532000.out (fun k_ hk => (⟨hk, hk.2⟩ : _ ∧ k_ ≠ gb548))) (fun _ hk => hk.2) (.slice Ao76 t542.length co76)) (fun _ hk => hk.2) (.slice Ao80 t545.length co80)) (fun _ h_ => h_.1))) hb); have n1_ := Aside0.mk (Kd.V_below (by (with_reducible repeat (first | apply Kd.V_alloc | apply Kd.V_drewN | apply Kd.V_drew)); exact (Kd.V_mono (Kd.V_far (p := ⟨gb548, 1, none⟩) (Kd.V_far (p := ⟨gb548, 0, none⟩) (Kd.V_mono HO_532001.out (fun k_ hk => (⟨hk, hk.2⟩ : _ ∧ k_ ≠ gb548))) (fun _ hk => hk.2) (.slice Ao76 t542.length co76)) (fun _ hk => hk.2) (.slice Ao80 t545.length co80)) (fun _ h_ => h_.1))) hb); have n2_ := Aside0.mk (Kd.R_below (by (with_reducible repeat (first | apply Kd.R_alloc | apply Kd.R_drewN | apply Kd.R_drew)); exact (Kd.R_mono (Kd.R_far (p := ⟨gb548, 1, none⟩) (Kd.R_far (p := ⟨gb548, 0, none⟩) (Kd.R_types HO538.out BK548.out (by decide)) (fun _ hk => hk.2) (.slice Ao76 t542.length co76)) (fun _ hk => hk.2) (.slice Ao80 t545.length co80)) (fun _ h_ => h_.1))) hb); have n3_ := Aside0.mk (Kd.R_below (by (with_reducible repeat (first | apply Kd.R_alloc | apply Kd.R_drewN | apply Kd.R_drew)); exact (Kd.R_mono (Kd.R_far (p := ⟨gb548, 1, none⟩) (Kd.R_far (p := ⟨gb548, 0, none⟩) (Kd.R_types HO541.out BK548.out (by decide)) (fun _ hk => hk.2) (.slice Ao76 t542.length co76)) (fun _ hk => hk.2) (.slice Ao80 t545.length co80)) (fun _ h_ => h_.1))) hb); have n4_ := Aside0.mk (Kd.V_below (by (with_reducible repeat (first | apply Kd.V_alloc | apply Kd.V_drewN | apply Kd.V_drew)); exact (Kd.V_mono (Kd.V_far (p := ⟨gb548, 1, none⟩) (Kd.V_far (p := ⟨gb548, 0, none⟩) (Kd.V_mono HO544.out (fun k_ hk => (⟨hk, hk.2⟩ : _ ∧ k_ ≠ gb548))) (fun _ hk => hk.2) (.slice Ao76 t542.length co76)) (fun _ hk => hk.2) (.slice Ao80 t545.length co80)) (fun _ h_ => h_.1))) hb); have n5_ := Aside0.mk (Kd.V_below (by (with_reducible repeat (first | apply Kd.V_alloc | apply Kd.V_drewN | apply Kd.V_drew)); exact (Kd.V_mono (Kd.V_far (p := ⟨gb548, 1, none⟩) (Kd.V_far (p := ⟨gb548, 0, none⟩) (Kd.V_mono HO547.out (fun k_ hk => (⟨hk, hk.2⟩ : _ ∧ k_ ≠ gb548))) (fun _ hk => hk.2) (.slice Ao76 t542.length co76)) (fun _ hk => hk.2) (.slice Ao80 t545.length co80)) (fun _ h_ => h_.1))) hb); have n6_ := Aside0.mk (blk_below (g := gb530) (o := .cells #[.slice none 0 0, .slice none 0 0] 46 (0, 0)) (by (with_reducible repeat (first | refine blk_drewN ?_ _ | refine blk_drew ?_ | refine blk_alloc ?_ _)); refine blk_far ?_ NB530_548.out _; (with_reducible repeat (first | refine blk_drewN ?_ _ | refine blk_drew ?_ | refine blk_alloc ?_ _)); refine blk_far ?_ NB530_548.out _; (with_reducible repeat (first | refine blk_drewN ?_ _ | refine blk_drew ?_ | refine blk_alloc ?_ _)); exact BK530.out) hb); have n7_ := Aside0.mk (blk_below (g := gb531) (o := .cells #[.slice Ao83 x532000_5.length co83, .slice Ao84 x532001_5.length co84] 46 (0, 0)) (by (with_reducible repeat (first | refine blk_drewN ?_ _ | refine blk_drew ?_ | refine blk_alloc ?_ _)); refine blk_far ?_ NB531_548.out _; (with_reducible repeat (first | refine blk_drewN ?_ _ | refine blk_drew ?_ | refine blk_alloc ?_ _)); refine blk_far ?_ NB531_548.out _; (with_reducible repeat (first | refine blk_drewN ?_ _ | refine blk_drew ?_ | refine blk_alloc ?_ _)); exact BK531.out) hb); have n8_ := Aside0.mk (blk_below (g := gb548) (o := .cells #[.slice Ao76 t542.length co76, .slice Ao80 t545.length co80] 46 (0, 0)) (by (with_reducible repeat (first | refine blk_drewN ?_ _ | refine blk_drew ?_ | refine blk_alloc ?_ _)); refine blk_put (cs := #[.slice Ao76 t542.length co76, .slice none 0 0]) ?_ 1 _ rfl; (with_reducible repeat (first | refine blk_drewN ?_ _ | refine blk_drew ?_ | refine blk_alloc ?_ _)); refine blk_put (cs := #[.slice none 0 0, .slice none 0 0]) ?_ 0 _ rfl; (with_reducible repeat (first | refine blk_drewN ?_ _ | refine blk_drew ?_ | refine blk_alloc ?_ _)); exact BK548.out) hb); have n9_ := Aside0.mk (below_step (zh HB.out) hb); clear HO_532000; clear HO_532001; clear HO538; clear HO541; clear HO544; clear HO547; clear BK530; clear BK531; clear BK548; clear HB; have HO_532000 := n0_; have HO_532001 := n1_; have HO538 := n2_; have HO541 := n3_; have HO544 := n4_; have HO547 := n5_; have BK530 := n6_; have BK531 := n7_; have BK548 := n8_; have HB := n9_; clear n0_ n1_ n2_ n3_ n4_ n5_ n6_ n7_ n8_ n9_; (try clear hb); (try clear hb2); (try clear hk); (try clear hi)))
                repeat (go_quiet (first | ((with_reducible refine gate_dst (N := 99) rfl ?_); refine Kd.R_lit (Kd.int .i64) _ 3 ?hg (N := 99) ?hd (xs := ([x18_1, x10_2] : List Int)) (inner := [.int .i64 x18_1, .int .i64 x10_2]) (ok := fun _ => True) (okp := fun _ => True) ?hr ?hp (fun _ hk => hk) trivial (Below.refl _ _) (Nat.le_refl _) (by simp) ?_; (case hd => rfl); (case hg => rfl); (case hr => first | (go_simp; done) | (go_simp; rfl)); (case hp => exact (Reps.one (show Kd.M (Kd.int .i64) _ _ _ x18_1 [.int .i64 x18_1] from rfl) (Reps.one (show Kd.M (Kd.int .i64) _ _ _ x10_2 [.int .i64 x10_2] from rfl) (Reps.none _ _)))); intro v537 w68 ho69 hb hg_ hnew_; clear hg_ hnew_; (first | rw [← Ny536.out] at ho69 | (simp only [Int.reduceToNat] at ho69; rw [← Ny536.out] at ho69)); have n0_ := Aside0.mk (Kd.V_elder' (by (with_reducible repeat (first | apply Kd.V_alloc | apply Kd.V_drewN | apply Kd.V_drew)); exact HO_532000.out) (Kd.R_base ho69) hb); have n1_ := Aside0.mk (Kd.V_elder' (by (with_reducible repeat (first | apply Kd.V_alloc | apply Kd.V_drewN | apply Kd.V_drew)); exact HO_532001.out) (Kd.R_base ho69) hb); have n2_ := Aside0.mk (Kd.R_lower (Kd.R_newM (M := fun k_ => (w.heap.size ≤ k_)) ho69 (below_size (zh HB.out)) (fun k_ h_ => h_)) (below_size (zh HB.out))); have n3_ := Aside0.mk (blk_below (g := gb530) (o := .cells #[.slice none 0 0, .slice none 0 0] 46 (0, 0)) (zb BK530.out) hb); have n4_ := Aside0.mk (blk_below (g := gb531) (o := .cells #[u532000, u532001] 46 (0, 0)) (zb BK531.out) hb); have n5_ := Aside0.mk (below_step (zh HB.out) hb); clear HO_532000; clear HO_532001; clear BK530; clear BK531; clear HB; have HO_532000 := n0_; have HO_532001 := n1_; have HO538 := n2_; have BK530 := n3_; have BK531 := n4_; have HB := n5_; clear n0_ n1_ n2_ n3_ n4_ n5_; clear hb ho69) | ((with_reducible refine gate_dst (N := 102) rfl ?_); refine Kd.R_lit (Kd.int .i64) _ 3 ?hg (N := 102) ?hd (xs := ([(Go.bits .xor .i64 (Go.bits .xor .i64 x18_1 (ji31)) (ji33)), (Go.bits .xor .i64 (Go.bits .xor .i64 x10_2 (ji31)) (ji33))] : List Int)) (inner := [.int .i64 (Go.bits .xor .i64 (Go.bits .xor .i64 x18_1 (ji31)) (ji33)), .int .i64 (Go.bits .xor .i64 (Go.bits .xor .i64 x10_2 (ji31)) (ji33))]) (ok := fun _ => True) (okp := fun _ => True) ?hr ?hp (fun _ hk => hk) trivial (Below.refl _ _) (Nat.le_refl _) (by simp) ?_; (case hd => rfl); (case hg => rfl); (case hr => first | (go_simp; done) | (go_simp; rfl)); (case hp => exact (Reps.one (show Kd.M (Kd.int .i64) _ _ _ (Go.bits .xor .i64 (Go.bits .xor .i64 x18_1 (ji31)) (ji33)) [.int .i64 (Go.bits .xor .i64 (Go.bits .xor .i64 x18_1 (ji31)) (ji33))] from rfl) (Reps.one (show Kd.M (Kd.int .i64) _ _ _ (Go.bits .xor .i64 (Go.bits .xor .i64 x10_2 (ji31)) (ji33)) [.int .i64 (Go.bits .xor .i64 (Go.bits .xor .i64 x10_2 (ji31)) (ji33))] from rfl) (Reps.none _ _)))); intro v540 w70 ho71 hb hg_ hnew_; clear hg_ hnew_; (first | rw [← Ny539.out] at ho71 | (simp only [Int.reduceToNat] at ho71; rw [← Ny539.out] at ho71)); have n0_ := Aside0.mk (Kd.V_elder' (by (with_reducible repeat (first | apply Kd.V_alloc | apply Kd.V_drewN | apply Kd.V_drew)); exact HO_532000.out) (Kd.R_base ho71) hb); have n1_ := Aside0.mk (Kd.V_elder' (by (with_reducible repeat (first | apply Kd.V_alloc | apply Kd.V_drewN | apply Kd.V_drew)); exact HO_532001.out) (Kd.R_base ho71) hb); have n2_ := Aside0.mk (Kd.R_elder' (zr HO538.out) (Kd.R_base ho71) hb); have n3_ := Aside0.mk (Kd.R_lower (Kd.R_new' (Kd.R_newM (M := fun k_ => (w.heap.size ≤ k_)) ho71 (below_size (zh HB.out)) (fun k_ h_ => h_)) (Kd.R_lt (zr HO538.out))) (below_size (zh HB.out))); have n4_ := Aside0.mk (blk_below (g := gb530) (o := .cells #[.slice none 0 0, .slice none 0 0] 46 (0, 0)) (zb BK530.out) hb); have n5_ := Aside0.mk (blk_below (g := gb531) (o := .cells #[u532000, u532001] 46 (0, 0)) (zb BK531.out) hb); have n6_ := Aside0.mk (below_step (zh HB.out) hb); clear HO_532000; clear HO_532001; clear HO538; clear BK530; clear BK531; clear HB; have HO_532000 := n0_; have HO_532001 := n1_; have HO538 := n2_; have HO541 := n3_; have BK530 := n4_; have BK531 := n5_; have HB := n6_; clear n0_ n1_ n2_ n3_ n4_ n5_ n6_; clear hb ho71; obtain ⟨Ao72, co72, eo72⟩ := Kd.R_slice HO538.out; subst eo72; obtain ⟨Ao73, co73, eo73⟩ := Kd.R_slice HO541.out; subst eo73) | (go_at_call 91; (with_reducible refine (spec_deTrade.calls kj35 _ _ y536 _ _ y539 t542 t545 _ ?side1 ?side2 ?side3 ?side4 A44.out).mono ?_); (case side1 => repeat (first | exact (Kd.R_reads' HO538.out).2.2 | (with_reducible refine Kd.C_alloc ?_ _) | (with_reducible refine Kd.C_drewN ?_ _) | (with_reducible refine Kd.C_drew ?_))); (case side2 => exact (Kd.R_reads' HO538.out).2.1); (case side3 => repeat (first | exact (Kd.R_reads' HO541.out).2.2 | (with_reducible refine Kd.C_alloc ?_ _) | (with_reducible refine Kd.C_drewN ?_ _) | (with_reducible refine Kd.C_drew ?_))); (case side4 => exact (Kd.R_reads' HO541.out).2.1); rintro e w74 ⟨v543, v546, rfl, ho0, ho1, hb⟩; have n0_ := Aside0.mk (Kd.V_below (by (with_reducible repeat (first | apply Kd.V_alloc | apply Kd.V_drewN | apply Kd.V_drew)); exact HO_532000.out) hb); have n1_ := Aside0.mk (Kd.V_below (by (with_reducible repeat (first | apply Kd.V_alloc | apply Kd.V_drewN | apply Kd.V_drew)); exact HO_532001.out) hb); have n2_ := Aside0.mk (Kd.R_below (zr HO538.out) hb); have n3_ := Aside0.mk (Kd.R_below (zr HO541.out) hb); have n4_ := Aside0.mk (Kd.V_lower (Kd.V_mono (ok' := fun k_ => (w.heap.size ≤ k_) ∧ some k_ ≠ (.slice Ao72 y536.length co72 : Value).ownBlock ∧ some k_ ≠ (.slice Ao73 y539.length co73 : Value).ownBlock ∧ k_ ≠ gb530 ∧ k_ ≠ gb531) ho0 (fun k_ hk_ => ⟨(Nat.le_trans (below_size (zh HB.out)) hk_), (Kd.fresh' (Kd.R_lt (zr HO538.out)) k_ hk_), (Kd.fresh' (Kd.R_lt (zr HO541.out)) k_ hk_), (Kd.freshB (g := gb530) (o := .cells #[.slice none 0 0, .slice none 0 0] 46 (0, 0)) (zb BK530.out) k_ hk_), (Kd.freshB (g := gb531) (o := .cells #[u532000, u532001] 46 (0, 0)) (zb BK531.out) k_ hk_)⟩)) (below_size (zh HB.out))); have n5_ := Aside0.mk (Kd.V_lower (Kd.V_mono (ok' := fun k_ => (w.heap.size ≤ k_) ∧ some k_ ≠ (.slice Ao72 y536.length co72 : Value).ownBlock ∧ some k_ ≠ (.slice Ao73 y539.length co73 : Value).ownBlock ∧ k_ ≠ gb530 ∧ k_ ≠ gb531) ho1 (fun k_ hk_ => ⟨(Nat.le_trans (below_size (zh HB.out)) hk_), (Kd.fresh' (Kd.R_lt (zr HO538.out)) k_ hk_), (Kd.fresh' (Kd.R_lt (zr HO541.out)) k_ hk_), (Kd.freshB (g := gb530) (o := .cells #[.slice none 0 0, .slice none 0 0] 46 (0, 0)) (zb BK530.out) k_ hk_), (Kd.freshB (g := gb531) (o := .cells #[u532000, u532001] 46 (0, 0)) (zb BK531.out) k_ hk_)⟩)) (below_size (zh HB.out))); have n6_ := Aside0.mk (blk_below (g := gb530) (o := .cells #[.slice none 0 0, .slice none 0 0] 46 (0, 0)) (zb BK530.out) hb); have n7_ := Aside0.mk (blk_below (g := gb531) (o := .cells #[u532000, u532001] 46 (0, 0)) (zb BK531.out) hb); have n8_ := Aside0.mk (below_step (zh HB.out) hb); clear HO_532000; clear HO_532001; clear HO538; clear HO541; clear BK530; clear BK531; clear HB; have HO_532000 := n0_; have HO_532001 := n1_; have HO538 := n2_; have HO541 := n3_; have HO544 := n4_; have HO547 := n5_; have BK530 := n6_; have BK531 := n7_; have HB := n8_; clear n0_ n1_ n2_ n3_ n4_ n5_ n6_ n7_ n8_; (try clear hb); (try clear hb2); (try clear hk); (try clear hi); (try clear ho0); (try clear ho1)) | (go_at_call 92; (with_reducible refine (spec_deTradeBefore.calls kj35 _ _ t542 _ _ t545 _ _ x532000_5 _ _ x532001_5 false _ ?side1 ?side2 ?side3 ?side4 ?side5 ?side6 ?side7 ?side8 A46.out).mono ?_); (case side1 => refine (Kd.V_reads' (e := 71) (base := w.heap.size) (ok := fun k_ => (((w.heap.size ≤ k_) ∧ (some k_ ≠ (.slice Ao72 y536.length co72 : Value).ownBlock ∧ (some k_ ≠ (.slice Ao73 y539.length co73 : Value).ownBlock ∧ (k_ ≠ gb530 ∧ k_ ≠ gb531)))) ∧ k_ ≠ gb548)) (n := t542.length) (c := co76) ?_).2.2; exact (by (with_reducible repeat (first | apply Kd.V_alloc | apply Kd.V_drewN | apply Kd.V_drew)); exact (Kd.V_mono (Kd.V_far (p := ⟨gb548, 1, none⟩) (Kd.V_far (p := ⟨gb548, 0, none⟩) (Kd.V_mono HO544.out (fun k_ hk => (⟨hk, hk.2⟩ : _ ∧ k_ ≠ gb548))) (fun _ hk => hk.2) (.slice Ao76 t542.length co76)) (fun _ hk => hk.2) (.slice Ao80 t545.length co80)) (fun _ h_ => h_.1)))); (case side2 => exact (Kd.V_reads' HO544.out).2.1); (case side3 => refine (Kd.V_reads' (e := 71) (base := w.heap.size) (ok := fun k_ => (((w.heap.size ≤ k_) ∧ (some k_ ≠ (.slice Ao72 y536.length co72 : Value).ownBlock ∧ (some k_ ≠ (.slice Ao73 y539.length co73 : Value).ownBlock ∧ (k_ ≠ gb530 ∧ k_ ≠ gb531)))) ∧ k_ ≠ gb548)) (n := t545.length) (c := co80) ?_).2.2; exact (by (with_reducible repeat (first | apply Kd.V_alloc | apply Kd.V_drewN | apply Kd.V_drew)); exact (Kd.V_mono (Kd.V_far (p := ⟨gb548, 1, none⟩) (Kd.V_far (p := ⟨gb548, 0, none⟩) (Kd.V_mono HO547.out (fun k_ hk => (⟨hk, hk.2⟩ : _ ∧ k_ ≠ gb548))) (fun _ hk => hk.2) (.slice Ao76 t542.length co76)) (fun _ hk => hk.2) (.slice Ao80 t545.length co80)) (fun _ h_ => h_.1)))); (case side4 => exact (Kd.V_reads' HO547.out).2.1); (case side5 => refine (Kd.V_reads' (e := 71) (base := w.heap.size) (ok := fun k_ => (((((w.heap.size ≤ k_) ∧ (k_ ≠ gb530 ∧ k_ ≠ gb531)) ∧ some k_ ≠ (.slice Ao72 y536.length co72 : Value).ownBlock) ∧ some k_ ≠ (.slice Ao73 y539.length co73 : Value).ownBlock) ∧ k_ ≠ gb548)) (n := x532000_5.length) (c := co83) ?_).2.2; exact (by (with_reducible repeat (first | apply Kd.V_alloc | apply Kd.V_drewN | apply Kd.V_drew)); exact (Kd.V_mono (Kd.V_far (p := ⟨gb548, 1, none⟩) (Kd.V_far (p := ⟨gb548, 0, none⟩) (Kd.V_mono HO_532000.out (fun k_ hk => (⟨hk, hk.2⟩ : _ ∧ k_ ≠ gb548))) (fun _ hk => hk.2) (.slice Ao76 t542.length co76)) (fun _ hk => hk.2) (.slice Ao80 t545.length co80)) (fun _ h_ => h_.1)))); (case side6 => exact (Kd.V_reads' HO_532000.out).2.1); (case side7 => refine (Kd.V_reads' (e := 71) (base := w.heap.size) (ok := fun k_ => (((((w.heap.size ≤ k_) ∧ (k_ ≠ gb530 ∧ k_ ≠ gb531)) ∧ some k_ ≠ (.slice Ao72 y536.length co72 : Value).ownBlock) ∧ some k_ ≠ (.slice Ao73 y539.length co73 : Value).ownBlock) ∧ k_ ≠ gb548)) (n := x532001_5.length) (c := co84) ?_).2.2; exact (by (with_reducible repeat (first | apply Kd.V_alloc | apply Kd.V_drewN | apply Kd.V_drew)); exact (Kd.V_mono (Kd.V_far (p := ⟨gb548, 1, none⟩) (Kd.V_far (p := ⟨gb548, 0, none⟩) (Kd.V_mono HO_532001.out (fun k_ hk => (⟨hk, hk.2⟩ : _ ∧ k_ ≠ gb548))) (fun _ hk => hk.2) (.slice Ao76 t542.length co76)) (fun _ hk => hk.2) (.slice Ao80 t545.length co80)) (fun _ h_ => h_.1)))); (case side8 => exact (Kd.V_reads' HO_532001.out).2.1); rintro e w85 ⟨rfl, hb⟩; have n0_ := Aside0.mk (Kd.V_below (by (with_reducible repeat (first | apply Kd.V_alloc | apply Kd.V_drewN | apply Kd.V_drew)); exact (Kd.V_mono (Kd.V_far (p := ⟨gb548, 1, none⟩) (Kd.V_far (p := ⟨gb548, 0, none⟩) (Kd.V_mono HO_532000.out (fun k_ hk => (⟨hk, hk.2⟩ : _ ∧ k_ ≠ gb548))) (fun _ hk => hk.2) (.slice Ao76 t542.length co76)) (fun _ hk => hk.2) (.slice Ao80 t545.length co80)) (fun _ h_ => h_.1))) hb); have n1_ := Aside0.mk (Kd.V_below (by (with_reducible repeat (first | apply Kd.V_alloc | apply Kd.V_drewN | apply Kd.V_drew)); exact (Kd.V_mono (Kd.V_far (p := ⟨gb548, 1, none⟩) (Kd.V_far (p := ⟨gb548, 0, none⟩) (Kd.V_mono HO_532001.out (fun k_ hk => (⟨hk, hk.2⟩ : _ ∧ k_ ≠ gb548))) (fun _ hk => hk.2) (.slice Ao76 t542.length co76)) (fun _ hk => hk.2) (.slice Ao80 t545.length co80)) (fun _ h_ => h_.1))) hb); have n2_ := Aside0.mk (Kd.R_below (by (with_reducible repeat (first | apply Kd.R_alloc | apply Kd.R_drewN | apply Kd.R_drew)); exact (Kd.R_mono (Kd.R_far (p := ⟨gb548, 1, none⟩) (Kd.R_far (p := ⟨gb548, 0, none⟩) (Kd.R_types HO538.out BK548.out (by decide)) (fun _ hk => hk.2) (.slice Ao76 t542.length co76)) (fun _ hk => hk.2) (.slice Ao80 t545.length co80)) (fun _ h_ => h_.1))) hb); have n3_ := Aside0.mk (Kd.R_below (by (with_reducible repeat (first | apply Kd.R_alloc | apply Kd.R_drewN | apply Kd.R_drew)); exact (Kd.R_mono (Kd.R_far (p := ⟨gb548, 1, none⟩) (Kd.R_far (p := ⟨gb548, 0, none⟩) (Kd.R_types HO541.out BK548.out (by decide)) (fun _ hk => hk.2) (.slice Ao76 t542.length co76)) (fun _ hk => hk.2) (.slice Ao80 t545.length co80)) (fun _ h_ => h_.1))) hb); have n4_ := Aside0.mk (Kd.V_below (by (with_reducible repeat (first | apply Kd.V_alloc | apply Kd.V_drewN | apply Kd.V_drew)); exact (Kd.V_mono (Kd.V_far (p := ⟨gb548, 1, none⟩) (Kd.V_far (p := ⟨gb548, 0, none⟩) (Kd.V_mono HO544.out (fun k_ hk => (⟨hk, hk.2⟩ : _ ∧ k_ ≠ gb548))) (fun _ hk => hk.2) (.slice Ao76 t542.length co76)) (fun _ hk => hk.2) (.slice Ao80 t545.length co80)) (fun _ h_ => h_.1))) hb); have n5_ := Aside0.mk (Kd.V_below (by (with_reducible repeat (first | apply Kd.V_alloc | apply Kd.V_drewN | apply Kd.V_drew)); exact (Kd.V_mono (Kd.V_far (p := ⟨gb548, 1, none⟩) (Kd.V_far (p := ⟨gb548, 0, none⟩) (Kd.V_mono HO547.out (fun k_ hk => (⟨hk, hk.2⟩ : _ ∧ k_ ≠ gb548))) (fun _ hk => hk.2) (.slice Ao76 t542.length co76)) (fun _ hk => hk.2) (.slice Ao80 t545.length co80)) (fun _ h_ => h_.1))) hb); have n6_ := Aside0.mk (blk_below (g := gb530) (o := .cells #[.slice none 0 0, .slice none 0 0] 46 (0, 0)) (by (with_reducible repeat (first | refine blk_drewN ?_ _ | refine blk_drew ?_ | refine blk_alloc ?_ _)); refine blk_far ?_ NB530_548.out _; (with_reducible repeat (first | refine blk_drewN ?_ _ | refine blk_drew ?_ | refine blk_alloc ?_ _)); refine blk_far ?_ NB530_548.out _; (with_reducible repeat (first | refine blk_drewN ?_ _ | refine blk_drew ?_ | refine blk_alloc ?_ _)); exact BK530.out) hb); have n7_ := Aside0.mk (blk_below (g := gb531) (o := .cells #[.slice Ao83 x532000_5.length co83, .slice Ao84 x532001_5.length co84] 46 (0, 0)) (by (with_reducible repeat (first | refine blk_drewN ?_ _ | refine blk_drew ?_ | refine blk_alloc ?_ _)); refine blk_far ?_ NB531_548.out _; (with_reducible repeat (first | refine blk_drewN ?_ _ | refine blk_drew ?_ | refine blk_alloc ?_ _)); refine blk_far ?_ NB531_548.out _; (with_reducible repeat (first | refine blk_drewN ?_ _ | refine blk_drew ?_ | refine blk_alloc ?_ _)); exact BK531.out) hb); have n8_ := Aside0.mk (blk_below (g := gb548) (o := .cells #[.slice Ao76 t542.length co76, .slice Ao80 t545.length co80] 46 (0, 0)) (by (with_reducible repeat (first | refine blk_drewN ?_ _ | refine blk_drew ?_ | refine blk_alloc ?_ _)); refine blk_put (cs := #[.slice Ao76 t542.length co76, .slice none 0 0]) ?_ 1 _ rfl; (with_reducible repeat (first | refine blk_drewN ?_ _ | refine blk_drew ?_ | refine blk_alloc ?_ _)); refine blk_put (cs := #[.slice none 0 0, .slice none 0 0]) ?_ 0 _ rfl; (with_reducible repeat (first | refine blk_drewN ?_ _ | refine blk_drew ?_ | refine blk_alloc ?_ _)); exact BK548.out) hb); have n9_ := Aside0.mk (below_step (zh HB.out) hb); clear HO_532000; clear HO_532001; clear HO538; clear HO541; clear HO544; clear HO547; clear BK530; clear BK531; clear BK548; clear HB; have HO_532000 := n0_; have HO_532001 := n1_; have HO538 := n2_; have HO541 := n3_; have HO544 := n4_; have HO547 := n5_; have BK530 := n6_; have BK531 := n7_; have BK548 := n8_; have HB := n9_; clear n0_ n1_ n2_ n3_ n4_ n5_ n6_ n7_ n8_ n9_; (try clear hb); (try clear hb2); (try clear hk); (try clear hi))); try go_wp2_with (first | ((with_reducible refine gate_dst (N := 99) rfl ?_); refine Kd.R_lit (Kd.int .i64) _ 3 ?hg (N := 99) ?hd (xs := ([x18_1, x10_2] : List Int)) (inner := [.int .i64 x18_1, .int .i64 x10_2]) (ok := fun _ => True) (okp := fun _ => True) ?hr ?hp (fun _ hk => hk) trivial (Below.refl _ _) (Nat.le_refl _) (by simp) ?_; (case hd => rfl); (case hg => rfl); (case hr => first | (go_simp; done) | (go_simp; rfl)); (case hp => exact (Reps.one (show Kd.M (Kd.int .i64) _ _ _ x18_1 [.int .i64 x18_1] from rfl) (Reps.one (show Kd.M (Kd.int .i64) _ _ _ x10_2 [.int .i64 x10_2] from rfl) (Reps.none _ _)))); intro v537 w68 ho69 hb hg_ hnew_; clear hg_ hnew_; (first | rw [← Ny536.out] at ho69 | (simp only [Int.reduceToNat] at ho69; rw [← Ny536.out] at ho69)); have n0_ := Aside0.mk (Kd.V_elder' (by (with_reducible repeat (first | apply Kd.V_alloc | apply Kd.V_drewN | apply Kd.V_drew)); exact HO_532000.out) (Kd.R_base ho69) hb); have n1_ := Aside0.mk (Kd.V_elder' (by (with_reducible repeat (first | apply Kd.V_alloc | apply Kd.V_drewN | apply Kd.V_drew)); exact HO_532001.out) (Kd.R_base ho69) hb); have n2_ := Aside0.mk (Kd.R_lower (Kd.R_newM (M := fun k_ => (w.heap.size ≤ k_)) ho69 (below_size (zh HB.out)) (fun k_ h_ => h_)) (below_size (zh HB.out))); have n3_ := Aside0.mk (blk_below (g := gb530) (o := .cells #[.slice none 0 0, .slice none 0 0] 46 (0, 0)) (zb BK530.out) hb); have n4_ := Aside0.mk (blk_below (g := gb531) (o := .cells #[u532000, u532001] 46 (0, 0)) (zb BK531.out) hb); have n5_ := Aside0.mk (below_step (zh HB.out) hb); clear HO_532000; clear HO_532001; clear BK530; clear BK531; clear HB; have HO_532000 := n0_; have HO_532001 := n1_; have HO538 := n2_; have BK530 := n3_; have BK531 := n4_; have HB := n5_; clear n0_ n1_ n2_ n3_ n4_ n5_; clear hb ho69) | ((with_reducible refine gate_dst (N := 102) rfl ?_); refine Kd.R_lit (Kd.int .i64) _ 3 ?hg (N := 102) ?hd (xs := ([(Go.bits .xor .i64 (Go.bits .xor .i64 x18_1 (ji31)) (ji33)), (Go.bits .xor .i64 (Go.bits .xor .i64 x10_2 (ji31)) (ji33))] : List Int)) (inner := [.int .i64 (Go.bits .xor .i64 (Go.bits .xor .i64 x18_1 (ji31)) (ji33)), .int .i64 (Go.bits .xor .i64 (Go.bits .xor .i64 x10_2 (ji31)) (ji33))]) (ok := fun _ => True) (okp := fun _ => True) ?hr ?hp (fun _ hk => hk) trivial (Below.refl _ _) (Nat.le_refl _) (by simp) ?_; (case hd => rfl); (case hg => rfl); (case hr => first | (go_simp; done) | (go_simp; rfl)); (case hp => exact (Reps.one (show Kd.M (Kd.int .i64) _ _ _ (Go.bits .xor .i64 (Go.bits .xor .i64 x18_1 (ji31)) (ji33)) [.int .i64 (Go.bits .xor .i64 (Go.bits .xor .i64 x18_1 (ji31)) (ji33))] from rfl) (Reps.one (show Kd.M (Kd.int .i64) _ _ _ (Go.bits .xor .i64 (Go.bits .xor .i64 x10_2 (ji31)) (ji33)) [.int .i64 (Go.bits .xor .i64 (Go.bits .xor .i64 x10_2 (ji31)) (ji33))] from rfl) (Reps.none _ _)))); intro v540 w70 ho71 hb hg_ hnew_; clear hg_ hnew_; (first | rw [← Ny539.out] at ho71 | (simp only [Int.reduceToNat] at ho71; rw [← Ny539.out] at ho71)); have n0_ := Aside0.mk (Kd.V_elder' (by (with_reducible repeat (first | apply Kd.V_alloc | apply Kd.V_drewN | apply Kd.V_drew)); exact HO_532000.out) (Kd.R_base ho71) hb); have n1_ := Aside0.mk (Kd.V_elder' (by (with_reducible repeat (first | apply Kd.V_alloc | apply Kd.V_drewN | apply Kd.V_drew)); exact HO_532001.out) (Kd.R_base ho71) hb); have n2_ := Aside0.mk (Kd.R_elder' (zr HO538.out) (Kd.R_base ho71) hb); have n3_ := Aside0.mk (Kd.R_lower (Kd.R_new' (Kd.R_newM (M := fun k_ => (w.heap.size ≤ k_)) ho71 (below_size (zh HB.out)) (fun k_ h_ => h_)) (Kd.R_lt (zr HO538.out))) (below_size (zh HB.out))); have n4_ := Aside0.mk (blk_below (g := gb530) (o := .cells #[.slice none 0 0, .slice none 0 0] 46 (0, 0)) (zb BK530.out) hb); have n5_ := Aside0.mk (blk_below (g := gb531) (o := .cells #[u532000, u532001] 46 (0, 0)) (zb BK531.out) hb); have n6_ := Aside0.mk (below_step (zh HB.out) hb); clear HO_532000; clear HO_532001; clear HO538; clear BK530; clear BK531; clear HB; have HO_532000 := n0_; have HO_532001 := n1_; have HO538 := n2_; have HO541 := n3_; have BK530 := n4_; have BK531 := n5_; have HB := n6_; clear n0_ n1_ n2_ n3_ n4_ n5_ n6_; clear hb ho71; obtain ⟨Ao72, co72, eo72⟩ := Kd.R_slice HO538.out; subst eo72; obtain ⟨Ao73, co73, eo73⟩ := Kd.R_slice HO541.out; subst eo73) | (go_at_call 91; (with_reducible refine (spec_deTrade.calls kj35 _ _ y536 _ _ y539 t542 t545 _ ?side1 ?side2 ?side3 ?side4 A44.out).mono ?_); (case side1 => repeat (first | exact (Kd.R_reads' HO538.out).2.2 | (with_reducible refine Kd.C_alloc ?_ _) | (with_reducible refine Kd.C_drewN ?_ _) | (with_reducible refine Kd.C_drew ?_))); (case side2 => exact (Kd.R_reads' HO538.out).2.1); (case side3 => repeat (first | exact (Kd.R_reads' HO541.out).2.2 | (with_reducible refine Kd.C_alloc ?_ _) | (with_reducible refine Kd.C_drewN ?_ _) | (with_reducible refine Kd.C_drew ?_))); (case side4 => exact (Kd.R_reads' HO541.out).2.1); rintro e w74 ⟨v543, v546, rfl, ho0, ho1, hb⟩; have n0_ := Aside0.mk (Kd.V_below (by (with_reducible repeat (first | apply Kd.V_alloc | apply Kd.V_drewN | apply Kd.V_drew)); exact HO_532000.out) hb); have n1_ := Aside0.mk (Kd.V_below (by (with_reducible repeat (first | apply Kd.V_alloc | apply Kd.V_drewN | apply Kd.V_drew)); exact HO_532001.out) hb); have n2_ := Aside0.mk (Kd.R_below (zr HO538.out) hb); have n3_ := Aside0.mk (Kd.R_below (zr HO541.out) hb); have n4_ := Aside0.mk (Kd.V_lower (Kd.V_mono (ok' := fun k_ => (w.heap.size ≤ k_) ∧ some k_ ≠ (.slice Ao72 y536.length co72 : Value).ownBlock ∧ some k_ ≠ (.slice Ao73 y539.length co73 : Value).ownBlock ∧ k_ ≠ gb530 ∧ k_ ≠ gb531) ho0 (fun k_ hk_ => ⟨(Nat.le_trans (below_size (zh HB.out)) hk_), (Kd.fresh' (Kd.R_lt (zr HO538.out)) k_ hk_), (Kd.fresh' (Kd.R_lt (zr HO541.out)) k_ hk_), (Kd.freshB (g := gb530) (o := .cells #[.slice none 0 0, .slice none 0 0] 46 (0, 0)) (zb BK530.out) k_ hk_), (Kd.freshB (g := gb531) (o := .cells #[u532000, u532001] 46 (0, 0)) (zb BK531.out) k_ hk_)⟩)) (below_size (zh HB.out))); have n5_ := Aside0.mk (Kd.V_lower (Kd.V_mono (ok' := fun k_ => (w.heap.size ≤ k_) ∧ some k_ ≠ (.slice Ao72 y536.length co72 : Value).ownBlock ∧ some k_ ≠ (.slice Ao73 y539.length co73 : Value).ownBlock ∧ k_ ≠ gb530 ∧ k_ ≠ gb531) ho1 (fun k_ hk_ => ⟨(Nat.le_trans (below_size (zh HB.out)) hk_), (Kd.fresh' (Kd.R_lt (zr HO538.out)) k_ hk_), (Kd.fresh' (Kd.R_lt (zr HO541.out)) k_ hk_), (Kd.freshB (g := gb530) (o := .cells #[.slice none 0 0, .slice none 0 0] 46 (0, 0)) (zb BK530.out) k_ hk_), (Kd.freshB (g := gb531) (o := .cells #[u532000, u532001] 46 (0, 0)) (zb BK531.out) k_ hk_)⟩)) (below_size (zh HB.out))); have n6_ := Aside0.mk (blk_below (g := gb530) (o := .cells #[.slice none 0 0, .slice none 0 0] 46 (0, 0)) (zb BK530.out) hb); have n7_ := Aside0.mk (blk_below (g := gb531) (o := .cells #[u532000, u532001] 46 (0, 0)) (zb BK531.out) hb); have n8_ := Aside0.mk (below_step (zh HB.out) hb); clear HO_532000; clear HO_532001; clear HO538; clear HO541; clear BK530; clear BK531; clear HB; have HO_532000 := n0_; have HO_532001 := n1_; have HO538 := n2_; have HO541 := n3_; have HO544 := n4_; have HO547 := n5_; have BK530 := n6_; have BK531 := n7_; have HB := n8_; clear n0_ n1_ n2_ n3_ n4_ n5_ n6_ n7_ n8_; (try clear hb); (try clear hb2); (try clear hk); (try clear hi); (try clear ho0); (try clear ho1)) | (go_at_call 92; (with_reducible refine (spec_deTradeBefore.calls kj35 _ _ t542 _ _ t545 _ _ x532000_5 _ _ x532001_5 false _ ?side1 ?side2 ?side3 ?side4 ?side5 ?side6 ?side7 ?side8 A46.out).mono ?_); (case side1 => refine (Kd.V_reads' (e := 71) (base := w.heap.size) (ok := fun k_ => (((w.heap.size ≤ k_) ∧ (some k_ ≠ (.slice Ao72 y536.length co72 : Value).ownBlock ∧ (some k_ ≠ (.slice Ao73 y539.length co73 : Value).ownBlock ∧ (k_ ≠ gb530 ∧ k_ ≠ gb531)))) ∧ k_ ≠ gb548)) (n := t542.length) (c := co76) ?_).2.2; exact (by (with_reducible repeat (first | apply Kd.V_alloc | apply Kd.V_drewN | apply Kd.V_drew)); exact (Kd.V_mono (Kd.V_far (p := ⟨gb548, 1, none⟩) (Kd.V_far (p := ⟨gb548, 0, none⟩) (Kd.V_mono HO544.out (fun k_ hk => (⟨hk, hk.2⟩ : _ ∧ k_ ≠ gb548))) (fun _ hk => hk.2) (.slice Ao76 t542.length co76)) (fun _ hk => hk.2) (.slice Ao80 t545.length co80)) (fun _ h_ => h_.1)))); (case side2 => exact (Kd.V_reads' HO544.out).2.1); (case side3 => refine (Kd.V_reads' (e := 71) (base := w.heap.size) (ok := fun k_ => (((w.heap.size ≤ k_) ∧ (some k_ ≠ (.slice Ao72 y536.length co72 : Value).ownBlock ∧ (some k_ ≠ (.slice Ao73 y539.length co73 : Value).ownBlock ∧ (k_ ≠ gb530 ∧ k_ ≠ gb531)))) ∧ k_ ≠ gb548)) (n := t545.length) (c := co80) ?_).2.2; exact (by (with_reducible repeat (first | apply Kd.V_alloc | apply Kd.V_drewN | apply Kd.V_drew)); exact (Kd.V_mono (Kd.V_far (p := ⟨gb548, 1, none⟩) (Kd.V_far (p := ⟨gb548, 0, none⟩) (Kd.V_mono HO547.out (fun k_ hk => (⟨hk, hk.2⟩ : _ ∧ k_ ≠ gb548))) (fun _ hk => hk.2) (.slice Ao76 t542.length co76)) (fun _ hk => hk.2) (.slice Ao80 t545.length co80)) (fun _ h_ => h_.1)))); (case side4 => exact (Kd.V_reads' HO547.out).2.1); (case side5 => refine (Kd.V_reads' (e := 71) (base := w.heap.size) (ok := fun k_ => (((((w.heap.size ≤ k_) ∧ (k_ ≠ gb530 ∧ k_ ≠ gb531)) ∧ some k_ ≠ (.slice Ao72 y536.length co72 : Value).ownBlock) ∧ some k_ ≠ (.slice Ao73 y539.length co73 : Value).ownBlock) ∧ k_ ≠ gb548)) (n := x532000_5.length) (c := co83) ?_).2.2; exact (by (with_reducible repeat (first | apply Kd.V_alloc | apply Kd.V_drewN | apply Kd.V_drew)); exact (Kd.V_mono (Kd.V_far (p := ⟨gb548, 1, none⟩) (Kd.V_far (p := ⟨gb548, 0, none⟩) (Kd.V_mono HO_532000.out (fun k_ hk => (⟨hk, hk.2⟩ : _ ∧ k_ ≠ gb548))) (fun _ hk => hk.2) (.slice Ao76 t542.length co76)) (fun _ hk => hk.2) (.slice Ao80 t545.length co80)) (fun _ h_ => h_.1)))); (case side6 => exact (Kd.V_reads' HO_532000.out).2.1); (case side7 => refine (Kd.V_reads' (e := 71) (base := w.heap.size) (ok := fun k_ => (((((w.heap.size ≤ k_) ∧ (k_ ≠ gb530 ∧ k_ ≠ gb531)) ∧ some k_ ≠ (.slice Ao72 y536.length co72 : Value).ownBlock) ∧ some k_ ≠ (.slice Ao73 y539.length co73 : Value).ownBlock) ∧ k_ ≠ gb548)) (n := x532001_5.length) (c := co84) ?_).2.2; exact (by (with_reducible repeat (first | apply Kd.V_alloc | apply Kd.V_drewN | apply Kd.V_drew)); exact (Kd.V_mono (Kd.V_far (p := ⟨gb548, 1, none⟩) (Kd.V_far (p := ⟨gb548, 0, none⟩) (Kd.V_mono HO_532001.out (fun k_ hk => (⟨hk, hk.2⟩ : _ ∧ k_ ≠ gb548))) (fun _ hk => hk.2) (.slice Ao76 t542.length co76)) (fun _ hk => hk.2) (.slice Ao80 t545.length co80)) (fun _ h_ => h_.1)))); (case side8 => exact (Kd.V_reads' HO_532001.out).2.1); rintro e w85 ⟨rfl, hb⟩; have n0_ := Aside0.mk (Kd.V_below (by (with_reducible repeat (first | apply Kd.V_alloc | apply Kd.V_drewN | apply Kd.V_drew)); exact (Kd.V_mono (Kd.V_far (p := ⟨gb548, 1, none⟩) (Kd.V_far (p := ⟨gb548, 0, none⟩) (Kd.V_mono HO_532000.out (fun k_ hk => (⟨hk, hk.2⟩ : _ ∧ k_ ≠ gb548))) (fun _ hk => hk.2) (.slice Ao76 t542.length co76)) (fun _ hk => hk.2) (.slice Ao80 t545.length co80)) (fun _ h_ => h_.1))) hb); have n1_ := Aside0.mk (Kd.V_below (by (with_reducible repeat (first | apply Kd.V_alloc | apply Kd.V_drewN | apply Kd.V_drew)); exact (Kd.V_mono (Kd.V_far (p := ⟨gb548, 1, none⟩) (Kd.V_far (p := ⟨gb548, 0, none⟩) (Kd.V_mono HO_532001.out (fun k_ hk => (⟨hk, hk.2⟩ : _ ∧ k_ ≠ gb548))) (fun _ hk => hk.2) (.slice Ao76 t542.length co76)) (fun _ hk => hk.2) (.slice Ao80 t545.length co80)) (fun _ h_ => h_.1))) hb); have n2_ := Aside0.mk (Kd.R_below (by (with_reducible repeat (first | apply Kd.R_alloc | apply Kd.R_drewN | apply Kd.R_drew)); exact (Kd.R_mono (Kd.R_far (p := ⟨gb548, 1, none⟩) (Kd.R_far (p := ⟨gb548, 0, none⟩) (Kd.R_types HO538.out BK548.out (by decide)) (fun _ hk => hk.2) (.slice Ao76 t542.length co76)) (fun _ hk => hk.2) (.slice Ao80 t545.length co80)) (fun _ h_ => h_.1))) hb); have n3_ := Aside0.mk (Kd.R_below (by (with_reducible repeat (first | apply Kd.R_alloc | apply Kd.R_drewN | apply Kd.R_drew)); exact (Kd.R_mono (Kd.R_far (p := ⟨gb548, 1, none⟩) (Kd.R_far (p := ⟨gb548, 0, none⟩) (Kd.R_types HO541.out BK548.out (by decide)) (fun _ hk => hk.2) (.slice Ao76 t542.length co76)) (fun _ hk => hk.2) (.slice Ao80 t545.length co80)) (fun _ h_ => h_.1))) hb); have n4_ := Aside0.mk (Kd.V_below (by (with_reducible repeat (first | apply Kd.V_alloc | apply Kd.V_drewN | apply Kd.V_drew)); exact (Kd.V_mono (Kd.V_far (p := ⟨gb548, 1, none⟩) (Kd.V_far (p := ⟨gb548, 0, none⟩) (Kd.V_mono HO544.out (fun k_ hk => (⟨hk, hk.2⟩ : _ ∧ k_ ≠ gb548))) (fun _ hk => hk.2) (.slice Ao76 t542.length co76)) (fun _ hk => hk.2) (.slice Ao80 t545.length co80)) (fun _ h_ => h_.1))) hb); have n5_ := Aside0.mk (Kd.V_below (by (with_reducible repeat (first | apply Kd.V_alloc | apply Kd.V_drewN | apply Kd.V_drew)); exact (Kd.V_mono (Kd.V_far (p := ⟨gb548, 1, none⟩) (Kd.V_far (p := ⟨gb548, 0, none⟩) (Kd.V_mono HO547.out (fun k_ hk => (⟨hk, hk.2⟩ : _ ∧ k_ ≠ gb548))) (fun _ hk => hk.2) (.slice Ao76 t542.length co76)) (fun _ hk => hk.2) (.slice Ao80 t545.length co80)) (fun _ h_ => h_.1))) hb); have n6_ := Aside0.mk (blk_below (g := gb530) (o := .cells #[.slice none 0 0, .slice none 0 0] 46 (0, 0)) (by (with_reducible repeat (first | refine blk_drewN ?_ _ | refine blk_drew ?_ | refine blk_alloc ?_ _)); refine blk_far ?_ NB530_548.out _; (with_reducible repeat (first | refine blk_drewN ?_ _ | refine blk_drew ?_ | refine blk_alloc ?_ _)); refine blk_far ?_ NB530_548.out _; (with_reducible repeat (first | refine blk_drewN ?_ _ | refine blk_drew ?_ | refine blk_alloc ?_ _)); exact BK530.out) hb); have n7_ := Aside0.mk (blk_below (g := gb531) (o := .cells #[.slice Ao83 x532000_5.length co83, .slice Ao84 x532001_5.length co84] 46 (0, 0)) (by (with_reducible repeat (first | refine blk_drewN ?_ _ | refine blk_drew ?_ | refine blk_alloc ?_ _)); refine blk_far ?_ NB531_548.out _; (with_reducible repeat (first | refine blk_drewN ?_ _ | refine blk_drew ?_ | refine blk_alloc ?_ _)); refine blk_far ?_ NB531_548.out _; (with_reducible repeat (first | refine blk_drewN ?_ _ | refine blk_drew ?_ | refine blk_alloc ?_ _)); exact BK531.out) hb); have n8_ := Aside0.mk (blk_below (g := gb548) (o := .cells #[.slice Ao76 t542.length co76, .slice Ao80 t545.length co80] 46 (0, 0)) (by (with_reducible repeat (first | refine blk_drewN ?_ _ | refine blk_drew ?_ | refine blk_alloc ?_ _)); refine blk_put (cs := #[.slice Ao76 t542.length co76, .slice none 0 0]) ?_ 1 _ rfl; (with_reducible repeat (first | refine blk_drewN ?_ _ | refine blk_drew ?_ | refine blk_alloc ?_ _)); refine blk_put (cs := #[.slice none 0 0, .slice none 0 0]) ?_ 0 _ rfl; (with_reducible repeat (first | refine blk_drewN ?_ _ | refine blk_drew ?_ | refine blk_alloc ?_ _)); exact BK548.out) hb); have n9_ := Aside0.mk (below_step (zh HB.out) hb); clear HO_532000; clear HO_532001; clear HO538; clear HO541; clear HO544; clear HO547; clear BK530; clear BK531; clear BK548; clear HB; have HO_532000 := n0_; have HO_532001 := n1_; have HO538 := n2_; have HO541 := n3_; have HO544 := n4_; have HO547 := n5_; have BK530 := n6_; have BK531 := n7_; have BK548 := n8_; have HB := n9_; clear n0_ n1_ n2_ n3_ n4_ n5_ n6_ n7_ n8_ n9_; (try clear hb); (try clear hb2); (try clear hk); (try clear hi))))
                go_roundg kj35
                case measure => have := HK1.out; have := HK2.out; have := HJ8.out; have := HK4.out; have := HK5.out; have := HJ16.out; have := HJ35.out; omega
                case rel => exact ⟨(true), (wrap64 (x12_5 + 1)), (x532000_5), (x532001_5), (.slice Ao83 x532000_5.length co83), (.slice Ao84 x532001_5.length co84), (by first | rfl | (simp; done) | (simp [*]; done)), (by first | rfl | (simp; done) | (simp [*]; done)), H', ⟨by have := HK1.out; have := HK2.out; have := HJ8.out; have := HK4.out; have := HK5.out; have := HJ16.out; have := HJ35.out; omega⟩, ⟨by (with_reducible repeat (first | apply Kd.V_alloc | apply Kd.V_drewN | apply Kd.V_drew)); exact Kd.V_mono HO_532000.out (fun _ hk => ⟨hk.1.1.1.1, ⟨hk.1.1.1.2.1, hk.1.1.1.2.2⟩⟩)⟩, ⟨by (with_reducible repeat (first | apply Kd.V_alloc | apply Kd.V_drewN | apply Kd.V_drew)); exact Kd.V_mono HO_532001.out (fun _ hk => ⟨hk.1.1.1.1, ⟨hk.1.1.1.2.1, hk.1.1.1.2.2⟩⟩)⟩, ⟨zb BK530.out⟩, ⟨zb BK531.out⟩, ⟨zh HB.out⟩⟩
               subst c47
               have H1 : (spec_deSwap.l3 kj35 l0 a1 true x18_1 bz532 x10_2 x11_4 (wrap64 (x12_5 + 1)) l0 (l0.length : Int) x18_1 t542 t545) = some (r1, r2, r3) := by rw [if_pos rfl] at H; exact H
               clear H
               have H := H1
               clear H1
               have H' := Aside0.mk H
               clear H
               go_wp2_with (first | ((with_reducible refine gate_dst (N := 99) rfl ?_); refine Kd.R_lit (Kd.int .i64) _ 3 ?hg (N := 99) ?hd (xs := ([x18_1, x10_2] : List Int)) (inner := [.int .i64 x18_1, .int .i64 x10_2]) (ok := fun _ => True) (okp := fun _ => True) ?hr ?hp (fun _ hk => hk) trivial (Below.refl _ _) (Nat.le_refl _) (by simp) ?_; (case hd => rfl); (case hg => rfl); (case hr => first | (go_simp; done) | (go_simp; rfl)); (case hp => exact (Reps.one (show Kd.M (Kd.int .i64) _ _ _ x18_1 [.int .i64 x18_1] from rfl) (Reps.one (show Kd.M (Kd.int .i64) _ _ _ x10_2 [.int .i64 x10_2] from rfl) (Reps.none _ _)))); intro v537 w48 ho49 hb hg_ hnew_; clear hg_ hnew_; (first | rw [← Ny536.out] at ho49 | (simp only [Int.reduceToNat] at ho49; rw [← Ny536.out] at ho49)); have n0_ := Aside0.mk (Kd.V_elder' (by (with_reducible repeat (first | apply Kd.V_alloc | apply Kd.V_drewN | apply Kd.V_drew)); exact HO_532000.out) (Kd.R_base ho49) hb); have n1_ := Aside0.mk (Kd.V_elder' (by (with_reducible repeat (first | apply Kd.V_alloc | apply Kd.V_drewN | apply Kd.V_drew)); exact HO_532001.out) (Kd.R_base ho49) hb); have n2_ := Aside0.mk (Kd.R_lower (Kd.R_newM (M := fun k_ => (w.heap.size ≤ k_)) ho49 (below_size (zh HB.out)) (fun k_ h_ => h_)) (below_size (zh HB.out))); have n3_ := Aside0.mk (blk_below (g := gb530) (o := .cells #[.slice none 0 0, .slice none 0 0] 46 (0, 0)) (zb BK530.out) hb); have n4_ := Aside0.mk (blk_below (g := gb531) (o := .cells #[u532000, u532001] 46 (0, 0)) (zb BK531.out) hb); have n5_ := Aside0.mk (below_step (zh HB.out) hb); clear HO_532000; clear HO_532001; clear BK530; clear BK531; clear HB; have HO_532000 := n0_; have HO_532001 := n1_; have HO538 := n2_; have BK530 := n3_; have BK531 := n4_; have HB := n5_; clear n0_ n1_ n2_ n3_ n4_ n5_; clear hb ho49) | ((with_reducible refine gate_dst (N := 102) rfl ?_); refine Kd.R_lit (Kd.int .i64) _ 3 ?hg (N := 102) ?hd (xs := ([(Go.bits .xor .i64 (Go.bits .xor .i64 x18_1 (ji31)) (ji33)), (Go.bits .xor .i64 (Go.bits .xor .i64 x10_2 (ji31)) (ji33))] : List Int)) (inner := [.int .i64 (Go.bits .xor .i64 (Go.bits .xor .i64 x18_1 (ji31)) (ji33)), .int .i64 (Go.bits .xor .i64 (Go.bits .xor .i64 x10_2 (ji31)) (ji33))]) (ok := fun _ => True) (okp := fun _ => True) ?hr ?hp (fun _ hk => hk) trivial (Below.refl _ _) (Nat.le_refl _) (by simp) ?_; (case hd => rfl); (case hg => rfl); (case hr => first | (go_simp; done) | (go_simp; rfl)); (case hp => exact (Reps.one (show Kd.M (Kd.int .i64) _ _ _ (Go.bits .xor .i64 (Go.bits .xor .i64 x18_1 (ji31)) (ji33)) [.int .i64 (Go.bits .xor .i64 (Go.bits .xor .i64 x18_1 (ji31)) (ji33))] from rfl) (Reps.one (show Kd.M (Kd.int .i64) _ _ _ (Go.bits .xor .i64 (Go.bits .xor .i64 x10_2 (ji31)) (ji33)) [.int .i64 (Go.bits .xor .i64 (Go.bits .xor .i64 x10_2 (ji31)) (ji33))] from rfl) (Reps.none _ _)))); intro v540 w50 ho51 hb hg_ hnew_; clear hg_ hnew_; (first | rw [← Ny539.out] at ho51 | (simp only [Int.reduceToNat] at ho51; rw [← Ny539.out] at ho51)); have n0_ := Aside0.mk (Kd.V_elder' (by (with_reducible repeat (first | apply Kd.V_alloc | apply Kd.V_drewN | apply Kd.V_drew)); exact HO_532000.out) (Kd.R_base ho51) hb); have n1_ := Aside0.mk (Kd.V_elder' (by (with_reducible repeat (first | apply Kd.V_alloc | apply Kd.V_drewN | apply Kd.V_drew)); exact HO_532001.out) (Kd.R_base ho51) hb); have n2_ := Aside0.mk (Kd.R_elder' (zr HO538.out) (Kd.R_base ho51) hb); have n3_ := Aside0.mk (Kd.R_lower (Kd.R_new' (Kd.R_newM (M := fun k_ => (w.heap.size ≤ k_)) ho51 (below_size (zh HB.out)) (fun k_ h_ => h_)) (Kd.R_lt (zr HO538.out))) (below_size (zh HB.out))); have n4_ := Aside0.mk (blk_below (g := gb530) (o := .cells #[.slice none 0 0, .slice none 0 0] 46 (0, 0)) (zb BK530.out) hb); have n5_ := Aside0.mk (blk_below (g := gb531) (o := .cells #[u532000, u532001] 46 (0, 0)) (zb BK531.out) hb); have n6_ := Aside0.mk (below_step (zh HB.out) hb); clear HO_532000; clear HO_532001; clear HO538; clear BK530; clear BK531; clear HB; have HO_532000 := n0_; have HO_532001 := n1_; have HO538 := n2_; have HO541 := n3_; have BK530 := n4_; have BK531 := n5_; have HB := n6_; clear n0_ n1_ n2_ n3_ n4_ n5_ n6_; clear hb ho51; obtain ⟨Ao52, co52, eo52⟩ := Kd.R_slice HO538.out; subst eo52; obtain ⟨Ao53, co53, eo53⟩ := Kd.R_slice HO541.out; subst eo53) | (go_at_call 91; (with_reducible refine (spec_deTrade.calls kj35 _ _ y536 _ _ y539 t542 t545 _ ?side1 ?side2 ?side3 ?side4 A44.out).mono ?_); (case side1 => repeat (first | exact (Kd.R_reads' HO538.out).2.2 | (with_reducible refine Kd.C_alloc ?_ _) | (with_reducible refine Kd.C_drewN ?_ _) | (with_reducible refine Kd.C_drew ?_))); (case side2 => exact (Kd.R_reads' HO538.out).2.1); (case side3 => repeat (first | exact (Kd.R_reads' HO541.out).2.2 | (with_reducible refine Kd.C_alloc ?_ _) | (with_reducible refine Kd.C_drewN ?_ _) | (with_reducible refine Kd.C_drew ?_))); (case side4 => exact (Kd.R_reads' HO541.out).2.1); rintro e w54 ⟨v543, v546, rfl, ho0, ho1, hb⟩; have n0_ := Aside0.mk (Kd.V_below (by (with_reducible repeat (first | apply Kd.V_alloc | apply Kd.V_drewN | apply Kd.V_drew)); exact HO_532000.out) hb); have n1_ := Aside0.mk (Kd.V_below (by (with_reducible repeat (first | apply Kd.V_alloc | apply Kd.V_drewN | apply Kd.V_drew)); exact HO_532001.out) hb); have n2_ := Aside0.mk (Kd.R_below (zr HO538.out) hb); have n3_ := Aside0.mk (Kd.R_below (zr HO541.out) hb); have n4_ := Aside0.mk (Kd.V_lower (Kd.V_mono (ok' := fun k_ => (w.heap.size ≤ k_) ∧ some k_ ≠ (.slice Ao52 y536.length co52 : Value).ownBlock ∧ some k_ ≠ (.slice Ao53 y539.length co53 : Value).ownBlock ∧ k_ ≠ gb530 ∧ k_ ≠ gb531) ho0 (fun k_ hk_ => ⟨(Nat.le_trans (below_size (zh HB.out)) hk_), (Kd.fresh' (Kd.R_lt (zr HO538.out)) k_ hk_), (Kd.fresh' (Kd.R_lt (zr HO541.out)) k_ hk_), (Kd.freshB (g := gb530) (o := .cells #[.slice none 0 0, .slice none 0 0] 46 (0, 0)) (zb BK530.out) k_ hk_), (Kd.freshB (g := gb531) (o := .cells #[u532000, u532001] 46 (0, 0)) (zb BK531.out) k_ hk_)⟩)) (below_size (zh HB.out))); have n5_ := Aside0.mk (Kd.V_lower (Kd.V_mono (ok' := fun k_ => (w.heap.size ≤ k_) ∧ some k_ ≠ (.slice Ao52 y536.length co52 : Value).ownBlock ∧ some k_ ≠ (.slice Ao53 y539.length co53 : Value).ownBlock ∧ k_ ≠ gb530 ∧ k_ ≠ gb531) ho1 (fun k_ hk_ => ⟨(Nat.le_trans (below_size (zh HB.out)) hk_), (Kd.fresh' (Kd.R_lt (zr HO538.out)) k_ hk_), (Kd.fresh' (Kd.R_lt (zr HO541.out)) k_ hk_), (Kd.freshB (g := gb530) (o := .cells #[.slice none 0 0, .slice none 0 0] 46 (0, 0)) (zb BK530.out) k_ hk_), (Kd.freshB (g := gb531) (o := .cells #[u532000, u532001] 46 (0, 0)) (zb BK531.out) k_ hk_)⟩)) (below_size (zh HB.out))); have n6_ := Aside0.mk (blk_below (g := gb530) (o := .cells #[.slice none 0 0, .slice none 0 0] 46 (0, 0)) (zb BK530.out) hb); have n7_ := Aside0.mk (blk_below (g := gb531) (o := .cells #[u532000, u532001] 46 (0, 0)) (zb BK531.out) hb); have n8_ := Aside0.mk (below_step (zh HB.out) hb); clear HO_532000; clear HO_532001; clear HO538; clear HO541; clear BK530; clear BK531; clear HB; have HO_532000 := n0_; have HO_532001 := n1_; have HO538 := n2_; have HO541 := n3_; have HO544 := n4_; have HO547 := n5_; have BK530 := n6_; have BK531 := n7_; have HB := n8_; clear n0_ n1_ n2_ n3_ n4_ n5_ n6_ n7_ n8_; (try clear hb); (try clear hb2); (try clear hk); (try clear hi); (try clear ho0); (try clear ho1)) | ((with_reducible refine gate_dst (N := 15) rfl ?_); refine box_event ?hg (N := 15) ?hd (cs := #[.slice none 0 0, .slice none 0 0]) (t := 46) ?hr ?_; (case hd => rfl); (case hg => rfl); (case hr => first | (go_simp; done) | (go_simp; rfl)); intro gb548 hg w55 hbox hb; have n0_ := Aside0.mk (Kd.V_below (Kd.V_elderB (by (with_reducible repeat (first | apply Kd.V_alloc | apply Kd.V_drewN | apply Kd.V_drew)); exact HO_532000.out) gb548 (Nat.le_of_eq hg.symm)) hb); have n1_ := Aside0.mk (Kd.V_below (Kd.V_elderB (by (with_reducible repeat (first | apply Kd.V_alloc | apply Kd.V_drewN | apply Kd.V_drew)); exact HO_532001.out) gb548 (Nat.le_of_eq hg.symm)) hb); have n2_ := Aside0.mk (Kd.R_below (zr HO538.out) hb); have n3_ := Aside0.mk (Kd.R_below (zr HO541.out) hb); have n4_ := Aside0.mk (Kd.V_below (Kd.V_elderB (by (with_reducible repeat (first | apply Kd.V_alloc | apply Kd.V_drewN | apply Kd.V_drew)); exact HO544.out) gb548 (Nat.le_of_eq hg.symm)) hb); have n5_ := Aside0.mk (Kd.V_below (Kd.V_elderB (by (with_reducible repeat (first | apply Kd.V_alloc | apply Kd.V_drewN | apply Kd.V_drew)); exact HO547.out) gb548 (Nat.le_of_eq hg.symm)) hb); have n6_ := Aside0.mk (blk_below (g := gb530) (o := .cells #[.slice none 0 0, .slice none 0 0] 46 (0, 0)) (zb BK530.out) hb); have n7_ := Aside0.mk (blk_below (g := gb531) (o := .cells #[u532000, u532001] 46 (0, 0)) (zb BK531.out) hb); have n8_ := Aside0.mk (below_step (zh HB.out) hb); have n9_ := Aside0.mk (hbox); have n10_ := Aside0.mk ((by rw [hg]; exact (below_size (zh HB.out)) : w.heap.size ≤ gb548)); have n11_ := Aside0.mk ((by rw [hg]; exact (below_size (zh HB.out)) : w.heap.size ≤ gb548)); have n12_ := Aside0.mk ((by rw [hg]; exact Nat.ne_of_lt (blk_lt (g := gb530) (o := .cells #[.slice none 0 0, .slice none 0 0] 46 (0, 0)) (zb BK530.out)) : gb530 ≠ gb548)); have n13_ := Aside0.mk ((by rw [hg]; exact Nat.ne_of_gt (blk_lt (g := gb530) (o := .cells #[.slice none 0 0, .slice none 0 0] 46 (0, 0)) (zb BK530.out)) : gb548 ≠ gb530)); have n14_ := Aside0.mk ((by rw [hg]; exact Nat.ne_of_lt (blk_lt (g := gb531) (o := .cells #[u532000, u532001] 46 (0, 0)) (zb BK531.out)) : gb531 ≠ gb548)); have n15_ := Aside0.mk ((by rw [hg]; exact Nat.ne_of_gt (blk_lt (g := gb531) (o := .cells #[u532000, u532001] 46 (0, 0)) (zb BK531.out)) : gb548 ≠ gb531)); clear HO_532000; clear HO_532001; clear HO538; clear HO541; clear HO544; clear HO547; clear BK530; clear BK531; clear HB; have HO_532000 := n0_; have HO_532001 := n1_; have HO538 := n2_; have HO541 := n3_; have HO544 := n4_; have HO547 := n5_; have BK530 := n6_; have BK531 := n7_; have HB := n8_; have BK548 := n9_; have GW548 := n10_; have GE548 := n11_; have NB530_548 := n12_; have NB548_530 := n13_; have NB531_548 := n14_; have NB548_531 := n15_; clear n0_ n1_ n2_ n3_ n4_ n5_ n6_ n7_ n8_ n9_ n10_ n11_ n12_ n13_ n14_ n15_; clear hb hbox hg; obtain ⟨Ao56, co56, eo56⟩ := Kd.V_slice HO544.out; subst eo56; have hnb57 := NB548_530.out; have hnc57 := NB530_548.out; have hnb58 := NB548_531.out; have hnc58 := NB531_548.out; have hcz59_0 : w55.cell? ⟨gb548, 0, none⟩ = some (.slice none 0 0) := (blk_cell BK548.out 0).trans rfl; have hcz59_1 : w55.cell? ⟨gb548, 1, none⟩ = some (.slice none 0 0) := (blk_cell BK548.out 1).trans rfl; have hfz59_0 := blk_frozen BK548.out 0; have hfz59_1 := blk_frozen BK548.out 1; obtain ⟨Ao60, co60, eo60⟩ := Kd.V_slice HO547.out; subst eo60; have hnb61 := NB531_530.out; have hnc61 := NB530_531.out; have hcz62_0 : w55.cell? ⟨gb531, 0, none⟩ = some (u532000) := (blk_cell BK531.out 0).trans rfl; have hcz62_1 : w55.cell? ⟨gb531, 1, none⟩ = some (u532001) := (blk_cell BK531.out 1).trans rfl; have hfz62_0 := blk_frozen BK531.out 0; have hfz62_1 := blk_frozen BK531.out 1; obtain ⟨Ao63, co63, eo63⟩ := Kd.V_slice HO_532000.out; subst eo63; obtain ⟨Ao64, co64, eo64⟩ := Kd.V_slice HO_532001.out; subst eo64) | (go_at_call 92; (with_reducible refine (spec_deTradeBefore.calls kj35 _ _ t542 _ _ t545 _ _ x532000_5 _ _ x532001_5 true _ ?side1 ?side2 ?side3 ?side4 ?side5 ?side6 ?side7 ?side8 A46.out).mono ?_); (case side1 => refine (Kd.V_reads' (e := 71) (base := w.heap.size) (ok := fun k_ => (((w.heap.size ≤ k_) ∧ (some k_ ≠ (.slice Ao52 y536.length co52 : Value).ownBlock ∧ (some k_ ≠ (.slice Ao53 y539.length co53 : Value).ownBlock ∧ (k_ ≠ gb530 ∧ k_ ≠ gb531)))) ∧ k_ ≠ gb548)) (n := t542.length) (c := co56) ?_).2.2; exact (by (with_reducible repeat (first | apply Kd.V_alloc | apply Kd.V_drewN | apply Kd.V_drew)); exact (Kd.V_mono (Kd.V_far (p := ⟨gb548, 1, none⟩) (Kd.V_far (p := ⟨gb548, 0, none⟩) (Kd.V_mono HO544.out (fun k_ hk => (⟨hk, hk.2⟩ : _ ∧ k_ ≠ gb548))) (fun _ hk => hk.2) (.slice Ao56 t542.length co56)) (fun _ hk => hk.2) (.slice Ao60 t545.length co60)) (fun _ h_ => h_.1)))); (case side2 => exact (Kd.V_reads' HO544.out).2.1); (case side3 => refine (Kd.V_reads' (e := 71) (base := w.heap.size) (ok := fun k_ => (((w.heap.size ≤ k_) ∧ (some k_ ≠ (.slice Ao52 y536.length co52 : Value).ownBlock ∧ (some k_ ≠ (.slice Ao53 y539.length co53 : Value).ownBlock ∧ (k_ ≠ gb530 ∧ k_ ≠ gb531)))) ∧ k_ ≠ gb548)) (n := t545.length) (c := co60) ?_).2.2; exact (by (with_reducible repeat (first | apply Kd.V_alloc | apply Kd.V_drewN | apply Kd.V_drew)); exact (Kd.V_mono (Kd.V_far (p := ⟨gb548, 1, none⟩) (Kd.V_far (p := ⟨gb548, 0, none⟩) (Kd.V_mono HO547.out (fun k_ hk => (⟨hk, hk.2⟩ : _ ∧ k_ ≠ gb548))) (fun _ hk => hk.2) (.slice Ao56 t542.length co56)) (fun _ hk => hk.2) (.slice Ao60 t545.length co60)) (fun _ h_ => h_.1)))); (case side4 => exact (Kd.V_reads' HO547.out).2.1); (case side5 => refine (Kd.V_reads' (e := 71) (base := w.heap.size) (ok := fun k_ => (((((w.heap.size ≤ k_) ∧ (k_ ≠ gb530 ∧ k_ ≠ gb531)) ∧ some k_ ≠ (.slice Ao52 y536.length co52 : Value).ownBlock) ∧ some k_ ≠ (.slice Ao53 y539.length co53 : Value).ownBlock) ∧ k_ ≠ gb548)) (n := x532000_5.length) (c := co63) ?_).2.2; exact (by (with_reducible repeat (first | apply Kd.V_alloc | apply Kd.V_drewN | apply Kd.V_drew)); exact (Kd.V_mono (Kd.V_far (p := ⟨gb548, 1, none⟩) (Kd.V_far (p := ⟨gb548, 0, none⟩) (Kd.V_mono HO_532000.out (fun k_ hk => (⟨hk, hk.2⟩ : _ ∧ k_ ≠ gb548))) (fun _ hk => hk.2) (.slice Ao56 t542.length co56)) (fun _ hk => hk.2) (.slice Ao60 t545.length co60)) (fun _ h_ => h_.1)))); (case side6 => exact (Kd.V_reads' HO_532000.out).2.1); (case side7 => refine (Kd.V_reads' (e := 71) (base := w.heap.size) (ok := fun k_ => (((((w.heap.size ≤ k_) ∧ (k_ ≠ gb530 ∧ k_ ≠ gb531)) ∧ some k_ ≠ (.slice Ao52 y536.length co52 : Value).ownBlock) ∧ some k_ ≠ (.slice Ao53 y539.length co53 : Value).ownBlock) ∧ k_ ≠ gb548)) (n := x532001_5.length) (c := co64) ?_).2.2; exact (by (with_reducible repeat (first | apply Kd.V_alloc | apply Kd.V_drewN | apply Kd.V_drew)); exact (Kd.V_mono (Kd.V_far (p := ⟨gb548, 1, none⟩) (Kd.V_far (p := ⟨gb548, 0, none⟩) (Kd.V_mono HO_532001.out (fun k_ hk => (⟨hk, hk.2⟩ : _ ∧ k_ ≠ gb548))) (fun _ hk => hk.2) (.slice Ao56 t542.length co56)) (fun _ hk => hk.2) (.slice Ao60 t545.length co60)) (fun _ h_ => h_.1)))); (case side8 => exact (Kd.V_reads' HO_532001.out).2.1); rintro e w65 ⟨rfl, hb⟩; have n0_ := Aside0.mk (Kd.V_below (by (with_reducible repeat (first | apply Kd.V_alloc | apply Kd.V_drewN | apply Kd.V_drew)); exact (Kd.V_mono (Kd.V_far (p := ⟨gb548, 1, none⟩) (Kd.V_far (p := ⟨gb548, 0, none⟩) (Kd.V_mono HO_532000.out (fun k_ hk => (⟨hk, hk.2⟩ : _ ∧ k_ ≠ gb548))) (fun _ hk => hk.2) (.slice Ao56 t542.length co56)) (fun _ hk => hk.2) (.slice Ao60 t545.length co60)) (fun _ h_ => h_.1))) hb); have n1_ := Aside0.mk (Kd.V_below (by (with_reducible repeat (first | apply Kd.V_alloc | apply Kd.V_drewN | apply Kd.V_drew)); exact (Kd.V_mono (Kd.V_far (p := ⟨gb548, 1, none⟩) (Kd.V_far (p := ⟨gb548, 0, none⟩) (Kd.V_mono HO_532001.out (fun k_ hk => (⟨hk, hk.2⟩ : _ ∧ k_ ≠ gb548))) (fun _ hk => hk.2) (.slice Ao56 t542.length co56)) (fun _ hk => hk.2) (.slice Ao60 t545.length co60)) (fun _ h_ => h_.1))) hb); have n2_ := Aside0.mk (Kd.R_below (by (with_reducible repeat (first | apply Kd.R_alloc | apply Kd.R_drewN | apply Kd.R_drew)); exact (Kd.R_mono (Kd.R_far (p := ⟨gb548, 1, none⟩) (Kd.R_far (p := ⟨gb548, 0, none⟩) (Kd.R_types HO538.out BK548.out (by decide)) (fun _ hk => hk.2) (.slice Ao56 t542.length co56)) (fun _ hk => hk.2) (.slice Ao60 t545.length co60)) (fun _ h_ => h_.1))) hb); have n3_ := Aside0.mk (Kd.R_below (by (with_reducible repeat (first | apply Kd.R_alloc | apply Kd.R_drewN | apply Kd.R_drew)); exact (Kd.R_mono (Kd.R_far (p := ⟨gb548, 1, none⟩) (Kd.R_far (p := ⟨gb548, 0, none⟩) (Kd.R_types HO541.out BK548.out (by decide)) (fun _ hk => hk.2) (.slice Ao56 t542.length co56)) (fun _ hk => hk.2) (.slice Ao60 t545.length co60)) (fun _ h_ => h_.1))) hb); have n4_ := Aside0.mk (Kd.V_below (by (with_reducible repeat (first | apply Kd.V_alloc | apply Kd.V_drewN | apply Kd.V_drew)); exact (Kd.V_mono (Kd.V_far (p := ⟨gb548, 1, none⟩) (Kd.V_far (p := ⟨gb548, 0, none⟩) (Kd.V_mono HO544.out (fun k_ hk => (⟨hk, hk.2⟩ : _ ∧ k_ ≠ gb548))) (fun _ hk => hk.2) (.slice Ao56 t542.length co56)) (fun _ hk => hk.2) (.slice Ao60 t545.length co60)) (fun _ h_ => h_.1))) hb); have n5_ := Aside0.mk (Kd.V_below (by (with_reducible repeat (first | apply Kd.V_alloc | apply Kd.V_drewN | apply Kd.V_drew)); exact (Kd.V_mono (Kd.V_far (p := ⟨gb548, 1, none⟩) (Kd.V_far (p := ⟨gb548, 0, none⟩) (Kd.V_mono HO547.out (fun k_ hk => (⟨hk, hk.2⟩ : _ ∧ k_ ≠ gb548))) (fun _ hk => hk.2) (.slice Ao56 t542.length co56)) (fun _ hk => hk.2) (.slice Ao60 t545.length co60)) (fun _ h_ => h_.1))) hb); have n6_ := Aside0.mk (blk_below (g := gb530) (o := .cells #[.slice none 0 0, .slice none 0 0] 46 (0, 0)) (by (with_reducible repeat (first | refine blk_drewN ?_ _ | refine blk_drew ?_ | refine blk_alloc ?_ _)); refine blk_far ?_ NB530_548.out _; (with_reducible repeat (first | refine blk_drewN ?_ _ | refine blk_drew ?_ | refine blk_alloc ?_ _)); refine blk_far ?_ NB530_548.out _; (with_reducible repeat (first | refine blk_drewN ?_ _ | refine blk_drew ?_ | refine blk_alloc ?_ _)); exact BK530.out) hb); have n7_ := Aside0.mk (blk_below (g := gb531) (o := .cells #[.slice Ao63 x532000_5.length co63, .slice Ao64 x532001_5.length co64] 46 (0, 0)) (by (with_reducible repeat (first | refine blk_drewN ?_ _ | refine blk_drew ?_ | refine blk_alloc ?_ _)); refine blk_far ?_ NB531_548.out _; (with_reducible repeat (first | refine blk_drewN ?_ _ | refine blk_drew ?_ | refine blk_alloc ?_ _)); refine blk_far ?_ NB531_548.out _; (with_reducible repeat (first | refine blk_drewN ?_ _ | refine blk_drew ?_ | refine blk_alloc ?_ _)); exact BK531.out) hb); have n8_ := Aside0.mk (blk_below (g := gb548) (o := .cells #[.slice Ao56 t542.length co56, .slice Ao60 t545.length co60] 46 (0, 0)) (by (with_reducible repeat (first | refine blk_drewN ?_ _ | refine blk_drew ?_ | refine blk_alloc ?_ _)); refine blk_put (cs := #[.slice Ao56 t542.length co56, .slice none 0 0]) ?_ 1 _ rfl; (with_reducible repeat (first | refine blk_drewN ?_ _ | refine blk_drew ?_ | refine blk_alloc ?_ _)); refine blk_put (cs := #[.slice none 0 0, .slice none 0 0]) ?_ 0 _ rfl; (with_reducible repeat (first | refine blk_drewN ?_ _ | refine blk_drew ?_ | refine blk_alloc ?_ _)); exact BK548.out) hb); have n9_ := Aside0.mk (below_step (zh HB.out) hb); clear HO_532000; clear HO_532001; clear HO538; clear HO541; clear HO544; clear HO547; clear BK530; clear BK531; clear BK548; clear HB; have HO_532000 := n0_; have HO_532001 := n1_; have HO538 := n2_; have HO541 := n3_; have HO544 := n4_; have HO547 := n5_; have BK530 := n6_; have BK531 := n7_; have BK548 := n8_; have HB := n9_; clear n0_ n1_ n2_ n3_ n4_ n5_ n6_ n7_ n8_ n9_; (try clear hb); (try clear hb2); (try clear hk); (try clear hi); have hcz66_0 : w65.cell? ⟨gb548, 0, none⟩ = some (.slice Ao56 t542.length co56) := (blk_cell BK548.out 0).trans rfl; have hcz66_1 : w65.cell? ⟨gb548, 1, none⟩ = some (.slice Ao60 t545.length co60) := (blk_cell BK548.out 1).trans rfl; have hfz66_0 := blk_frozen BK548.out 0; have hfz66_1 := blk_frozen BK548.out 1; have hcz67_0 : w65.cell? ⟨gb531, 0, none⟩ = some (.slice Ao63 x532000_5.length co63) := (blk_cell BK531.out 0).trans rfl; have hcz67_1 : w65.cell? ⟨gb531, 1, none⟩ = some (.slice Ao64 x532001_5.length co64) := (blk_cell BK531.out 1).trans rfl; have hfz67_0 := blk_frozen BK531.out 0; have hfz67_1 := blk_frozen BK531.out 1))
               repeat (go_quiet (first | ((with_reducible refine gate_dst (N := 99) rfl ?_); refine Kd.R_lit (Kd.int .i64) _ 3 ?hg (N := 99) ?hd (xs := ([x18_1, x10_2] : List Int)) (inner := [.int .i64 x18_1, .int .i64 x10_2]) (ok := fun _ => True) (okp := fun _ => True) ?hr ?hp (fun _ hk => hk) trivial (Below.refl _ _) (Nat.le_refl _) (by simp) ?_; (case hd => rfl); (case hg => rfl); (case hr => first | (go_simp; done) | (go_simp; rfl)); (case hp => exact (Reps.one (show Kd.M (Kd.int .i64) _ _ _ x18_1 [.int .i64 x18_1] from rfl) (Reps.one (show Kd.M (Kd.int .i64) _ _ _ x10_2 [.int .i64 x10_2] from rfl) (Reps.none _ _)))); intro v537 w48 ho49 hb hg_ hnew_; clear hg_ hnew_; (first | rw [← Ny536.out] at ho49 | (simp only [Int.reduceToNat] at ho49; rw [← Ny536.out] at ho49)); have n0_ := Aside0.mk (Kd.V_elder' (by (with_reducible repeat (first | apply Kd.V_alloc | apply Kd.V_drewN | apply Kd.V_drew)); exact HO_532000.out) (Kd.R_base ho49) hb); have n1_ := Aside0.mk (Kd.V_elder' (by (with_reducible repeat (first | apply Kd.V_alloc | apply Kd.V_drewN | apply Kd.V_drew)); exact HO_532001.out) (Kd.R_base ho49) hb); have n2_ := Aside0.mk (Kd.R_lower (Kd.R_newM (M := fun k_ => (w.heap.size ≤ k_)) ho49 (below_size (zh HB.out)) (fun k_ h_ => h_)) (below_size (zh HB.out))); have n3_ := Aside0.mk (blk_below (g := gb530) (o := .cells #[.slice none 0 0, .slice none 0 0] 46 (0, 0)) (zb BK530.out) hb); have n4_ := Aside0.mk (blk_below (g := gb531) (o := .cells #[u532000, u532001] 46 (0, 0)) (zb BK531.out) hb); have n5_ := Aside0.mk (below_step (zh HB.out) hb); clear HO_532000; clear HO_532001; clear BK530; clear BK531; clear HB; have HO_532000 := n0_; have HO_532001 := n1_; have HO538 := n2_; have BK530 := n3_; have BK531 := n4_; have HB := n5_; clear n0_ n1_ n2_ n3_ n4_ n5_; clear hb ho49) | ((with_reducible refine gate_dst (N := 102) rfl ?_); refine Kd.R_lit (Kd.int .i64) _ 3 ?hg (N := 102) ?hd (xs := ([(Go.bits .xor .i64 (Go.bits .xor .i64 x18_1 (ji31)) (ji33)), (Go.bits .xor .i64 (Go.bits .xor .i64 x10_2 (ji31)) (ji33))] : List Int)) (inner := [.int .i64 (Go.bits .xor .i64 (Go.bits .xor .i64 x18_1 (ji31)) (ji33)), .int .i64 (Go.bits .xor .i64 (Go.bits .xor .i64 x10_2 (ji31)) (ji33))]) (ok := fun _ => True) (okp := fun _ => True) ?hr ?hp (fun _ hk => hk) trivial (Below.refl _ _) (Nat.le_refl _) (by simp) ?_; (case hd => rfl); (case hg => rfl); (case hr => first | (go_simp; done) | (go_simp; rfl)); (case hp => exact (Reps.one (show Kd.M (Kd.int .i64) _ _ _ (Go.bits .xor .i64 (Go.bits .xor .i64 x18_1 (ji31)) (ji33)) [.int .i64 (Go.bits .xor .i64 (Go.bits .xor .i64 x18_1 (ji31)) (ji33))] from rfl) (Reps.one (show Kd.M (Kd.int .i64) _ _ _ (Go.bits .xor .i64 (Go.bits .xor .i64 x10_2 (ji31)) (ji33)) [.int .i64 (Go.bits .xor .i64 (Go.bits .xor .i64 x10_2 (ji31)) (ji33))] from rfl) (Reps.none _ _)))); intro v540 w50 ho51 hb hg_ hnew_; clear hg_ hnew_; (first | rw [← Ny539.out] at ho51 | (simp only [Int.reduceToNat] at ho51; rw [← Ny539.out] at ho51)); have n0_ := Aside0.mk (Kd.V_elder' (by (with_reducible repeat (first | apply Kd.V_alloc | apply Kd.V_drewN | apply Kd.V_drew)); exact HO_532000.out) (Kd.R_base ho51) hb); have n1_ := Aside0.mk (Kd.V_elder' (by (with_reducible repeat (first | apply Kd.V_alloc | apply Kd.V_drewN | apply Kd.V_drew)); exact HO_532001.out) (Kd.R_base ho51) hb); have n2_ := Aside0.mk (Kd.R_elder' (zr HO538.out) (Kd.R_base ho51) hb); have n3_ := Aside0.mk (Kd.R_lower (Kd.R_new' (Kd.R_newM (M := fun k_ => (w.heap.size ≤ k_)) ho51 (below_size (zh HB.out)) (fun k_ h_ => h_)) (Kd.R_lt (zr HO538.out))) (below_size (zh HB.out))); have n4_ := Aside0.mk (blk_below (g := gb530) (o := .cells #[.slice none 0 0, .slice none 0 0] 46 (0, 0)) (zb BK530.out) hb); have n5_ := Aside0.mk (blk_below (g := gb531) (o := .cells #[u532000, u532001] 46 (0, 0)) (zb BK531.out) hb); have n6_ := Aside0.mk (below_step (zh HB.out) hb); clear HO_532000; clear HO_532001; clear HO538; clear BK530; clear BK531; clear HB; have HO_532000 := n0_; have HO_532001 := n1_; have HO538 := n2_; have HO541 := n3_; have BK530 := n4_; have BK531 := n5_; have HB := n6_; clear n0_ n1_ n2_ n3_ n4_ n5_ n6_; clear hb ho51; obtain ⟨Ao52, co52, eo52⟩ := Kd.R_slice HO538.out; subst eo52; obtain ⟨Ao53, co53, eo53⟩ := Kd.R_slice HO541.out; subst eo53) | (go_at_call 91; (with_reducible refine (spec_deTrade.calls kj35 _ _ y536 _ _ y539 t542 t545 _ ?side1 ?side2 ?side3 ?side4 A44.out).mono ?_); (case side1 => repeat (first | exact (Kd.R_reads' HO538.out).2.2 | (with_reducible refine Kd.C_alloc ?_ _) | (with_reducible refine Kd.C_drewN ?_ _) | (with_reducible refine Kd.C_drew ?_))); (case side2 => exact (Kd.R_reads' HO538.out).2.1); (case side3 => repeat (first | exact (Kd.R_reads' HO541.out).2.2 | (with_reducible refine Kd.C_alloc ?_ _) | (with_reducible refine Kd.C_drewN ?_ _) | (with_reducible refine Kd.C_drew ?_))); (case side4 => exact (Kd.R_reads' HO541.out).2.1); rintro e w54 ⟨v543, v546, rfl, ho0, ho1, hb⟩; have n0_ := Aside0.mk (Kd.V_below (by (with_reducible repeat (first | apply Kd.V_alloc | apply Kd.V_drewN | apply Kd.V_drew)); exact HO_532000.out) hb); have n1_ := Aside0.mk (Kd.V_below (by (with_reducible repeat (first | apply Kd.V_alloc | apply Kd.V_drewN | apply Kd.V_drew)); exact HO_532001.out) hb); have n2_ := Aside0.mk (Kd.R_below (zr HO538.out) hb); have n3_ := Aside0.mk (Kd.R_below (zr HO541.out) hb); have n4_ := Aside0.mk (Kd.V_lower (Kd.V_mono (ok' := fun k_ => (w.heap.size ≤ k_) ∧ some k_ ≠ (.slice Ao52 y536.length co52 : Value).ownBlock ∧ some k_ ≠ (.slice Ao53 y539.length co53 : Value).ownBlock ∧ k_ ≠ gb530 ∧ k_ ≠ gb531) ho0 (fun k_ hk_ => ⟨(Nat.le_trans (below_size (zh HB.out)) hk_), (Kd.fresh' (Kd.R_lt (zr HO538.out)) k_ hk_), (Kd.fresh' (Kd.R_lt (zr HO541.out)) k_ hk_), (Kd.freshB (g := gb530) (o := .cells #[.slice none 0 0, .slice none 0 0] 46 (0, 0)) (zb BK530.out) k_ hk_), (Kd.freshB (g := gb531) (o := .cells #[u532000, u532001] 46 (0, 0)) (zb BK531.out) k_ hk_)⟩)) (below_size (zh HB.out))); have n5_ := Aside0.mk (Kd.V_lower (Kd.V_mono (ok' := fun k_ => (w.heap.size ≤ k_) ∧ some k_ ≠ (.slice Ao52 y536.length co52 : Value).ownBlock ∧ some k_ ≠ (.slice Ao53 y539.length co53 : Value).ownBlock ∧ k_ ≠ gb530 ∧ k_ ≠ gb531) ho1 (fun k_ hk_ => ⟨(Nat.le_trans (below_size (zh HB.out)) hk_), (Kd.fresh' (Kd.R_lt (zr HO538.out)) k_ hk_), (Kd.fresh' (Kd.R_lt (zr HO541.out)) k_ hk_), (Kd.freshB (g := gb530) (o := .cells #[.slice none 0 0, .slice none 0 0] 46 (0, 0)) (zb BK530.out) k_ hk_), (Kd.freshB (g := gb531) (o := .cells #[u532000, u532001] 46 (0, 0)) (zb BK531.out) k_ hk_)⟩)) (below_size (zh HB.out))); have n6_ := Aside0.mk (blk_below (g := gb530) (o := .cells #[.slice none 0 0, .slice none 0 0] 46 (0, 0)) (zb BK530.out) hb); have n7_ := Aside0.mk (blk_below (g := gb531) (o := .cells #[u532000, u532001] 46 (0, 0)) (zb BK531.out) hb); have n8_ := Aside0.mk (below_step (zh HB.out) hb); clear HO_532000; clear HO_532001; clear HO538; clear HO541; clear BK530; clear BK531; clear HB; have HO_532000 := n0_; have HO_532001 := n1_; have HO538 := n2_; have HO541 := n3_; have HO544 := n4_; have HO547 := n5_; have BK530 := n6_; have BK531 := n7_; have HB := n8_; clear n0_ n1_ n2_ n3_ n4_ n5_ n6_ n7_ n8_; (try clear hb); (try clear hb2); (try clear hk); (try clear hi); (try clear ho0); (try clear ho1)) | (go_at_call 92; (with_reducible refine (spec_deTradeBefore.calls kj35 _ _ t542 _ _ t545 _ _ x532000_5 _ _ x532001_5 true _ ?side1 ?side2 ?side3 ?side4 ?side5 ?side6 ?side7 ?side8 A46.out).mono ?_); (case side1 => refine (Kd.V_reads' (e := 71) (base := w.heap.size) (ok := fun k_ => (((w.heap.size ≤ k_) ∧ (some k_ ≠ (.slice Ao52 y536.length co52 : Value).ownBlock ∧ (some k_ ≠ (.slice Ao53 y539.length co53 : Value).ownBlock ∧ (k_ ≠ gb530 ∧ k_ ≠ gb531)))) ∧ k_ ≠ gb548)) (n := t542.length) (c := co56) ?_).2.2; exact (by (with_reducible repeat (first | apply Kd.V_alloc | apply Kd.V_drewN | apply Kd.V_drew)); exact (Kd.V_mono (Kd.V_far (p := ⟨gb548, 1, none⟩) (Kd.V_far (p := ⟨gb548, 0, none⟩) (Kd.V_mono HO544.out (fun k_ hk => (⟨hk, hk.2⟩ : _ ∧ k_ ≠ gb548))) (fun _ hk => hk.2) (.slice Ao56 t542.length co56)) (fun _ hk => hk.2) (.slice Ao60 t545.length co60)) (fun _ h_ => h_.1)))); (case side2 => exact (Kd.V_reads' HO544.out).2.1); (case side3 => refine (Kd.V_reads' (e := 71) (base := w.heap.size) (ok := fun k_ => (((w.heap.size ≤ k_) ∧ (some k_ ≠ (.slice Ao52 y536.length co52 : Value).ownBlock ∧ (some k_ ≠ (.slice Ao53 y539.length co53 : Value).ownBlock ∧ (k_ ≠ gb530 ∧ k_ ≠ gb531)))) ∧ k_ ≠ gb548)) (n := t545.length) (c := co60) ?_).2.2; exact (by (with_reducible repeat (first | apply Kd.V_alloc | apply Kd.V_drewN | apply Kd.V_drew)); exact (Kd.V_mono (Kd.V_far (p := ⟨gb548, 1, none⟩) (Kd.V_far (p := ⟨gb548, 0, none⟩) (Kd.V_mono HO547.out (fun k_ hk => (⟨hk, hk.2⟩ : _ ∧ k_ ≠ gb548))) (fun _ hk => hk.2) (.slice Ao56 t542.length co56)) (fun _ hk => hk.2) (.slice Ao60 t545.length co60)) (fun _ h_ => h_.1)))); (case side4 => exact (Kd.V_reads' HO547.out).2.1); (case side5 => refine (Kd.V_reads' (e := 71) (base := w.heap.size) (ok := fun k_ => (((((w.heap.size ≤ k_) ∧ (k_ ≠ gb530 ∧ k_ ≠ gb531)) ∧ some k_ ≠ (.slice Ao52 y536.length co52 : Value).ownBlock) ∧ some k_ ≠ (.slice Ao53 y539.length co53 : Value).ownBlock) ∧ k_ ≠ gb548)) (n := x532000_5.length) (c := co63) ?_).2.2; exact (by (with_reducible repeat (first | apply Kd.V_alloc | apply Kd.V_drewN | apply Kd.V_drew)); exact (Kd.V_mono (Kd.V_far (p := ⟨gb548, 1, none⟩) (Kd.V_far (p := ⟨gb548, 0, none⟩) (Kd.V_mono HO_532000.out (fun k_ hk => (⟨hk, hk.2⟩ : _ ∧ k_ ≠ gb548))) (fun _ hk => hk.2) (.slice Ao56 t542.length co56)) (fun _ hk => hk.2) (.slice Ao60 t545.length co60)) (fun _ h_ => h_.1)))); (case side6 => exact (Kd.V_reads' HO_532000.out).2.1); (case side7 => refine (Kd.V_reads' (e := 71) (base := w.heap.size) (ok := fun k_ => (((((w.heap.size ≤ k_) ∧ (k_ ≠ gb530 ∧ k_ ≠ gb531)) ∧ some k_ ≠ (.slice Ao52 y536.length co52 : Value).ownBlock) ∧ some k_ ≠ (.slice Ao53 y539.length co53 : Value).ownBlock) ∧ k_ ≠ gb548)) (n := x532001_5.length) (c := co64) ?_).2.2; exact (by (with_reducible repeat (first | apply Kd.V_alloc | apply Kd.V_drewN | apply Kd.V_drew)); exact (Kd.V_mono (Kd.V_far (p := ⟨gb548, 1, none⟩) (Kd.V_far (p := ⟨gb548, 0, none⟩) (Kd.V_mono HO_532001.out (fun k_ hk => (⟨hk, hk.2⟩ : _ ∧ k_ ≠ gb548))) (fun _ hk => hk.2) (.slice Ao56 t542.length co56)) (fun _ hk => hk.2) (.slice Ao60 t545.length co60)) (fun _ h_ => h_.1)))); (case side8 => exact (Kd.V_reads' HO_532001.out).2.1); rintro e w65 ⟨rfl, hb⟩; have n0_ := Aside0.mk (Kd.V_below (by (with_reducible repeat (first | apply Kd.V_alloc | apply Kd.V_drewN | apply Kd.V_drew)); exact (Kd.V_mono (Kd.V_far (p := ⟨gb548, 1, none⟩) (Kd.V_far (p := ⟨gb548, 0, none⟩) (Kd.V_mono HO_532000.out (fun k_ hk => (⟨hk, hk.2⟩ : _ ∧ k_ ≠ gb548))) (fun _ hk => hk.2) (.slice Ao56 t542.length co56)) (fun _ hk => hk.2) (.slice Ao60 t545.length co60)) (fun _ h_ => h_.1))) hb); have n1_ := Aside0.mk (Kd.V_below (by (with_reducible repeat (first | apply Kd.V_alloc | apply Kd.V_drewN | apply Kd.V_drew)); exact (Kd.V_mono (Kd.V_far (p := ⟨gb548, 1, none⟩) (Kd.V_far (p := ⟨gb548, 0, none⟩) (Kd.V_mono HO_532001.out (fun k_ hk => (⟨hk, hk.2⟩ : _ ∧ k_ ≠ gb548))) (fun _ hk => hk.2) (.slice Ao56 t542.length co56)) (fun _ hk => hk.2) (.slice Ao60 t545.length co60)) (fun _ h_ => h_.1))) hb); have n2_ := Aside0.mk (Kd.R_below (by (with_reducible repeat (first | apply Kd.R_alloc | apply Kd.R_drewN | apply Kd.R_drew)); exact (Kd.R_mono (Kd.R_far (p := ⟨gb548, 1, none⟩) (Kd.R_far (p := ⟨gb548, 0, none⟩) (Kd.R_types HO538.out BK548.out (by decide)) (fun _ hk => hk.2) (.slice Ao56 t542.length co56)) (fun _ hk => hk.2) (.slice Ao60 t545.length co60)) (fun _ h_ => h_.1))) hb); have n3_ := Aside0.mk (Kd.R_below (by (with_reducible repeat (first | apply Kd.R_alloc | apply Kd.R_drewN | apply Kd.R_drew)); exact (Kd.R_mono (Kd.R_far (p := ⟨gb548, 1, none⟩) (Kd.R_far (p := ⟨gb548, 0, none⟩) (Kd.R_types HO541.out BK548.out (by decide)) (fun _ hk => hk.2) (.slice Ao56 t542.length co56)) (fun _ hk => hk.2) (.slice Ao60 t545.length co60)) (fun _ h_ => h_.1))) hb); have n4_ := Aside0.mk (Kd.V_below (by (with_reducible repeat (first | apply Kd.V_alloc | apply Kd.V_drewN | apply Kd.V_drew)); exact (Kd.V_mono (Kd.V_far (p := ⟨gb548, 1, none⟩) (Kd.V_far (p := ⟨gb548, 0, none⟩) (Kd.V_mono HO544.out (fun k_ hk => (⟨hk, hk.2⟩ : _ ∧ k_ ≠ gb548))) (fun _ hk => hk.2) (.slice Ao56 t542.length co56)) (fun _ hk => hk.2) (.slice Ao60 t545.length co60)) (fun _ h_ => h_.1))) hb); have n5_ := Aside0.mk (Kd.V_below (by (with_reducible repeat (first | apply Kd.V_alloc | apply Kd.V_drewN | apply Kd.V_drew)); exact (Kd.V_mono (Kd.V_far (p := ⟨gb548, 1, none⟩) (Kd.V_far (p := ⟨gb548, 0, none⟩) (Kd.V_mono HO547.out (fun k_ hk => (⟨hk, hk.2⟩ : _ ∧ k_ ≠ gb548))) (fun _ hk => hk.2) (.slice Ao56 t542.length co56)) (fun _ hk => hk.2) (.slice Ao60 t545.length co60)) (fun _ h_ => h_.1))) hb); have n6_ := Aside0.mk (blk_below (g := gb530) (o := .cells #[.slice none 0 0, .slice none 0 0] 46 (0, 0)) (by (with_reducible repeat (first | refine blk_drewN ?_ _ | refine blk_drew ?_ | refine blk_alloc ?_ _)); refine blk_far ?_ NB530_548.out _; (with_reducible repeat (first | refine blk_drewN ?_ _ | refine blk_drew ?_ | refine blk_alloc ?_ _)); refine blk_far ?_ NB530_548.out _; (with_reducible repeat (first | refine blk_drewN ?_ _ | refine blk_drew ?_ | refine blk_alloc ?_ _)); exact BK530.out) hb); have n7_ := Aside0.mk (blk_below (g := gb531) (o := .cells #[.slice Ao63 x532000_5.length co63, .slice Ao64 x532001_5.length co64] 46 (0, 0)) (by (with_reducible repeat (first | refine blk_drewN ?_ _ | refine blk_drew ?_ | refine blk_alloc ?_ _)); refine blk_far ?_ NB531_548.out _; (with_reducible repeat (first | refine blk_drewN ?_ _ | refine blk_drew ?_ | refine blk_alloc ?_ _)); refine blk_far ?_ NB531_548.out _; (with_reducible repeat (first | refine blk_drewN ?_ _ | refine blk_drew ?_ | refine blk_alloc ?_ _)); exact BK531.out) hb); have n8_ := Aside0.mk (blk_below (g := gb548) (o := .cells #[.slice Ao56 t542.length co56, .slice Ao60 t545.length co60] 46 (0, 0)) (by (with_reducible repeat (first | refine blk_drewN ?_ _ | refine blk_drew ?_ | refine blk_alloc ?_ _)); refine blk_put (cs := #[.slice Ao56 t542.length co56, .slice none 0 0]) ?_ 1 _ rfl; (with_reducible repeat (first | refine blk_drewN ?_ _ | refine blk_drew ?_ | refine blk_alloc ?_ _)); refine blk_put (cs := #[.slice none 0 0, .slice none 0 0]) ?_ 0 _ rfl; (with_reducible repeat (first | refine blk_drewN ?_ _ | refine blk_drew ?_ | refine blk_alloc ?_ _)); exact BK548.out) hb); have n9_ := Aside0.mk (below_step (zh HB.out) hb); clear HO_532000; clear HO_532001; clear HO538; clear HO541; clear HO544; clear HO547; clear BK530; clear BK531; clear BK548; clear HB; have HO_532000 := n0_; have HO_532001 := n1_; have HO538 := n2_; have HO541 := n3_; have HO544 := n4_; have HO547 := n5_; have BK530 := n6_; have BK531 := n7_; have BK548 := n8_; have HB := n9_; clear n0_ n1_ n2_ n3_ n4_ n5_ n6_ n7_ n8_ n9_; (try clear hb); (try clear hb2); (try clear hk); (try clear hi); have hcz66_0 : w65.cell? ⟨gb548, 0, none⟩ = some (.slice Ao56 t542.length co56) := (blk_cell BK548.out 0).trans rfl; have hcz66_1 : w65.cell? ⟨gb548, 1, none⟩ = some (.slice Ao60 t545.length co60) := (blk_cell BK548.out 1).trans rfl; have hfz66_0 := blk_frozen BK548.out 0; have hfz66_1 := blk_frozen BK548.out 1; have hcz67_0 : w65.cell? ⟨gb531, 0, none⟩ = some (.slice Ao63 x532000_5.length co63) := (blk_cell BK531.out 0).trans rfl; have hcz67_1 : w65.cell? ⟨gb531, 1, none⟩ = some (.slice Ao64 x532001_5.length co64) := (blk_cell BK531.out 1).trans rfl; have hfz67_0 := blk_frozen BK531.out 0; have hfz67_1 := blk_frozen BK531.out 1)); try go_wp2_with (first | ((with_reducible refine gate_dst (N := 99) rfl ?_); refine Kd.R_lit (Kd.int .i64) _ 3 ?hg (N := 99) ?hd (xs := ([x18_1, x10_2] : List Int)) (inner := [.int .i64 x18_1, .int .i64 x10_2]) (ok := fun _ => True) (okp := fun _ => True) ?hr ?hp (fun _ hk => hk) trivial (Below.refl _ _) (Nat.le_refl _) (by simp) ?_; (case hd => rfl); (case hg => rfl); (case hr => first | (go_simp; done) | (go_simp; rfl)); (case hp => exact (Reps.one (show Kd.M (Kd.int .i64) _ _ _ x18_1 [.int .i64 x18_1] from rfl) (Reps.one (show Kd.M (Kd.int .i64) _ _ _ x10_2 [.int .i64 x10_2] from rfl) (Reps.none _ _)))); intro v537 w48 ho49 hb hg_ hnew_; clear hg_ hnew_; (first | rw [← Ny536.out] at ho49 | (simp only [Int.reduceToNat] at ho49; rw [← Ny536.out] at ho49)); have n0_ := Aside0.mk (Kd.V_elder' (by (with_reducible repeat (first | apply Kd.V_alloc | apply Kd.V_drewN | apply Kd.V_drew)); exact HO_532000.out) (Kd.R_base ho49) hb); have n1_ := Aside0.mk (Kd.V_elder' (by (with_reducible repeat (first | apply Kd.V_alloc | apply Kd.V_drewN | apply Kd.V_drew)); exact HO_532001.out) (Kd.R_base ho49) hb); have n2_ := Aside0.mk (Kd.R_lower (Kd.R_newM (M := fun k_ => (w.heap.size ≤ k_)) ho49 (below_size (zh HB.out)) (fun k_ h_ => h_)) (below_size (zh HB.out))); have n3_ := Aside0.mk (blk_below (g := gb530) (o := .cells #[.slice none 0 0, .slice none 0 0] 46 (0, 0)) (zb BK530.out) hb); have n4_ := Aside0.mk (blk_below (g := gb531) (o := .cells #[u532000, u532001] 46 (0, 0)) (zb BK531.out) hb); have n5_ := Aside0.mk (below_step (zh HB.out) hb); clear HO_532000; clear HO_532001; clear BK530; clear BK531; clear HB; have HO_532000 := n0_; have HO_532001 := n1_; have HO538 := n2_; have BK530 := n3_; have BK531 := n4_; have HB := n5_; clear n0_ n1_ n2_ n3_ n4_ n5_; clear hb ho49) | ((with_reducible refine gate_dst (N := 102) rfl ?_); refine Kd.R_lit (Kd.int .i64) _ 3 ?hg (N := 102) ?hd (xs := ([(Go.bits .xor .i64 (Go.bits .xor .i64 x18_1 (ji31)) (ji33)), (Go.bits .xor .i64 (Go.bits .xor .i64 x10_2 (ji31)) (ji33))] : List Int)) (inner := [.int .i64 (Go.bits .xor .i64 (Go.bits .xor .i64 x18_1 (ji31)) (ji33)), .int .i64 (Go.bits .xor .i64 (Go.bits .xor .i64 x10_2 (ji31)) (ji33))]) (ok := fun _ => True) (okp := fun _ => True) ?hr ?hp (fun _ hk => hk) trivial (Below.refl _ _) (Nat.le_refl _) (by simp) ?_; (case hd => rfl); (case hg => rfl); (case hr => first | (go_simp; done) | (go_simp; rfl)); (case hp => exact (Reps.one (show Kd.M (Kd.int .i64) _ _ _ (Go.bits .xor .i64 (Go.bits .xor .i64 x18_1 (ji31)) (ji33)) [.int .i64 (Go.bits .xor .i64 (Go.bits .xor .i64 x18_1 (ji31)) (ji33))] from rfl) (Reps.one (show Kd.M (Kd.int .i64) _ _ _ (Go.bits .xor .i64 (Go.bits .xor .i64 x10_2 (ji31)) (ji33)) [.int .i64 (Go.bits .xor .i64 (Go.bits .xor .i64 x10_2 (ji31)) (ji33))] from rfl) (Reps.none _ _)))); intro v540 w50 ho51 hb hg_ hnew_; clear hg_ hnew_; (first | rw [← Ny539.out] at ho51 | (simp only [Int.reduceToNat] at ho51; rw [← Ny539.out] at ho51)); have n0_ := Aside0.mk (Kd.V_elder' (by (with_reducible repeat (first | apply Kd.V_alloc | apply Kd.V_drewN | apply Kd.V_drew)); exact HO_532000.out) (Kd.R_base ho51) hb); have n1_ := Aside0.mk (Kd.V_elder' (by (with_reducible repeat (first | apply Kd.V_alloc | apply Kd.V_drewN | apply Kd.V_drew)); exact HO_532001.out) (Kd.R_base ho51) hb); have n2_ := Aside0.mk (Kd.R_elder' (zr HO538.out) (Kd.R_base ho51) hb); have n3_ := Aside0.mk (Kd.R_lower (Kd.R_new' (Kd.R_newM (M := fun k_ => (w.heap.size ≤ k_)) ho51 (below_size (zh HB.out)) (fun k_ h_ => h_)) (Kd.R_lt (zr HO538.out))) (below_size (zh HB.out))); have n4_ := Aside0.mk (blk_below (g := gb530) (o := .cells #[.slice none 0 0, .slice none 0 0] 46 (0, 0)) (zb BK530.out) hb); have n5_ := Aside0.mk (blk_below (g := gb531) (o := .cells #[u532000, u532001] 46 (0, 0)) (zb BK531.out) hb); have n6_ := Aside0.mk (below_step (zh HB.out) hb); clear HO_532000; clear HO_532001; clear HO538; clear BK530; clear BK531; clear HB; have HO_532000 := n0_; have HO_532001 := n1_; have HO538 := n2_; have HO541 := n3_; have BK530 := n4_; have BK531 := n5_; have HB := n6_; clear n0_ n1_ n2_ n3_ n4_ n5_ n6_; clear hb ho51; obtain ⟨Ao52, co52, eo52⟩ := Kd.R_slice HO538.out; subst eo52; obtain ⟨Ao53, co53, eo53⟩ := Kd.R_slice HO541.out; subst eo53) | (go_at_call 91; (with_reducible refine (spec_deTrade.calls kj35 _ _ y536 _ _ y539 t542 t545 _ ?side1 ?side2 ?side3 ?side4 A44.out).mono ?_); (case side1 => repeat (first | exact (Kd.R_reads' HO538.out).2.2 | (with_reducible refine Kd.C_alloc ?_ _) | (with_reducible refine Kd.C_drewN ?_ _) | (with_reducible refine Kd.C_drew ?_))); (case side2 => exact (Kd.R_reads' HO538.out).2.1); (case side3 => repeat (first | exact (Kd.R_reads' HO541.out).2.2 | (with_reducible refine Kd.C_alloc ?_ _) | (with_reducible refine Kd.C_drewN ?_ _) | (with_reducible refine Kd.C_drew ?_))); (case side4 => exact (Kd.R_reads' HO541.out).2.1); rintro e w54 ⟨v543, v546, rfl, ho0, ho1, hb⟩; have n0_ := Aside0.mk (Kd.V_below (by (with_reducible repeat (first | apply Kd.V_alloc | apply Kd.V_drewN | apply Kd.V_drew)); exact HO_532000.out) hb); have n1_ := Aside0.mk (Kd.V_below (by (with_reducible repeat (first | apply Kd.V_alloc | apply Kd.V_drewN | apply Kd.V_drew)); exact HO_532001.out) hb); have n2_ := Aside0.mk (Kd.R_below (zr HO538.out) hb); have n3_ := Aside0.mk (Kd.R_below (zr HO541.out) hb); have n4_ := Aside0.mk (Kd.V_lower (Kd.V_mono (ok' := fun k_ => (w.heap.size ≤ k_) ∧ some k_ ≠ (.slice Ao52 y536.length co52 : Value).ownBlock ∧ some k_ ≠ (.slice Ao53 y539.length co53 : Value).ownBlock ∧ k_ ≠ gb530 ∧ k_ ≠ gb531) ho0 (fun k_ hk_ => ⟨(Nat.le_trans (below_size (zh HB.out)) hk_), (Kd.fresh' (Kd.R_lt (zr HO538.out)) k_ hk_), (Kd.fresh' (Kd.R_lt (zr HO541.out)) k_ hk_), (Kd.freshB (g := gb530) (o := .cells #[.slice none 0 0, .slice none 0 0] 46 (0, 0)) (zb BK530.out) k_ hk_), (Kd.freshB (g := gb531) (o := .cells #[u532000, u532001] 46 (0, 0)) (zb BK531.out) k_ hk_)⟩)) (below_size (zh HB.out))); have n5_ := Aside0.mk (Kd.V_lower (Kd.V_mono (ok' := fun k_ => (w.heap.size ≤ k_) ∧ some k_ ≠ (.slice Ao52 y536.length co52 : Value).ownBlock ∧ some k_ ≠ (.slice Ao53 y539.length co53 : Value).ownBlock ∧ k_ ≠ gb530 ∧ k_ ≠ gb531) ho1 (fun k_ hk_ => ⟨(Nat.le_trans (below_size (zh HB.out)) hk_), (Kd.fresh' (Kd.R_lt (zr HO538.out)) k_ hk_), (Kd.fresh' (Kd.R_lt (zr HO541.out)) k_ hk_), (Kd.freshB (g := gb530) (o := .cells #[.slice none 0 0, .slice none 0 0] 46 (0, 0)) (zb BK530.out) k_ hk_), (Kd.freshB (g := gb531) (o := .cells #[u532000, u532001] 46 (0, 0)) (zb BK531.out) k_ hk_)⟩)) (below_size (zh HB.out))); have n6_ := Aside0.mk (blk_below (g := gb530) (o := .cells #[.slice none 0 0, .slice none 0 0] 46 (0, 0)) (zb BK530.out) hb); have n7_ := Aside0.mk (blk_below (g := gb531) (o := .cells #[u532000, u532001] 46 (0, 0)) (zb BK531.out) hb); have n8_ := Aside0.mk (below_step (zh HB.out) hb); clear HO_532000; clear HO_532001; clear HO538; clear HO541; clear BK530; clear BK531; clear HB; have HO_532000 := n0_; have HO_532001 := n1_; have HO538 := n2_; have HO541 := n3_; have HO544 := n4_; have HO547 := n5_; have BK530 := n6_; have BK531 := n7_; have HB := n8_; clear n0_ n1_ n2_ n3_ n4_ n5_ n6_ n7_ n8_; (try clear hb); (try clear hb2); (try clear hk); (try clear hi); (try clear ho0); (try clear ho1)) | (go_at_call 92; (with_reducible refine (spec_deTradeBefore.calls kj35 _ _ t542 _ _ t545 _ _ x532000_5 _ _ x532001_5 true _ ?side1 ?side2 ?side3 ?side4 ?side5 ?side6 ?side7 ?side8 A46.out).mono ?_); (case side1 => refine (Kd.V_reads' (e := 71) (base := w.heap.size) (ok := fun k_ => (((w.heap.size ≤ k_) ∧ (some k_ ≠ (.slice Ao52 y536.length co52 : Value).ownBlock ∧ (some k_ ≠ (.slice Ao53 y539.length co53 : Value).ownBlock ∧ (k_ ≠ gb530 ∧ k_ ≠ gb531)))) ∧ k_ ≠ gb548)) (n := t542.length) (c := co56) ?_).2.2; exact (by (with_reducible repeat (first | apply Kd.V_alloc | apply Kd.V_drewN | apply Kd.V_drew)); exact (Kd.V_mono (Kd.V_far (p := ⟨gb548, 1, none⟩) (Kd.V_far (p := ⟨gb548, 0, none⟩) (Kd.V_mono HO544.out (fun k_ hk => (⟨hk, hk.2⟩ : _ ∧ k_ ≠ gb548))) (fun _ hk => hk.2) (.slice Ao56 t542.length co56)) (fun _ hk => hk.2) (.slice Ao60 t545.length co60)) (fun _ h_ => h_.1)))); (case side2 => exact (Kd.V_reads' HO544.out).2.1); (case side3 => refine (Kd.V_reads' (e := 71) (base := w.heap.size) (ok := fun k_ => (((w.heap.size ≤ k_) ∧ (some k_ ≠ (.slice Ao52 y536.length co52 : Value).ownBlock ∧ (some k_ ≠ (.slice Ao53 y539.length co53 : Value).ownBlock ∧ (k_ ≠ gb530 ∧ k_ ≠ gb531)))) ∧ k_ ≠ gb548)) (n := t545.length) (c := co60) ?_).2.2; exact (by (with_reducible repeat (first | apply Kd.V_alloc | apply Kd.V_drewN | apply Kd.V_drew)); exact (Kd.V_mono (Kd.V_far (p := ⟨gb548, 1, none⟩) (Kd.V_far (p := ⟨gb548, 0, none⟩) (Kd.V_mono HO547.out (fun k_ hk => (⟨hk, hk.2⟩ : _ ∧ k_ ≠ gb548))) (fun _ hk => hk.2) (.slice Ao56 t542.length co56)) (fun _ hk => hk.2) (.slice Ao60 t545.length co60)) (fun _ h_ => h_.1)))); (case side4 => exact (Kd.V_reads' HO547.out).2.1); (case side5 => refine (Kd.V_reads' (e := 71) (base := w.heap.size) (ok := fun k_ => (((((w.heap.size ≤ k_) ∧ (k_ ≠ gb530 ∧ k_ ≠ gb531)) ∧ some k_ ≠ (.slice Ao52 y536.length co52 : Value).ownBlock) ∧ some k_ ≠ (.slice Ao53 y539.length co53 : Value).ownBlock) ∧ k_ ≠ gb548)) (n := x532000_5.length) (c := co63) ?_).2.2; exact (by (with_reducible repeat (first | apply Kd.V_alloc | apply Kd.V_drewN | apply Kd.V_drew)); exact (Kd.V_mono (Kd.V_far (p := ⟨gb548, 1, none⟩) (Kd.V_far (p := ⟨gb548, 0, none⟩) (Kd.V_mono HO_532000.out (fun k_ hk => (⟨hk, hk.2⟩ : _ ∧ k_ ≠ gb548))) (fun _ hk => hk.2) (.slice Ao56 t542.length co56)) (fun _ hk => hk.2) (.slice Ao60 t545.length co60)) (fun _ h_ => h_.1)))); (case side6 => exact (Kd.V_reads' HO_532000.out).2.1); (case side7 => refine (Kd.V_reads' (e := 71) (base := w.heap.size) (ok := fun k_ => (((((w.heap.size ≤ k_) ∧ (k_ ≠ gb530 ∧ k_ ≠ gb531)) ∧ some k_ ≠ (.slice Ao52 y536.length co52 : Value).ownBlock) ∧ some k_ ≠ (.slice Ao53 y539.length co53 : Value).ownBlock) ∧ k_ ≠ gb548)) (n := x532001_5.length) (c := co64) ?_).2.2; exact (by (with_reducible repeat (first | apply Kd.V_alloc | apply Kd.V_drewN | apply Kd.V_drew)); exact (Kd.V_mono (Kd.V_far (p := ⟨gb548, 1, none⟩) (Kd.V_far (p := ⟨gb548, 0, none⟩) (Kd.V_mono HO_532001.out (fun k_ hk => (⟨hk, hk.2⟩ : _ ∧ k_ ≠ gb548))) (fun _ hk => hk.2) (.slice Ao56 t542.length co56)) (fun _ hk => hk.2) (.slice Ao60 t545.length co60)) (fun _ h_ => h_.1)))); (case side8 => exact (Kd.V_reads' HO_532001.out).2.1); rintro e w65 ⟨rfl, hb⟩; have n0_ := Aside0.mk (Kd.V_below (by (with_reducible repeat (first | apply Kd.V_alloc | apply Kd.V_drewN | apply Kd.V_drew)); exact (Kd.V_mono (Kd.V_far (p := ⟨gb548, 1, none⟩) (Kd.V_far (p := ⟨gb548, 0, none⟩) (Kd.V_mono HO_532000.out (fun k_ hk => (⟨hk, hk.2⟩ : _ ∧ k_ ≠ gb548))) (fun _ hk => hk.2) (.slice Ao56 t542.length co56)) (fun _ hk => hk.2) (.slice Ao60 t545.length co60)) (fun _ h_ => h_.1))) hb); have n1_ := Aside0.mk (Kd.V_below (by (with_reducible repeat (first | apply Kd.V_alloc | apply Kd.V_drewN | apply Kd.V_drew)); exact (Kd.V_mono (Kd.V_far (p := ⟨gb548, 1, none⟩) (Kd.V_far (p := ⟨gb548, 0, none⟩) (Kd.V_mono HO_532001.out (fun k_ hk => (⟨hk, hk.2⟩ : _ ∧ k_ ≠ gb548))) (fun _ hk => hk.2) (.slice Ao56 t542.length co56)) (fun _ hk => hk.2) (.slice Ao60 t545.length co60)) (fun _ h_ => h_.1))) hb); have n2_ := Aside0.mk (Kd.R_below (by (with_reducible repeat (first | apply Kd.R_alloc | apply Kd.R_drewN | apply Kd.R_drew)); exact (Kd.R_mono (Kd.R_far (p := ⟨gb548, 1, none⟩) (Kd.R_far (p := ⟨gb548, 0, none⟩) (Kd.R_types HO538.out BK548.out (by decide)) (fun _ hk => hk.2) (.slice Ao56 t542.length co56)) (fun _ hk => hk.2) (.slice Ao60 t545.length co60)) (fun _ h_ => h_.1))) hb); have n3_ := Aside0.mk (Kd.R_below (by (with_reducible repeat (first | apply Kd.R_alloc | apply Kd.R_drewN | apply Kd.R_drew)); exact (Kd.R_mono (Kd.R_far (p := ⟨gb548, 1, none⟩) (Kd.R_far (p := ⟨gb548, 0, none⟩) (Kd.R_types HO541.out BK548.out (by decide)) (fun _ hk => hk.2) (.slice Ao56 t542.length co56)) (fun _ hk => hk.2) (.slice Ao60 t545.length co60)) (fun _ h_ => h_.1))) hb); have n4_ := Aside0.mk (Kd.V_below (by (with_reducible repeat (first | apply Kd.V_alloc | apply Kd.V_drewN | apply Kd.V_drew)); exact (Kd.V_mono (Kd.V_far (p := ⟨gb548, 1, none⟩) (Kd.V_far (p := ⟨gb548, 0, none⟩) (Kd.V_mono HO544.out (fun k_ hk => (⟨hk, hk.2⟩ : _ ∧ k_ ≠ gb548))) (fun _ hk => hk.2) (.slice Ao56 t542.length co56)) (fun _ hk => hk.2) (.slice Ao60 t545.length co60)) (fun _ h_ => h_.1))) hb); have n5_ := Aside0.mk (Kd.V_below (by (with_reducible repeat (first | apply Kd.V_alloc | apply Kd.V_drewN | apply Kd.V_drew)); exact (Kd.V_mono (Kd.V_far (p := ⟨gb548, 1, none⟩) (Kd.V_far (p := ⟨gb548, 0, none⟩) (Kd.V_mono HO547.out (fun k_ hk => (⟨hk, hk.2⟩ : _ ∧ k_ ≠ gb548))) (fun _ hk => hk.2) (.slice Ao56 t542.length co56)) (fun _ hk => hk.2) (.slice Ao60 t545.length co60)) (fun _ h_ => h_.1))) hb); have n6_ := Aside0.mk (blk_below (g := gb530) (o := .cells #[.slice none 0 0, .slice none 0 0] 46 (0, 0)) (by (with_reducible repeat (first | refine blk_drewN ?_ _ | refine blk_drew ?_ | refine blk_alloc ?_ _)); refine blk_far ?_ NB530_548.out _; (with_reducible repeat (first | refine blk_drewN ?_ _ | refine blk_drew ?_ | refine blk_alloc ?_ _)); refine blk_far ?_ NB530_548.out _; (with_reducible repeat (first | refine blk_drewN ?_ _ | refine blk_drew ?_ | refine blk_alloc ?_ _)); exact BK530.out) hb); have n7_ := Aside0.mk (blk_below (g := gb531) (o := .cells #[.slice Ao63 x532000_5.length co63, .slice Ao64 x532001_5.length co64] 46 (0, 0)) (by (with_reducible repeat (first | refine blk_drewN ?_ _ | refine blk_drew ?_ | refine blk_alloc ?_ _)); refine blk_far ?_ NB531_548.out _; (with_reducible repeat (first | refine blk_drewN ?_ _ | refine blk_drew ?_ | refine blk_alloc ?_ _)); refine blk_far ?_ NB531_548.out _; (with_reducible repeat (first | refine blk_drewN ?_ _ | refine blk_drew ?_ | refine blk_alloc ?_ _)); exact BK531.out) hb); have n8_ := Aside0.mk (blk_below (g := gb548) (o := .cells #[.slice Ao56 t542.length co56, .slice Ao60 t545.length co60] 46 (0, 0)) (by (with_reducible repeat (first | refine blk_drewN ?_ _ | refine blk_drew ?_ | refine blk_alloc ?_ _)); refine blk_put (cs := #[.slice Ao56 t542.length co56, .slice none 0 0]) ?_ 1 _ rfl; (with_reducible repeat (first | refine blk_drewN ?_ _ | refine blk_drew ?_ | refine blk_alloc ?_ _)); refine blk_put (cs := #[.slice none 0 0, .slice none 0 0]) ?_ 0 _ rfl; (with_reducible repeat (first | refine blk_drewN ?_ _ | refine blk_drew ?_ | refine blk_alloc ?_ _)); exact BK548.out) hb); have n9_ := Aside0.mk (below_step (zh HB.out) hb); clear HO_532000; clear HO_532001; clear HO538; clear HO541; clear HO544; clear HO547; clear BK530; clear BK531; clear BK548; clear HB; have HO_532000 := n0_; have HO_532001 := n1_; have HO538 := n2_; have HO541 := n3_; have HO544 := n4_; have HO547 := n5_; have BK530 := n6_; have BK531 := n7_; have BK548 := n8_; have HB := n9_; clear n0_ n1_ n2_ n3_ n4_ n5_ n6_ n7_ n8_ n9_; (try clear hb); (try clear hb2); (try clear hk); (try clear hi); have hcz66_0 : w65.cell? ⟨gb548, 0, none⟩ = some (.slice Ao56 t542.length co56) := (blk_cell BK548.out 0).trans rfl; have hcz66_1 : w65.cell? ⟨gb548, 1, none⟩ = some (.slice Ao60 t545.length co60) := (blk_cell BK548.out 1).trans rfl; have hfz66_0 := blk_frozen BK548.out 0; have hfz66_1 := blk_frozen BK548.out 1; have hcz67_0 : w65.cell? ⟨gb531, 0, none⟩ = some (.slice Ao63 x532000_5.length co63) := (blk_cell BK531.out 0).trans rfl; have hcz67_1 : w65.cell? ⟨gb531, 1, none⟩ = some (.slice Ao64 x532001_5.length co64) := (blk_cell BK531.out 1).trans rfl; have hfz67_0 := blk_frozen BK531.out 0; have hfz67_1 := blk_frozen BK531.out 1)))
               go_roundg kj35
               case measure => have := HK1.out; have := HK2.out; have := HJ8.out; have := HK4.out; have := HK5.out; have := HJ16.out; have := HJ35.out; omega
               case rel => exact ⟨(true), (wrap64 (x12_5 + 1)), (t542), (t545), (.slice Ao56 t542.length co56), (.slice Ao60 t545.length co60), (by first | rfl | (simp; done) | (simp [*]; done)), (by first | rfl | (simp; done) | (simp [*]; done)), H', ⟨by have := HK1.out; have := HK2.out; have := HJ8.out; have := HK4.out; have := HK5.out; have := HJ16.out; have := HJ35.out; omega⟩, ⟨by (with_reducible repeat (first | apply Kd.V_alloc | apply Kd.V_drewN | apply Kd.V_drew)); exact Kd.V_mono (Kd.V_far (p := ⟨gb531, 1, none⟩) (Kd.V_far (p := ⟨gb531, 0, none⟩) (Kd.V_mono HO544.out (fun k_ hk => (⟨hk, hk.1.2.2.2.2⟩ : _ ∧ k_ ≠ gb531))) (fun _ hk => hk.2) (.slice Ao56 t542.length co56)) (fun _ hk => hk.2) (.slice Ao60 t545.length co60)) (fun _ hk => ⟨hk.1.1.1, ⟨hk.1.1.2.2.2.1, hk.1.1.2.2.2.2⟩⟩)⟩, ⟨by (with_reducible repeat (first | apply Kd.V_alloc | apply Kd.V_drewN | apply Kd.V_drew)); exact Kd.V_mono (Kd.V_far (p := ⟨gb531, 1, none⟩) (Kd.V_far (p := ⟨gb531, 0, none⟩) (Kd.V_mono HO547.out (fun k_ hk => (⟨hk, hk.1.2.2.2.2⟩ : _ ∧ k_ ≠ gb531))) (fun _ hk => hk.2) (.slice Ao56 t542.length co56)) (fun _ hk => hk.2) (.slice Ao60 t545.length co60)) (fun _ hk => ⟨hk.1.1.1, ⟨hk.1.1.2.2.2.1, hk.1.1.2.2.2.2⟩⟩)⟩, ⟨by (with_reducible repeat (first | refine blk_drewN ?_ _ | refine blk_drew ?_ | refine blk_alloc ?_ _)); refine blk_far ?_ NB530_531.out _; (with_reducible repeat (first | refine blk_drewN ?_ _ | refine blk_drew ?_ | refine blk_alloc ?_ _)); refine blk_far ?_ NB530_531.out _; (with_reducible repeat (first | refine blk_drewN ?_ _ | refine blk_drew ?_ | refine blk_alloc ?_ _)); exact BK530.out⟩, ⟨by (with_reducible repeat (first | refine blk_drewN ?_ _ | refine blk_drew ?_ | refine blk_alloc ?_ _)); refine blk_put (cs := #[.slice Ao56 t542.length co56, .slice Ao64 x532001_5.length co64]) ?_ 1 _ rfl; (with_reducible repeat (first | refine blk_drewN ?_ _ | refine blk_drew ?_ | refine blk_alloc ?_ _)); refine blk_put (cs := #[.slice Ao63 x532000_5.length co63, .slice Ao64 x532001_5.length co64]) ?_ 0 _ rfl; (with_reducible repeat (first | refine blk_drewN ?_ _ | refine blk_drew ?_ | refine blk_alloc ?_ _)); exact BK531.out⟩, ⟨zh HB.out⟩⟩
def spec_StandsSwaps.j0 : Nat → Bool → Int → List (List Int) → Option (Bool × Bool)
 | 0, _, _, _ => none
 | k + 1, x13, x551000, x551001 => if x13 = true then (some (false, false)) else ((spec_gmAll.f k x551000 x551001).bind fun t552 => ((spec_deSwap.f k t552 x551000).bind fun bt555 => (some (!bt555.2.2, true))))
def spec_StandsSwaps.f (k : Nat) (a0_0 : Int) (l0_1 : List (List Int)) : Option (Bool × Bool) := (spec_gmGood.f k a0_0 l0_1).bind fun t551 => (if t551 = true then (spec_StandsSwaps.j0 k (decide (a0_0 > 6)) a0_0 l0_1) else (spec_StandsSwaps.j0 k true a0_0 l0_1))
def spec_StandsSwaps.T3 : Bool × List (List Nat × List Nat) := (true, [([], []), ([0], [0]), ([], []), ([2], [2]), ([1, 3, 1], [1, 3]), ([4], [4]), ([5], [5]), ([5], [5]), ([], []), ([8, 6, 4, 0, 1, 2, 3, 4, 5, 6, 8], [6, 8]), ([7, 9, 0, 1, 2, 3, 4, 5, 6, 7, 8, 9], [7])])
def spec_StandsSwaps.B3 : List Nat := [0, 1, 0, 4, 15, 31, 63, 63, 0, 383, 1023]
theorem spec_StandsSwaps.tab3 : rtab .any (opsOf Try.f25 3) = spec_StandsSwaps.T3 := by kernel_rfl
theorem spec_StandsSwaps.bits3 : waitsOk spec_StandsSwaps.T3.2 spec_StandsSwaps.B3 = true := by kernel_rfl
set_option maxHeartbeats 8000000 in
set_option maxRecDepth 100000 in
theorem spec_StandsSwaps.calls (k : Nat) (a0_0 : Int) (A0_1 : Option Addr) (c0_1 : Nat) (l0_1 : List (List Int)) (r1 : Bool) (r2 : Bool) (w : World) (hr0_1 : Kd.C (Kd.slice 3 (Kd.int .i64)) w A0_1 l0_1.length l0_1) (hc0_1 : l0_1.length ≤ c0_1) (h : spec_StandsSwaps.f k a0_0 l0_1 = some (r1, r2)) :
  Calls Try.prog 25 #[.agg #[.int .i64 a0_0, .slice A0_1 l0_1.length c0_1]] w fun e w' => e = .returned (.tuple #[.bool r1, .bool r2]) ∧ Below w.heap.size w w' := by
 have hu31 := Try.underlying31
 have hu46 := Try.underlying46
 have HR0_1 := Aside0.mk hr0_1
 have HC0_1 := Aside0.mk hc0_1
 clear hr0_1 hc0_1
 have HB := Aside0.mk (Below.refl w.heap.size w)
 have H : ((spec_gmGood.f k a0_0 l0_1).bind fun t551 => (if t551 = true then (spec_StandsSwaps.j0 k (decide (a0_0 > 6)) a0_0 l0_1) else (spec_StandsSwaps.j0 k true a0_0 l0_1))) = some (r1, r2) := h
 clear h
 have HC2 := Aside0.mk H
 clear H
 go_enter Try.func25, Try.ntmps25
 go_upto_region 1 with (first | ((with_reducible refine gate_dst (N := 1) rfl ?_); refine box_event ?hg (N := 1) ?hd (cs := #[.int .i64 a0_0, .slice A0_1 l0_1.length c0_1]) (t := 31) ?hr ?_; (case hd => rfl); (case hg => rfl); (case hr => first | (go_simp; done) | (go_simp; rfl)); intro gb550 hg w3 hbox hb; have n2_ := Aside0.mk ((by rw [hg]; exact (below_size (zh HB.out)) : w.heap.size ≤ gb550)); replace HB := Aside0.mk (below_step (zh HB.out) hb); have BK550 := Aside0.mk hbox; have GW550 := n2_; have GE550 := n2_; clear n2_ hb hbox hg))
 (try simp only [Act.put, List.setIfInBounds_toArray, List.set_cons_zero, List.set_cons_succ])
 go_cut [13] (fun v13 wc => ∃ (kq : Nat) (x13_1 : Bool), v13 = .bool x13_1 ∧ Aside0 (spec_StandsSwaps.j0 kq x13_1 a0_0 l0_1 = some (r1, r2)) ∧ Aside0 (kq ≤ k) ∧ Aside0 (wc.heap[gb550]? = some (.cells #[.int .i64 a0_0, (.slice A0_1 l0_1.length c0_1)] 31 (0, 0))) ∧ Aside0 (Below w.heap.size w wc))
 case first =>
  have H := HC2.out
  clear HC2
  replace H := Option.bind_eq_some_iff.mp H
  obtain ⟨t551, A40, H⟩ := H
  replace H : (if t551 = true then (spec_StandsSwaps.j0 k (decide (a0_0 > 6)) a0_0 l0_1) else (spec_StandsSwaps.j0 k true a0_0 l0_1)) = some (r1, r2) := H
  have A4 := Aside0.mk A40
  clear A40
  by_cases c5 : t551 = true
  ·subst c5
   have H1 : (spec_StandsSwaps.j0 k (decide (a0_0 > 6)) a0_0 l0_1) = some (r1, r2) := by rw [if_pos rfl] at H; exact H
   clear H
   have H := H1
   clear H1
   have H' := Aside0.mk H
   clear H
   have hcz6_0 : w3.cell? ⟨gb550, 0, none⟩ = some (.int .i64 a0_0) := (blk_cell BK550.out 0).trans rfl
   have hcz6_1 : w3.cell? ⟨gb550, 1, none⟩ = some (.slice A0_1 l0_1.length c0_1) := (blk_cell BK550.out 1).trans rfl
   have hfz6_0 := blk_frozen BK550.out 0
   have hfz6_1 := blk_frozen BK550.out 1
   go_wp2_with (first | ((with_reducible refine gate_callee (f := 50) rfl ?_); refine goesL_ (some 7) rfl rfl Try.func50 (by kernel_rfl) rfl #[.agg #[.int .i64 a0_0, .slice A0_1 l0_1.length c0_1]] rfl (by (try simp only [List.map_toArray, List.map_cons, List.map_nil]); first | done | rfl | (simp only [List.length_drop, List.length_take]; rfl)) ?_; (with_reducible refine (spec_gmGood.calls k a0_0 _ _ l0_1 true _ ?side1 ?side2 A4.out).mono ?_); (case side1 => repeat (first | exact (Kd.C_below HR0_1.out HB.out) | (with_reducible refine Kd.C_alloc ?_ _) | (with_reducible refine Kd.C_drewN ?_ _) | (with_reducible refine Kd.C_drew ?_))); (case side2 => exact HC0_1.out); rintro e w7 ⟨rfl, hb⟩; refine ⟨_, rfl, ?_⟩; have n0_ := Aside0.mk (blk_below (g := gb550) (o := .cells #[.int .i64 a0_0, .slice A0_1 l0_1.length c0_1] 31 (0, 0)) (zb BK550.out) hb); have n1_ := Aside0.mk (below_step (zh HB.out) hb); clear BK550; clear HB; have BK550 := n0_; have HB := n1_; clear n0_ n1_; (try clear hb); (try clear hb2); (try clear hk); (try clear hi); have hcz8_0 : w7.cell? ⟨gb550, 0, none⟩ = some (.int .i64 a0_0) := (blk_cell BK550.out 0).trans rfl; have hcz8_1 : w7.cell? ⟨gb550, 1, none⟩ = some (.slice A0_1 l0_1.length c0_1) := (blk_cell BK550.out 1).trans rfl; have hfz8_0 := blk_frozen BK550.out 0; have hfz8_1 := blk_frozen BK550.out 1))
   go_meet
   case rel => exact ⟨_, (decide (a0_0 > 6)), (by first | rfl | (simp; done) | (simp [*]; done)), H', ⟨by first | omega | exact Nat.le_refl _⟩, ⟨zb BK550.out⟩, ⟨zh HB.out⟩⟩
  ·replace c5 := Bool.eq_false_iff.mpr c5
   subst c5
   have H1 : (spec_StandsSwaps.j0 k true a0_0 l0_1) = some (r1, r2) := by rw [if_neg (show ¬ (false = true) by decide)] at H; exact H
   clear H
   have H := H1
   clear H1
   have H' := Aside0.mk H
   clear H
   have hcz9_0 : w3.cell? ⟨gb550, 0, none⟩ = some (.int .i64 a0_0) := (blk_cell BK550.out 0).trans rfl
   have hcz9_1 : w3.cell? ⟨gb550, 1, none⟩ = some (.slice A0_1 l0_1.length c0_1) := (blk_cell BK550.out 1).trans rfl
   have hfz9_0 := blk_frozen BK550.out 0
   have hfz9_1 := blk_frozen BK550.out 1
   go_wp2_with (first | ((with_reducible refine gate_callee (f := 50) rfl ?_); refine goesL_ (some 7) rfl rfl Try.func50 (by kernel_rfl) rfl #[.agg #[.int .i64 a0_0, .slice A0_1 l0_1.length c0_1]] rfl (by (try simp only [List.map_toArray, List.map_cons, List.map_nil]); first | done | rfl | (simp only [List.length_drop, List.length_take]; rfl)) ?_; (with_reducible refine (spec_gmGood.calls k a0_0 _ _ l0_1 false _ ?side1 ?side2 A4.out).mono ?_); (case side1 => repeat (first | exact (Kd.C_below HR0_1.out HB.out) | (with_reducible refine Kd.C_alloc ?_ _) | (with_reducible refine Kd.C_drewN ?_ _) | (with_reducible refine Kd.C_drew ?_))); (case side2 => exact HC0_1.out); rintro e w10 ⟨rfl, hb⟩; refine ⟨_, rfl, ?_⟩; have n0_ := Aside0.mk (blk_below (g := gb550) (o := .cells #[.int .i64 a0_0, .slice A0_1 l0_1.length c0_1] 31 (0, 0)) (zb BK550.out) hb); have n1_ := Aside0.mk (below_step (zh HB.out) hb); clear BK550; clear HB; have BK550 := n0_; have HB := n1_; clear n0_ n1_; (try clear hb); (try clear hb2); (try clear hk); (try clear hi)))
   go_meet
   case rel => exact ⟨_, (true), (by first | rfl | (simp; done) | (simp [*]; done)), H', ⟨by first | omega | exact Nat.le_refl _⟩, ⟨zb BK550.out⟩, ⟨zh HB.out⟩⟩
 case rest =>
  clear HC2
  try clear c2
  try clear p2
  try clear c5
  try clear hcz6_0
  try clear hcz6_1
  try clear hcz8_0
  try clear hcz8_1
  try clear hcz9_0
  try clear hcz9_1
  try clear hfz6_0
  try clear hfz6_1
  try clear hfz8_0
  try clear hfz8_1
  try clear hfz9_0
  try clear hfz9_1
  obtain ⟨kq, x13_1, rfl, HA, HJ1, BK550, HB⟩ := hcut
  cases kq with
  | zero => exact absurd HA.out (by simp [spec_StandsSwaps.j0])
  | succ kj1 =>
   have H := HA.out
   clear HA
   simp only [spec_StandsSwaps.j0] at H
   by_cases c11 : x13_1 = true
   ·subst c11
    have H1 : (some (false, false)) = some (r1, r2) := by rw [if_pos rfl] at H; exact H
    clear H
    have H := H1
    clear H1
    simp only [Option.some.injEq, Prod.mk.injEq] at H
    obtain ⟨rfl, rfl⟩ := H
    go_wp2
    go_ret2
    exact ⟨by first | rfl | (simp [*, errW_none, errW_some] <;> rfl), zh HB.out⟩
   replace c11 := Bool.eq_false_iff.mpr c11
   subst c11
   have H1 : ((spec_gmAll.f kj1 a0_0 l0_1).bind fun t552 => ((spec_deSwap.f kj1 t552 a0_0).bind fun bt555 => (some (!bt555.2.2, true)))) = some (r1, r2) := by rw [if_neg (show ¬ (false = true) by decide)] at H; exact H
   clear H
   have H := H1
   clear H1
   replace H := Option.bind_eq_some_iff.mp H
   obtain ⟨t552, A120, H⟩ := H
   replace H : ((spec_deSwap.f kj1 t552 a0_0).bind fun bt555 => (some (!bt555.2.2, true))) = some (r1, r2) := H
   have A12 := Aside0.mk A120
   clear A120
   replace H := Option.bind_eq_some_iff.mp H
   obtain ⟨⟨t555, t558, t561⟩, A130, H⟩ := H
   replace H : (some (!t561, true)) = some (r1, r2) := H
   have A13 := Aside0.mk A130
   clear A130
   simp only [Option.some.injEq, Prod.mk.injEq] at H
   obtain ⟨rfl, rfl⟩ := H
   try go_wp2
   have n0_ := Aside0.mk (blk_drew BK550.out)
   have n1_ := Aside0.mk (below_drew1 HB.out)
   clear BK550
   clear HB
   have BK550 := n0_
   have HB := n1_
   clear n0_ n1_
   refine start_ (n := 11) (S := fun w' => w'.cell? ⟨gb550, 0, none⟩ = some (.int .i64 a0_0) ∧ w'.cell? ⟨gb550, 1, none⟩ = some (.slice A0_1 l0_1.length c0_1)) (ds := []) (tb 11 0) (by kernel_rfl) rfl rfl ⟨(blk_cell BK550.out 0).trans rfl, (blk_cell BK550.out 1).trans rfl⟩ (fun hHeld => ?_); refine with_tabW spec_StandsSwaps.tab3 spec_StandsSwaps.bits3 (fun HT_ HW_ => ?_)
   generalize wc.drew = w14 at BK550 HB hHeld ⊢
   refine zu (i := 2) (N := some 17) (tb 11 4) rfl rfl HT_ ?_
   refine take_ (i := 0) (N := some 15) (v := ?_) (a' := ?_) (tb 11 5) rfl rfl (take_ofW HT_.out HW_.out (by kernel_rfl)) (fun _ _ _ h => h) (Or.inl ⟨by rfl, ?_⟩) hHeld ?_ ?_
   rotate_left
   ·rintro w' ⟨s0, s1⟩
    go_simp
    with_reducible rfl
   rotate_left
   ·simp only [Act.put, List.setIfInBounds_toArray, List.set_cons_zero, List.set_cons_succ, i64_w, i32_w]
    rfl
   refine take_ (i := 3) (N := some 18) (v := ?_) (a' := ?_) (tb 11 13) rfl rfl (take_ofW HT_.out HW_.out (by kernel_rfl)) (fun _ _ _ h => h) (Or.inl ⟨by rfl, ?_⟩) hHeld ?_ ?_
   rotate_left
   ·rintro w' ⟨s0, s1⟩
    go_simp
    with_reducible rfl
   rotate_left
   ·simp only [Act.put, List.setIfInBounds_toArray, List.set_cons_zero, List.set_cons_succ, i64_w, i32_w]
    rfl
   refine join_ (σ := Value × Value × Value × Nat) 2 (tb 11 511) (fun s_ => [(16, s_.1), (19, .tuple #[.agg #[s_.2.1, s_.2.2.1], .bool t561]), (4, .pointer (some ⟨s_.2.2.2, 0, none⟩)), (14, .tuple #[.agg #[s_.2.1, s_.2.2.1], .bool t561]), (20, .agg #[s_.2.1, s_.2.2.1]), (21, .bool t561)]) (fun s_ w' => (w'.cell? ⟨gb550, 0, none⟩ = some (.int .i64 a0_0) ∧ w'.cell? ⟨gb550, 1, none⟩ = some (.slice A0_1 l0_1.length c0_1)) ∧ (Kd.R Kd.bool 4 w' w.heap.size (fun _ => True) s_.1 t552) ∧ (Kd.V (Kd.slice 3 (Kd.int .i64)) 71 w' w.heap.size (fun k_ => some k_ ≠ (s_.1 : Value).ownBlock ∧ k_ ≠ gb550 ∧ k_ ≠ s_.2.2.2) s_.2.1 t555) ∧ (Kd.V (Kd.slice 3 (Kd.int .i64)) 71 w' w.heap.size (fun k_ => some k_ ≠ (s_.1 : Value).ownBlock ∧ k_ ≠ gb550 ∧ k_ ≠ s_.2.2.2) s_.2.2.1 t558) ∧ (w'.heap[gb550]? = some (.cells #[.int .i64 a0_0, .slice A0_1 l0_1.length c0_1] 31 (0, 0))) ∧ (w'.heap[s_.2.2.2]? = some (.cells #[.slice none 0 0, .slice none 0 0] 46 (0, 0))) ∧ (w.heap.size ≤ s_.2.2.2) ∧ (w.heap.size ≤ s_.2.2.2) ∧ (gb550 ≠ s_.2.2.2) ∧ (s_.2.2.2 ≠ gb550) ∧ (Below w.heap.size w w')) ?_ ?_
   rotate_left
   ·intro hCont
    refine two_ (i := 1) (j := 8) (Ni := some 16) (Nj := some 4) (tb 11 15) (tb 11 269) rfl rfl rfl rfl (two_of HT_.out (by kernel_rfl)) (by decide) (by decide) (fun K hK => ?_) (fun K hK => ?_)
    ·skip
     refine goes_ Try.func39 (by kernel_rfl) rfl #[.agg #[.int .i64 a0_0, .slice A0_1 l0_1.length c0_1]] (by rfl) rfl rfl (by (try simp only [List.map_toArray, List.map_cons, List.map_nil]); first | done | rfl | (simp only [List.length_drop, List.length_take]; rfl)) ?_
     with_reducible refine (spec_gmAll.calls kj1 a0_0 _ _ l0_1 t552 _ ?side1 ?side2 A12.out).mono ?_
     (case side1 => repeat (first | exact (Kd.C_below HR0_1.out HB.out) | (with_reducible refine Kd.C_alloc ?_ _) | (with_reducible refine Kd.C_drewN ?_ _) | (with_reducible refine Kd.C_drew ?_)))
     (case side2 => exact HC0_1.out)
     rintro e w15 ⟨v553, rfl, ho0, hb⟩
     refine ⟨_, rfl, ?_⟩
     have n0_ := Aside0.mk (Kd.R_lower ho0 (below_size (zh HB.out)))
     have n1_ := Aside0.mk (blk_below (g := gb550) (o := .cells #[.int .i64 a0_0, .slice A0_1 l0_1.length c0_1] 31 (0, 0)) (zb BK550.out) hb)
     have n2_ := Aside0.mk (below_step (zh HB.out) hb)
     clear BK550
     clear HB
     have HO554 := n0_
     have BK550 := n1_
     have HB := n2_
     clear n0_ n1_ n2_
     (try clear hb)
     (try clear hb2)
     (try clear hk)
     (try clear hi)
     (try clear ho0)
     obtain ⟨Ao16, co16, eo16⟩ := Kd.R_slice HO554.out
     (first | subst eo16 | (injection eo16 with f1_ f2_ f3_; have f4_ := f1_.symm; have f5_ := f3_.symm; clear f1_ f2_ f3_; subst f4_; subst f5_))
     refine hK.out _ _ ⟨(blk_cell BK550.out 0).trans rfl, (blk_cell BK550.out 1).trans rfl⟩ (fun hHeld => ?_)
     clear hK K
     refine norm_ (a' := ?_) ?_ ?_
     rotate_left
     ·show Act.put _ (some 16) _ = _
      simp only [Act.put, List.setIfInBounds_toArray, List.set_cons_zero, List.set_cons_succ, i64_w, i32_w]
      rfl
     refine two_ (i := 4) (j := 8) (Ni := some 19) (Nj := some 4) (tb 11 31) (tb 11 271) rfl rfl rfl rfl (two_of HT_.out (by kernel_rfl)) (by decide) (by decide) (fun K hK => ?_) (fun K hK => ?_)
     ·skip
      refine goes_ Try.func60 (by kernel_rfl) rfl #[.slice Ao16 t552.length co16, .int .i64 a0_0] (by rfl) rfl rfl (by (try simp only [List.map_toArray, List.map_cons, List.map_nil]); first | done | rfl | (simp only [List.length_drop, List.length_take]; rfl)) ?_
      with_reducible refine (spec_deSwap.calls kj1 _ _ t552 a0_0 t555 t558 t561 _ ?side1 ?side2 A13.out).mono ?_
      (case side1 => repeat (first | exact (Kd.R_reads' HO554.out).2.2 | (with_reducible refine Kd.C_alloc ?_ _) | (with_reducible refine Kd.C_drewN ?_ _) | (with_reducible refine Kd.C_drew ?_)))
      (case side2 => exact (Kd.R_reads' HO554.out).2.1)
      rintro e w17 ⟨v556, v559, rfl, ho0, ho1, hb⟩
      refine ⟨_, rfl, ?_⟩
      have n0_ := Aside0.mk (Kd.R_below (zr HO554.out) hb)
      have n1_ := Aside0.mk (Kd.V_lower (Kd.V_mono (ok' := fun k_ => some k_ ≠ (.slice Ao16 t552.length co16 : Value).ownBlock ∧ k_ ≠ gb550) ho0 (fun k_ hk_ => ⟨(Kd.fresh' (Kd.R_lt (zr HO554.out)) k_ hk_), (Kd.freshB (g := gb550) (o := .cells #[.int .i64 a0_0, .slice A0_1 l0_1.length c0_1] 31 (0, 0)) (zb BK550.out) k_ hk_)⟩)) (below_size (zh HB.out)))
      have n2_ := Aside0.mk (Kd.V_lower (Kd.V_mono (ok' := fun k_ => some k_ ≠ (.slice Ao16 t552.length co16 : Value).ownBlock ∧ k_ ≠ gb550) ho1 (fun k_ hk_ => ⟨(Kd.fresh' (Kd.R_lt (zr HO554.out)) k_ hk_), (Kd.freshB (g := gb550) (o := .cells #[.int .i64 a0_0, .slice A0_1 l0_1.length c0_1] 31 (0, 0)) (zb BK550.out) k_ hk_)⟩)) (below_size (zh HB.out)))
      have n3_ := Aside0.mk (blk_below (g := gb550) (o := .cells #[.int .i64 a0_0, .slice A0_1 l0_1.length c0_1] 31 (0, 0)) (zb BK550.out) hb)
      have n4_ := Aside0.mk (below_step (zh HB.out) hb)
      clear HO554
      clear BK550
      clear HB
      have HO554 := n0_
      have HO557 := n1_
      have HO560 := n2_
      have BK550 := n3_
      have HB := n4_
      clear n0_ n1_ n2_ n3_ n4_
      (try clear hb)
      (try clear hb2)
      (try clear hk)
      (try clear hi)
      (try clear ho0)
      (try clear ho1)
      refine hK.out _ _ ⟨(blk_cell BK550.out 0).trans rfl, (blk_cell BK550.out 1).trans rfl⟩ (fun hHeld => ?_)
      clear hK K
      refine norm_ (a' := ?_) ?_ ?_
      rotate_left
      ·show Act.put _ (some 19) _ = _
       simp only [Act.put, List.setIfInBounds_toArray, List.set_cons_zero, List.set_cons_succ, i64_w, i32_w]
       rfl
      refine zu (i := 5) (N := some 14) (tb 11 63) rfl rfl HT_ ?_
      refine zu (i := 6) (N := some 20) (tb 11 127) rfl rfl HT_ ?_
      refine zu (i := 7) (N := some 21) (tb 11 255) rfl rfl HT_ ?_
      refine one_ (i := 8) (N := some 4) (tb 11 511) rfl rfl (one_of HT_.out (by kernel_rfl)) (by decide) (fun K hK => ?_)
      refine box_step ?hg (N := 4) ?hd (cs := #[.slice none 0 0, .slice none 0 0]) (t := 46) ?hr ?_; (case hd => rfl); (case hg => rfl); (case hr => first | (go_simp; done) | (go_simp; rfl))
      intro gb562 hg w18 hbox hb
      have n0_ := Aside0.mk (Kd.R_below (zr HO554.out) hb)
      have n1_ := Aside0.mk (Kd.V_below (Kd.V_elderB (by (with_reducible repeat (first | apply Kd.V_alloc | apply Kd.V_drewN | apply Kd.V_drew)); exact HO557.out) gb562 (Nat.le_of_eq hg.symm)) hb)
      have n2_ := Aside0.mk (Kd.V_below (Kd.V_elderB (by (with_reducible repeat (first | apply Kd.V_alloc | apply Kd.V_drewN | apply Kd.V_drew)); exact HO560.out) gb562 (Nat.le_of_eq hg.symm)) hb)
      have n3_ := Aside0.mk (blk_below (g := gb550) (o := .cells #[.int .i64 a0_0, .slice A0_1 l0_1.length c0_1] 31 (0, 0)) (zb BK550.out) hb)
      have n4_ := Aside0.mk (below_step (zh HB.out) hb)
      have n5_ := Aside0.mk (hbox)
      have n6_ := Aside0.mk ((by rw [hg]; exact (below_size (zh HB.out)) : w.heap.size ≤ gb562))
      have n7_ := Aside0.mk ((by rw [hg]; exact (below_size (zh HB.out)) : w.heap.size ≤ gb562))
      have n8_ := Aside0.mk ((by rw [hg]; exact Nat.ne_of_lt (blk_lt (g := gb550) (o := .cells #[.int .i64 a0_0, .slice A0_1 l0_1.length c0_1] 31 (0, 0)) (zb BK550.out)) : gb550 ≠ gb562))
      have n9_ := Aside0.mk ((by rw [hg]; exact Nat.ne_of_gt (blk_lt (g := gb550) (o := .cells #[.int .i64 a0_0, .slice A0_1 l0_1.length c0_1] 31 (0, 0)) (zb BK550.out)) : gb562 ≠ gb550))
      clear HO554
      clear HO557
      clear HO560
      clear BK550
      clear HB
      have HO554 := n0_
      have HO557 := n1_
      have HO560 := n2_
      have BK550 := n3_
      have HB := n4_
      have BK562 := n5_
      have GW562 := n6_
      have GE562 := n7_
      have NB550_562 := n8_
      have NB562_550 := n9_
      clear n0_ n1_ n2_ n3_ n4_ n5_ n6_ n7_ n8_ n9_
      clear hb hbox hg
      refine hK.out _ _ ⟨(blk_cell BK550.out 0).trans rfl, (blk_cell BK550.out 1).trans rfl⟩ (fun hHeld => ?_)
      clear hK K
      refine norm_ (a' := ?_) ?_ ?_
      rotate_left
      ·show Act.put _ (some 4) _ = _
       simp only [Act.put, List.setIfInBounds_toArray, List.set_cons_zero, List.set_cons_succ, i64_w, i32_w]
       rfl
      exact norm_ (by simp only [putAll, Act.put, List.setIfInBounds_toArray, List.set_cons_zero, List.set_cons_succ]) (hCont (.slice Ao16 t552.length co16, v556, v559, gb562) _ ⟨hHeld, (zr HO554.out), (by (with_reducible repeat (first | apply Kd.V_alloc | apply Kd.V_drewN | apply Kd.V_drew)); exact Kd.V_mono HO557.out (fun _ hk => ⟨hk.1.1, ⟨hk.1.2, hk.2⟩⟩)), (by (with_reducible repeat (first | apply Kd.V_alloc | apply Kd.V_drewN | apply Kd.V_drew)); exact Kd.V_mono HO560.out (fun _ hk => ⟨hk.1.1, ⟨hk.1.2, hk.2⟩⟩)), (zb BK550.out), (zb BK562.out), GW562.out, GE562.out, NB550_562.out, NB562_550.out, (zh HB.out)⟩)
     ·skip
      refine box_step ?hg (N := 4) ?hd (cs := #[.slice none 0 0, .slice none 0 0]) (t := 46) ?hr ?_; (case hd => rfl); (case hg => rfl); (case hr => first | (go_simp; done) | (go_simp; rfl))
      intro gb562 hg w16 hbox hb
      have n0_ := Aside0.mk (Kd.R_below (zr HO554.out) hb)
      have n1_ := Aside0.mk (blk_below (g := gb550) (o := .cells #[.int .i64 a0_0, .slice A0_1 l0_1.length c0_1] 31 (0, 0)) (zb BK550.out) hb)
      have n2_ := Aside0.mk (below_step (zh HB.out) hb)
      have n3_ := Aside0.mk (hbox)
      have n4_ := Aside0.mk ((by rw [hg]; exact (below_size (zh HB.out)) : w.heap.size ≤ gb562))
      have n5_ := Aside0.mk ((by rw [hg]; exact (below_size (zh HB.out)) : w.heap.size ≤ gb562))
      have n6_ := Aside0.mk ((by rw [hg]; exact Nat.ne_of_lt (blk_lt (g := gb550) (o := .cells #[.int .i64 a0_0, .slice A0_1 l0_1.length c0_1] 31 (0, 0)) (zb BK550.out)) : gb550 ≠ gb562))
      have n7_ := Aside0.mk ((by rw [hg]; exact Nat.ne_of_gt (blk_lt (g := gb550) (o := .cells #[.int .i64 a0_0, .slice A0_1 l0_1.length c0_1] 31 (0, 0)) (zb BK550.out)) : gb562 ≠ gb550))
      clear HO554
      clear BK550
      clear HB
      have HO554 := n0_
      have BK550 := n1_
      have HB := n2_
      have BK562 := n3_
      have GW562 := n4_
      have GE562 := n5_
      have NB550_562 := n6_
      have NB562_550 := n7_
      clear n0_ n1_ n2_ n3_ n4_ n5_ n6_ n7_
      clear hb hbox hg
      obtain ⟨Ao17, co17, eo17⟩ := Kd.R_slice HO554.out
      (first | subst eo17 | (injection eo17 with f1_ f2_ f3_; have f4_ := f1_.symm; have f5_ := f3_.symm; clear f1_ f2_ f3_; subst f4_; subst f5_))
      refine hK.out _ _ ⟨(blk_cell BK550.out 0).trans rfl, (blk_cell BK550.out 1).trans rfl⟩ (fun hHeld => ?_)
      clear hK K
      refine norm_ (a' := ?_) ?_ ?_
      rotate_left
      ·show Act.put _ (some 4) _ = _
       simp only [Act.put, List.setIfInBounds_toArray, List.set_cons_zero, List.set_cons_succ, i64_w, i32_w]
       rfl
      refine one_ (i := 4) (N := some 19) (tb 11 287) rfl rfl (one_of HT_.out (by kernel_rfl)) (by decide) (fun K hK => ?_)
      refine goes_ Try.func60 (by kernel_rfl) rfl #[.slice Ao17 t552.length co17, .int .i64 a0_0] (by rfl) rfl rfl (by (try simp only [List.map_toArray, List.map_cons, List.map_nil]); first | done | rfl | (simp only [List.length_drop, List.length_take]; rfl)) ?_
      with_reducible refine (spec_deSwap.calls kj1 _ _ t552 a0_0 t555 t558 t561 _ ?side1 ?side2 A13.out).mono ?_
      (case side1 => repeat (first | exact (Kd.R_reads' HO554.out).2.2 | (with_reducible refine Kd.C_alloc ?_ _) | (with_reducible refine Kd.C_drewN ?_ _) | (with_reducible refine Kd.C_drew ?_)))
      (case side2 => exact (Kd.R_reads' HO554.out).2.1)
      rintro e w18 ⟨v556, v559, rfl, ho0, ho1, hb⟩
      refine ⟨_, rfl, ?_⟩
      have n0_ := Aside0.mk (Kd.R_below (zr HO554.out) hb)
      have n1_ := Aside0.mk (Kd.V_lower (Kd.V_mono (ok' := fun k_ => some k_ ≠ (.slice Ao17 t552.length co17 : Value).ownBlock ∧ k_ ≠ gb550 ∧ k_ ≠ gb562) ho0 (fun k_ hk_ => ⟨(Kd.fresh' (Kd.R_lt (zr HO554.out)) k_ hk_), (Kd.freshB (g := gb550) (o := .cells #[.int .i64 a0_0, .slice A0_1 l0_1.length c0_1] 31 (0, 0)) (zb BK550.out) k_ hk_), (Kd.freshB (g := gb562) (o := .cells #[.slice none 0 0, .slice none 0 0] 46 (0, 0)) (zb BK562.out) k_ hk_)⟩)) (below_size (zh HB.out)))
      have n2_ := Aside0.mk (Kd.V_lower (Kd.V_mono (ok' := fun k_ => some k_ ≠ (.slice Ao17 t552.length co17 : Value).ownBlock ∧ k_ ≠ gb550 ∧ k_ ≠ gb562) ho1 (fun k_ hk_ => ⟨(Kd.fresh' (Kd.R_lt (zr HO554.out)) k_ hk_), (Kd.freshB (g := gb550) (o := .cells #[.int .i64 a0_0, .slice A0_1 l0_1.length c0_1] 31 (0, 0)) (zb BK550.out) k_ hk_), (Kd.freshB (g := gb562) (o := .cells #[.slice none 0 0, .slice none 0 0] 46 (0, 0)) (zb BK562.out) k_ hk_)⟩)) (below_size (zh HB.out)))
      have n3_ := Aside0.mk (blk_below (g := gb550) (o := .cells #[.int .i64 a0_0, .slice A0_1 l0_1.length c0_1] 31 (0, 0)) (zb BK550.out) hb)
      have n4_ := Aside0.mk (blk_below (g := gb562) (o := .cells #[.slice none 0 0, .slice none 0 0] 46 (0, 0)) (zb BK562.out) hb)
      have n5_ := Aside0.mk (below_step (zh HB.out) hb)
      clear HO554
      clear BK550
      clear BK562
      clear HB
      have HO554 := n0_
      have HO557 := n1_
      have HO560 := n2_
      have BK550 := n3_
      have BK562 := n4_
      have HB := n5_
      clear n0_ n1_ n2_ n3_ n4_ n5_
      (try clear hb)
      (try clear hb2)
      (try clear hk)
      (try clear hi)
      (try clear ho0)
      (try clear ho1)
      refine hK.out _ _ ⟨(blk_cell BK550.out 0).trans rfl, (blk_cell BK550.out 1).trans rfl⟩ (fun hHeld => ?_)
      clear hK K
      refine norm_ (a' := ?_) ?_ ?_
      rotate_left
      ·show Act.put _ (some 19) _ = _
       simp only [Act.put, List.setIfInBounds_toArray, List.set_cons_zero, List.set_cons_succ, i64_w, i32_w]
       rfl
      refine zu (i := 5) (N := some 14) (tb 11 319) rfl rfl HT_ ?_
      refine zu (i := 6) (N := some 20) (tb 11 383) rfl rfl HT_ ?_
      refine zu (i := 7) (N := some 21) (tb 11 511) rfl rfl HT_ ?_
      exact norm_ (by simp only [putAll, Act.put, List.setIfInBounds_toArray, List.set_cons_zero, List.set_cons_succ]) (hCont (.slice Ao17 t552.length co17, v556, v559, gb562) _ ⟨hHeld, (zr HO554.out), (by (with_reducible repeat (first | apply Kd.V_alloc | apply Kd.V_drewN | apply Kd.V_drew)); exact HO557.out), (by (with_reducible repeat (first | apply Kd.V_alloc | apply Kd.V_drewN | apply Kd.V_drew)); exact HO560.out), (zb BK550.out), (zb BK562.out), GW562.out, GE562.out, NB550_562.out, NB562_550.out, (zh HB.out)⟩)
    ·skip
     refine box_step ?hg (N := 4) ?hd (cs := #[.slice none 0 0, .slice none 0 0]) (t := 46) ?hr ?_; (case hd => rfl); (case hg => rfl); (case hr => first | (go_simp; done) | (go_simp; rfl))
     intro gb562 hg w15 hbox hb
     have n0_ := Aside0.mk (blk_below (g := gb550) (o := .cells #[.int .i64 a0_0, .slice A0_1 l0_1.length c0_1] 31 (0, 0)) (zb BK550.out) hb)
     have n1_ := Aside0.mk (below_step (zh HB.out) hb)
     have n2_ := Aside0.mk (hbox)
     have n3_ := Aside0.mk ((by rw [hg]; exact (below_size (zh HB.out)) : w.heap.size ≤ gb562))
     have n4_ := Aside0.mk ((by rw [hg]; exact (below_size (zh HB.out)) : w.heap.size ≤ gb562))
     have n5_ := Aside0.mk ((by rw [hg]; exact Nat.ne_of_lt (blk_lt (g := gb550) (o := .cells #[.int .i64 a0_0, .slice A0_1 l0_1.length c0_1] 31 (0, 0)) (zb BK550.out)) : gb550 ≠ gb562))
     have n6_ := Aside0.mk ((by rw [hg]; exact Nat.ne_of_gt (blk_lt (g := gb550) (o := .cells #[.int .i64 a0_0, .slice A0_1 l0_1.length c0_1] 31 (0, 0)) (zb BK550.out)) : gb562 ≠ gb550))
     clear BK550
     clear HB
     have BK550 := n0_
     have HB := n1_
     have BK562 := n2_
     have GW562 := n3_
     have GE562 := n4_
     have NB550_562 := n5_
     have NB562_550 := n6_
     clear n0_ n1_ n2_ n3_ n4_ n5_ n6_
     clear hb hbox hg
     refine hK.out _ _ ⟨(blk_cell BK550.out 0).trans rfl, (blk_cell BK550.out 1).trans rfl⟩ (fun hHeld => ?_)
     clear hK K
     refine norm_ (a' := ?_) ?_ ?_
     rotate_left
     ·show Act.put _ (some 4) _ = _
      simp only [Act.put, List.setIfInBounds_toArray, List.set_cons_zero, List.set_cons_succ, i64_w, i32_w]
      rfl
     refine one_ (i := 1) (N := some 16) (tb 11 271) rfl rfl (one_of HT_.out (by kernel_rfl)) (by decide) (fun K hK => ?_)
     refine goes_ Try.func39 (by kernel_rfl) rfl #[.agg #[.int .i64 a0_0, .slice A0_1 l0_1.length c0_1]] (by rfl) rfl rfl (by (try simp only [List.map_toArray, List.map_cons, List.map_nil]); first | done | rfl | (simp only [List.length_drop, List.length_take]; rfl)) ?_
     with_reducible refine (spec_gmAll.calls kj1 a0_0 _ _ l0_1 t552 _ ?side1 ?side2 A12.out).mono ?_
     (case side1 => repeat (first | exact (Kd.C_below HR0_1.out HB.out) | (with_reducible refine Kd.C_alloc ?_ _) | (with_reducible refine Kd.C_drewN ?_ _) | (with_reducible refine Kd.C_drew ?_)))
     (case side2 => exact HC0_1.out)
     rintro e w16 ⟨v553, rfl, ho0, hb⟩
     refine ⟨_, rfl, ?_⟩
     have n0_ := Aside0.mk (Kd.R_lower ho0 (below_size (zh HB.out)))
     have n1_ := Aside0.mk (blk_below (g := gb550) (o := .cells #[.int .i64 a0_0, .slice A0_1 l0_1.length c0_1] 31 (0, 0)) (zb BK550.out) hb)
     have n2_ := Aside0.mk (blk_below (g := gb562) (o := .cells #[.slice none 0 0, .slice none 0 0] 46 (0, 0)) (zb BK562.out) hb)
     have n3_ := Aside0.mk (below_step (zh HB.out) hb)
     clear BK550
     clear BK562
     clear HB
     have HO554 := n0_
     have BK550 := n1_
     have BK562 := n2_
     have HB := n3_
     clear n0_ n1_ n2_ n3_
     (try clear hb)
     (try clear hb2)
     (try clear hk)
     (try clear hi)
     (try clear ho0)
     obtain ⟨Ao17, co17, eo17⟩ := Kd.R_slice HO554.out
     (first | subst eo17 | (injection eo17 with f1_ f2_ f3_; have f4_ := f1_.symm; have f5_ := f3_.symm; clear f1_ f2_ f3_; subst f4_; subst f5_))
     refine hK.out _ _ ⟨(blk_cell BK550.out 0).trans rfl, (blk_cell BK550.out 1).trans rfl⟩ (fun hHeld => ?_)
     clear hK K
     refine norm_ (a' := ?_) ?_ ?_
     rotate_left
     ·show Act.put _ (some 16) _ = _
      simp only [Act.put, List.setIfInBounds_toArray, List.set_cons_zero, List.set_cons_succ, i64_w, i32_w]
      rfl
     refine one_ (i := 4) (N := some 19) (tb 11 287) rfl rfl (one_of HT_.out (by kernel_rfl)) (by decide) (fun K hK => ?_)
     refine goes_ Try.func60 (by kernel_rfl) rfl #[.slice Ao17 t552.length co17, .int .i64 a0_0] (by rfl) rfl rfl (by (try simp only [List.map_toArray, List.map_cons, List.map_nil]); first | done | rfl | (simp only [List.length_drop, List.length_take]; rfl)) ?_
     with_reducible refine (spec_deSwap.calls kj1 _ _ t552 a0_0 t555 t558 t561 _ ?side1 ?side2 A13.out).mono ?_
     (case side1 => repeat (first | exact (Kd.R_reads' HO554.out).2.2 | (with_reducible refine Kd.C_alloc ?_ _) | (with_reducible refine Kd.C_drewN ?_ _) | (with_reducible refine Kd.C_drew ?_)))
     (case side2 => exact (Kd.R_reads' HO554.out).2.1)
     rintro e w18 ⟨v556, v559, rfl, ho0, ho1, hb⟩
     refine ⟨_, rfl, ?_⟩
     have n0_ := Aside0.mk (Kd.R_below (zr HO554.out) hb)
     have n1_ := Aside0.mk (Kd.V_lower (Kd.V_mono (ok' := fun k_ => some k_ ≠ (.slice Ao17 t552.length co17 : Value).ownBlock ∧ k_ ≠ gb550 ∧ k_ ≠ gb562) ho0 (fun k_ hk_ => ⟨(Kd.fresh' (Kd.R_lt (zr HO554.out)) k_ hk_), (Kd.freshB (g := gb550) (o := .cells #[.int .i64 a0_0, .slice A0_1 l0_1.length c0_1] 31 (0, 0)) (zb BK550.out) k_ hk_), (Kd.freshB (g := gb562) (o := .cells #[.slice none 0 0, .slice none 0 0] 46 (0, 0)) (zb BK562.out) k_ hk_)⟩)) (below_size (zh HB.out)))
     have n2_ := Aside0.mk (Kd.V_lower (Kd.V_mono (ok' := fun k_ => some k_ ≠ (.slice Ao17 t552.length co17 : Value).ownBlock ∧ k_ ≠ gb550 ∧ k_ ≠ gb562) ho1 (fun k_ hk_ => ⟨(Kd.fresh' (Kd.R_lt (zr HO554.out)) k_ hk_), (Kd.freshB (g := gb550) (o := .cells #[.int .i64 a0_0, .slice A0_1 l0_1.length c0_1] 31 (0, 0)) (zb BK550.out) k_ hk_), (Kd.freshB (g := gb562) (o := .cells #[.slice none 0 0, .slice none 0 0] 46 (0, 0)) (zb BK562.out) k_ hk_)⟩)) (below_size (zh HB.out)))
     have n3_ := Aside0.mk (blk_below (g := gb550) (o := .cells #[.int .i64 a0_0, .slice A0_1 l0_1.length c0_1] 31 (0, 0)) (zb BK550.out) hb)
     have n4_ := Aside0.mk (blk_below (g := gb562) (o := .cells #[.slice none 0 0, .slice none 0 0] 46 (0, 0)) (zb BK562.out) hb)
     have n5_ := Aside0.mk (below_step (zh HB.out) hb)
     clear HO554
     clear BK550
     clear BK562
     clear HB
     have HO554 := n0_
     have HO557 := n1_
     have HO560 := n2_
     have BK550 := n3_
     have BK562 := n4_
     have HB := n5_
     clear n0_ n1_ n2_ n3_ n4_ n5_
     (try clear hb)
     (try clear hb2)
     (try clear hk)
     (try clear hi)
     (try clear ho0)
     (try clear ho1)
     refine hK.out _ _ ⟨(blk_cell BK550.out 0).trans rfl, (blk_cell BK550.out 1).trans rfl⟩ (fun hHeld => ?_)
     clear hK K
     refine norm_ (a' := ?_) ?_ ?_
     rotate_left
     ·show Act.put _ (some 19) _ = _
      simp only [Act.put, List.setIfInBounds_toArray, List.set_cons_zero, List.set_cons_succ, i64_w, i32_w]
      rfl
     refine zu (i := 5) (N := some 14) (tb 11 319) rfl rfl HT_ ?_
     refine zu (i := 6) (N := some 20) (tb 11 383) rfl rfl HT_ ?_
     refine zu (i := 7) (N := some 21) (tb 11 511) rfl rfl HT_ ?_
     exact norm_ (by simp only [putAll, Act.put, List.setIfInBounds_toArray, List.set_cons_zero, List.set_cons_succ]) (hCont (.slice Ao17 t552.length co17, v556, v559, gb562) _ ⟨hHeld, (zr HO554.out), (by (with_reducible repeat (first | apply Kd.V_alloc | apply Kd.V_drewN | apply Kd.V_drew)); exact HO557.out), (by (with_reducible repeat (first | apply Kd.V_alloc | apply Kd.V_drewN | apply Kd.V_drew)); exact HO560.out), (zb BK550.out), (zb BK562.out), GW562.out, GE562.out, NB550_562.out, NB562_550.out, (zh HB.out)⟩)
   rintro ⟨v553, v556, v559, gb562⟩ w19 ⟨hS_, h0_, h1_, h2_, h3_, h4_, h5_, h6_, h7_, h8_, h9_⟩
   have n0_ : Aside0 (Kd.R Kd.bool 4 w19 w.heap.size (fun _ => True) v553 t552) := ⟨h0_⟩
   have n1_ : Aside0 (Kd.V (Kd.slice 3 (Kd.int .i64)) 71 w19 w.heap.size (fun k_ => some k_ ≠ (v553 : Value).ownBlock ∧ k_ ≠ gb550 ∧ k_ ≠ gb562) v556 t555) := ⟨h1_⟩
   have n2_ : Aside0 (Kd.V (Kd.slice 3 (Kd.int .i64)) 71 w19 w.heap.size (fun k_ => some k_ ≠ (v553 : Value).ownBlock ∧ k_ ≠ gb550 ∧ k_ ≠ gb562) v559 t558) := ⟨h2_⟩
   have n3_ : Aside0 (w19.heap[gb550]? = some (.cells #[.int .i64 a0_0, .slice A0_1 l0_1.length c0_1] 31 (0, 0))) := ⟨h3_⟩
   have n4_ : Aside0 (w19.heap[gb562]? = some (.cells #[.slice none 0 0, .slice none 0 0] 46 (0, 0))) := ⟨h4_⟩
   have n5_ : Aside0 (w.heap.size ≤ gb562) := ⟨h5_⟩
   have n6_ : Aside0 (w.heap.size ≤ gb562) := ⟨h6_⟩
   have n7_ : Aside0 (gb550 ≠ gb562) := ⟨h7_⟩
   have n8_ : Aside0 (gb562 ≠ gb550) := ⟨h8_⟩
   have n9_ : Aside0 (Below w.heap.size w w19) := ⟨h9_⟩
   clear BK550
   clear HB
   clear h0_ h1_ h2_ h3_ h4_ h5_ h6_ h7_ h8_ h9_
   have HO554 := n0_
   have HO557 := n1_
   have HO560 := n2_
   have BK550 := n3_
   have BK562 := n4_
   have GW562 := n5_
   have GE562 := n6_
   have NB550_562 := n7_
   have NB562_550 := n8_
   have HB := n9_
   clear n0_ n1_ n2_ n3_ n4_ n5_ n6_ n7_ n8_ n9_
   have hHeld : w19.cell? ⟨gb550, 0, none⟩ = some (.int .i64 a0_0) ∧ w19.cell? ⟨gb550, 1, none⟩ = some (.slice A0_1 l0_1.length c0_1) := hS_
   obtain ⟨Ao20, co20, eo20⟩ := Kd.V_slice HO557.out
   (first | subst eo20 | (injection eo20 with f1_ f2_ f3_; have f4_ := f1_.symm; have f5_ := f3_.symm; clear f1_ f2_ f3_; subst f4_; subst f5_))
   obtain ⟨Ao22, co22, eo22⟩ := Kd.V_slice HO560.out
   (first | subst eo22 | (injection eo22 with f1_ f2_ f3_; have f4_ := f1_.symm; have f5_ := f3_.symm; clear f1_ f2_ f3_; subst f4_; subst f5_))
   refine norm_ (a' := ?_) ?_ ?_
   rotate_left
   ·simp only [putAll, Act.put, List.setIfInBounds_toArray, List.set_cons_zero, List.set_cons_succ]
    rfl
   refine one_ (i := 9) (N := none) (tb 11 1023) rfl rfl (one_of HT_.out (by kernel_rfl)) (by decide) (fun K hK => ?_)
   have hs21 : w19.cell? ⟨gb562, 0, none⟩ = some (.slice none 0 0) := (blk_cell BK562.out 0).trans rfl
   have hfs21 := blk_frozen BK562.out 0
   have hns21_0 := NB550_562.out
   have hms21_0 := NB562_550.out
   have hs23 : w19.cell? ⟨gb562, 1, none⟩ = some (.slice none 0 0) := (blk_cell BK562.out 1).trans rfl
   have hfs23 := blk_frozen BK562.out 1
   have hns23_0 := NB550_562.out
   have hms23_0 := NB562_550.out
   refine skip_ (w1 := ?_) (by rfl) rfl ?_ ?_
   rotate_left
   ·go_simp
    rfl
   refine hK.out _ _ ⟨((cell_far (p := ⟨gb562, _, none⟩) NB550_562.out _).trans (((cell_far (p := ⟨gb562, _, none⟩) NB550_562.out _).trans (hHeld.1)))), ((cell_far (p := ⟨gb562, _, none⟩) NB550_562.out _).trans (((cell_far (p := ⟨gb562, _, none⟩) NB550_562.out _).trans (hHeld.2))))⟩ (fun hHeld => ?_)
   clear hK K
   refine zu (i := 10) (N := some 5) (tb 11 2047) rfl rfl HT_ ?_
   refine done_ (done_of HT_.out (by kernel_rfl)) ?_
   try go_wp2
   go_ret2
   exact ⟨by first | rfl | (simp [*, errW_none, errW_some] <;> rfl), zh HB.out⟩
end Go.Proofs.Ytaacaifiiedoiaa.Q
end
section
namespace Go.Proofs.Ytaacaifiiedoiaa.Q
open Go.RowKit Go.Proofs.YtaacaifiiedoiaaW.PrintWords Go.Proofs.YtaacaifiiedoiaaW.PrintLast Go.Proofs.YtaacaifiiedoiaaW.PrintMore
set_option linter.unusedVariables false
set_option linter.unusedSimpArgs false
def idxO {α : Type} (p : α → Option Bool) : List α → Nat → Option Int
  | [], _ => some (-1)
  | x :: xs, k => (p x).bind fun b => if b = true then some (k : Int) else idxO p xs (k + 1)
def anyO {α : Type} (p : α → Option Bool) : List α → Option Bool
  | [] => some false
  | x :: xs => (p x).bind fun b => if b = true then some true else anyO p xs
theorem anyO_idxO {α : Type} (p : α → Option Bool) (xs : List α) : ∀ (k : Nat) (r : Bool), anyO p xs = some r → ∃ i, idxO p xs k = some i ∧ r = decide (0 ≤ i) := by
  induction xs with
  | nil => intro k r h; simp only [anyO, Option.some.injEq] at h; exact ⟨-1, rfl, by subst h; rfl⟩
  | cons x xs ih =>
    intro k r h
    simp only [anyO] at h
    obtain ⟨b, hb, h⟩ := Option.bind_eq_some_iff.mp h
    cases b with
    | true => rw [if_pos rfl] at h; exact ⟨k, by simp [idxO, hb], by simp only [Option.some.injEq] at h; subst h; simp⟩
    | false =>
      rw [if_neg (by simp)] at h
      obtain ⟨i, hi, hr⟩ := ih (k + 1) r h
      exact ⟨i, by simp [idxO, hb, hi], hr⟩
theorem idxO_step {α : Type} {p : α → Option Bool} {xs : List α} {k : Nat} {r : Int} {x : α} (h : idxO p (xs.drop k) k = some r) (hx : xs[k]? = some x) :
    ∃ b, p x = some b ∧ (b = true → r = k) ∧ (b = false → idxO p (xs.drop (k + 1)) (k + 1) = some r) := by
  rw [show xs.drop k = x :: xs.drop (k + 1) from by
    obtain ⟨hk, rfl⟩ := List.getElem?_eq_some_iff.1 hx; exact List.drop_eq_getElem_cons hk] at h
  simp only [idxO] at h
  obtain ⟨b, hb, h⟩ := Option.bind_eq_some_iff.mp h
  refine ⟨b, hb, ?_, ?_⟩
  · rintro rfl; rw [if_pos rfl] at h; exact (Option.some.inj h).symm
  · rintro rfl; rw [if_neg (by simp)] at h; exact h
def PredK {α : Type} (P : Program) (g : Nat) (lb : Array Value) (d : Kd α) (mkv : List Value → Value) (w : World) (p : α → Option Bool) : Prop :=
  ∀ (W : World) (x : α) (c : List Value) (b : Bool), Below w.heap.size w W → d.K w x c → p x = some b → Calls P g (#[mkv c] ++ lb) W fun e w' => e = .returned (.bool b) ∧ Below w.heap.size w w'
theorem anyO_some {α : Type} {p : α → Option Bool} {q : α → Bool} {xs : List α} (h : ∀ x ∈ xs, p x = some (q x)) : anyO p xs = some (xs.any q) := by
  induction xs with
  | nil => rfl
  | cons x xs ih =>
    simp only [anyO, h x (List.mem_cons_self ..), Option.bind_some]
    rw [ih (fun y hy => h y (List.mem_cons_of_mem _ hy))]
    rw [List.any_cons]
    cases q x <;> rfl
theorem ret_i {a b : Int} (h : a = b) : Ending.returned (.int .i64 a) = .returned (.int .i64 b) := by rw [h]
theorem ret_b {a b : Bool} (h : a = b) : Ending.returned (.bool a) = .returned (.bool b) := by rw [h]
set_option maxHeartbeats 1000000 in
theorem indexFunc_ints (p : List Int → Option Bool) (g : Nat) (lb : Array Value) (eg : ∀ args w, (callFunc g args).run Try.prog w = .ok (.enter g args) w)
    (A0 : Option Addr) (c0 : Nat) (l0 : List (List Int)) (r : Int) (w : World) (hr0 : Kd.C (Kd.slice 3 (Kd.int .i64)) w A0 l0.length l0) (hc0 : l0.length ≤ c0)
    (hp : PredK Try.prog g lb (Kd.slice 3 (Kd.int .i64)) (fun c => c.getD 0 undef) w p) (h : idxO p l0 0 = some r) :
    Calls Try.prog 121 #[.slice A0 l0.length c0, .func (.func g) #[] lb] w fun e w' => e = .returned (.int .i64 r) ∧ Below w.heap.size w w' := by
  have hlen := hr0.2.1
  have HR0 := Aside0.mk hr0
  clear hr0
  have HP := Aside0.mk hp
  clear hp
  have H0 := Aside0.mk h
  clear h
  go_enter Try.func121, Try.ntmps121
  go_wp2
  go_loopg [5, 8] l0.length (fun gg _ s8 wr => ∃ kk : Nat, kk ≤ l0.length ∧ l0.length - kk ≤ gg ∧ s8 = .int .i64 kk ∧ Aside0 (Below w.heap.size w wr) ∧ Aside0 (idxO p (l0.drop kk) kk = some r))
  case atStart => exact ⟨0, Nat.zero_le _, by omega, rfl, ⟨Below.refl _ w⟩, H0⟩
  case round =>
    obtain ⟨kk, hkk, hg, rfl, BW, A⟩ := hrel
    by_cases hlt : kk < l0.length
    · have hltz : (kk : Int) < (l0.length : Int) := by omega
      obtain ⟨ad, c, e, _, hK, hcell⟩ := Kd.C_get HR0.out ([] : List Int) (kk : Int) (by omega) hltz
      subst e
      rw [Int.toNat_natCast] at hK hcell
      have hKK := hK
      obtain ⟨A1, c1, rfl, hl1, hk1⟩ := hKK
      have l2 := (BW.out.cell (World.block_lt_of_cell? w _ (hcell 0 _ rfl))).trans (hcell 0 _ rfl)
      clear hcell
      obtain ⟨b, hb, h1, h2⟩ := idxO_step A.out (show l0[kk]? = some (l0.getD kk []) by rw [List.getD_eq_getElem?_getD, List.getElem?_eq_getElem hlt]; rfl)
      have hcall := HP.out wr _ _ b BW.out hK hb
      have l3 : wr.cell? (ad.add kk) = some (.slice A1 (l0.getD kk []).length c1) := by simpa [show (Kd.slice 3 (Kd.int .i64)).sz = 1 from rfl] using l2
      clear l2 hK hk1
      generalize l0.getD kk [] = y at l3 hcall hb hl1
      have B := Aside0.mk hb
      clear hb
      cases b with
      | true =>
        have E := h1 rfl
        clear h1 h2
        have E' := Aside0.mk E
        clear E
        go_wp2_with (go_at_fn g; refine hcall.mono ?_; rintro e w' ⟨rfl, hb'⟩)
        go_ret
        exact ⟨ret_i E'.out.symm, hb'⟩
      | false =>
        have E := Aside0.mk (h2 rfl)
        clear h1 h2
        go_wp2_with (go_at_fn g; refine hcall.mono ?_; rintro e w' ⟨rfl, hb'⟩)
        go_roundg (l0.length - (kk + 1))
        case measure => omega
        case rel => exact ⟨kk + 1, by omega, by omega, by go_num, ⟨hb'⟩, E⟩
    · have hltz : ¬ (kk : Int) < (l0.length : Int) := by omega
      have : kk = l0.length := by omega
      subst this
      go_wp2
      go_ret
      refine ⟨?_, BW.out⟩
      have h3 := A.out
      rw [List.drop_length] at h3
      have h4 : (-1 : Int) = r := by simpa [idxO] using h3
      exact ret_i h4
set_option maxHeartbeats 1000000 in
theorem containsFunc_ints (p : List Int → Option Bool) (g : Nat) (lb : Array Value) (eg : ∀ args w, (callFunc g args).run Try.prog w = .ok (.enter g args) w)
    (A0 : Option Addr) (c0 : Nat) (l0 : List (List Int)) (r : Bool) (w : World) (hr0 : Kd.C (Kd.slice 3 (Kd.int .i64)) w A0 l0.length l0) (hc0 : l0.length ≤ c0)
    (hp : PredK Try.prog g lb (Kd.slice 3 (Kd.int .i64)) (fun c => c.getD 0 undef) w p) (h : anyO p l0 = some r) :
    Calls Try.prog 104 #[.slice A0 l0.length c0, .func (.func g) #[] lb] w fun e w' => e = .returned (.bool r) ∧ Below w.heap.size w w' := by
  obtain ⟨i, hi, rfl⟩ := anyO_idxO p l0 0 r h
  have hcon := indexFunc_ints p g lb eg A0 c0 l0 i w hr0 hc0 hp hi
  clear hr0 hp h hi
  go_enter Try.func104, Try.ntmps104
  go_wp2_with (go_at_call 121; refine hcon.mono ?_; rintro e w' ⟨rfl, hb'⟩)
  go_ret
  exact ⟨rfl, hb'⟩
set_option maxHeartbeats 1000000 in
theorem indexFunc_int (p : Int → Option Bool) (g : Nat) (lb : Array Value) (eg : ∀ args w, (callFunc g args).run Try.prog w = .ok (.enter g args) w)
    (A0 : Option Addr) (c0 : Nat) (l0 : List Int) (r : Int) (w : World) (hr0 : Kd.C (Kd.int .i64) w A0 l0.length l0) (hc0 : l0.length ≤ c0)
    (hp : PredK Try.prog g lb (Kd.int .i64) (fun c => c.getD 0 undef) w p) (h : idxO p l0 0 = some r) :
    Calls Try.prog 125 #[.slice A0 l0.length c0, .func (.func g) #[] lb] w fun e w' => e = .returned (.int .i64 r) ∧ Below w.heap.size w w' := by
  have hlen := hr0.2.1
  have HR0 := Aside0.mk hr0
  clear hr0
  have HP := Aside0.mk hp
  clear hp
  have H0 := Aside0.mk h
  clear h
  go_enter Try.func125, Try.ntmps125
  go_wp2
  go_loopg [5, 8] l0.length (fun gg _ s8 wr => ∃ kk : Nat, kk ≤ l0.length ∧ l0.length - kk ≤ gg ∧ s8 = .int .i64 kk ∧ Aside0 (Below w.heap.size w wr) ∧ Aside0 (idxO p (l0.drop kk) kk = some r))
  case atStart => exact ⟨0, Nat.zero_le _, by omega, rfl, ⟨Below.refl _ w⟩, H0⟩
  case round =>
    obtain ⟨kk, hkk, hg, rfl, BW, A⟩ := hrel
    by_cases hlt : kk < l0.length
    · have hltz : (kk : Int) < (l0.length : Int) := by omega
      obtain ⟨ad, c, e, _, hK, hcell⟩ := Kd.C_get HR0.out 0 (kk : Int) (by omega) hltz
      subst e
      have hK1 : c = [.int .i64 (l0.getD kk 0)] := hK
      subst hK1
      have l2 := (BW.out.cell (World.block_lt_of_cell? w _ (hcell 0 _ rfl))).trans (hcell 0 _ rfl)
      clear hcell
      obtain ⟨b, hb, h1, h2⟩ := idxO_step A.out (show l0[kk]? = some (l0.getD kk 0) by rw [List.getD_eq_getElem?_getD, List.getElem?_eq_getElem hlt]; rfl)
      have hcall := HP.out wr _ _ b BW.out hK hb
      have l3 : wr.cell? (ad.add kk) = some (.int .i64 (l0.getD kk 0)) := by simpa [show (Kd.int .i64).sz = 1 from rfl] using l2
      clear l2 hK
      generalize l0.getD kk 0 = y at l3 hcall hb
      have B := Aside0.mk hb
      clear hb
      cases b with
      | true =>
        have E := h1 rfl
        clear h1 h2
        have E' := Aside0.mk E
        clear E
        go_wp2_with (go_at_fn g; refine hcall.mono ?_; rintro e w' ⟨rfl, hb'⟩)
        go_ret
        exact ⟨ret_i E'.out.symm, hb'⟩
      | false =>
        have E := Aside0.mk (h2 rfl)
        clear h1 h2
        go_wp2_with (go_at_fn g; refine hcall.mono ?_; rintro e w' ⟨rfl, hb'⟩)
        go_roundg (l0.length - (kk + 1))
        case measure => omega
        case rel => exact ⟨kk + 1, by omega, by omega, by go_num, ⟨hb'⟩, E⟩
    · have hltz : ¬ (kk : Int) < (l0.length : Int) := by omega
      have : kk = l0.length := by omega
      subst this
      go_wp2
      go_ret
      refine ⟨?_, BW.out⟩
      have h3 := A.out
      rw [List.drop_length] at h3
      have h4 : (-1 : Int) = r := by simpa [idxO] using h3
      exact ret_i h4
set_option maxHeartbeats 1000000 in
theorem containsFunc_int (p : Int → Option Bool) (g : Nat) (lb : Array Value) (eg : ∀ args w, (callFunc g args).run Try.prog w = .ok (.enter g args) w)
    (A0 : Option Addr) (c0 : Nat) (l0 : List Int) (r : Bool) (w : World) (hr0 : Kd.C (Kd.int .i64) w A0 l0.length l0) (hc0 : l0.length ≤ c0)
    (hp : PredK Try.prog g lb (Kd.int .i64) (fun c => c.getD 0 undef) w p) (h : anyO p l0 = some r) :
    Calls Try.prog 110 #[.slice A0 l0.length c0, .func (.func g) #[] lb] w fun e w' => e = .returned (.bool r) ∧ Below w.heap.size w w' := by
  obtain ⟨i, hi, rfl⟩ := anyO_idxO p l0 0 r h
  have hcon := indexFunc_int p g lb eg A0 c0 l0 i w hr0 hc0 hp hi
  clear hr0 hp h hi
  go_enter Try.func110, Try.ntmps110
  go_wp2_with (go_at_call 125; refine hcon.mono ?_; rintro e w' ⟨rfl, hb'⟩)
  go_ret
  exact ⟨rfl, hb'⟩
def impl_areIn_1.f (lo hi n : Int) : Option Bool := (impl_within.f n lo hi).bind fun b => some (!b)
set_option maxHeartbeats 1000000 in
theorem impl_areIn_1.pred (lo hi : Int) (b1 b2 : Nat) (w : World) (h1 : w.cell? ⟨b1, 0, none⟩ = some (.int .i64 lo)) (h2 : w.cell? ⟨b2, 0, none⟩ = some (.int .i64 hi)) :
    PredK Try.prog 131 #[.pointer (some ⟨b1, 0, none⟩), .pointer (some ⟨b2, 0, none⟩)] (Kd.int .i64) (fun c => c.getD 0 undef) w (impl_areIn_1.f lo hi) := by
  intro W x c b hb hK hp
  have hK1 : c = [.int .i64 x] := hK
  subst hK1
  show Calls Try.prog 131 #[.int .i64 x, .pointer (some ⟨b1, 0, none⟩), .pointer (some ⟨b2, 0, none⟩)] W _
  have q1 := (hb.cell (World.block_lt_of_cell? w _ h1)).trans h1
  have q2 := (hb.cell (World.block_lt_of_cell? w _ h2)).trans h2
  obtain ⟨t, ht, hr⟩ := Option.bind_eq_some_iff.mp hp
  have hr' : (!t) = b := Option.some.inj hr
  have hB := Aside0.mk hb
  have hT := Aside0.mk ht
  have hE := Aside0.mk hr'
  clear h1 h2 hb hK hp hr hr' ht
  go_enter Try.func131, Try.ntmps131
  go_wp2_with (go_at_call 43; refine (impl_within.calls _ _ _ _ _ hT.out).mono ?_; rintro e w' ⟨rfl, nd, rfl⟩)
  go_ret
  exact ⟨ret_b hE.out, pw_below_drewN hB.out _⟩
set_option maxHeartbeats 1000000 in
def impl_areIn.f (l0 : List Int) (a1 a2 : Int) : Option Bool := (anyO (impl_areIn_1.f a1 a2) l0).bind fun b => some (!b)
set_option maxHeartbeats 1000000 in
theorem impl_areIn.calls (A0 : Option Addr) (c0 : Nat) (l0 : List Int) (a1 a2 : Int) (r : Bool) (w : World) (hr0 : Kd.C (Kd.int .i64) w A0 l0.length l0) (hc0 : l0.length ≤ c0) (h : impl_areIn.f l0 a1 a2 = some r) :
    Calls Try.prog 122 #[.slice A0 l0.length c0, .int .i64 a1, .int .i64 a2] w fun e w' => e = .returned (.bool r) ∧ Below w.heap.size w w' := by
  have eg : ∀ args w, (callFunc 131 args).run Try.prog w = .ok (.enter 131 args) w := enters_of Try.func131 (by kernel_rfl) rfl
  obtain ⟨t, ht, hr⟩ := Option.bind_eq_some_iff.mp h
  have hE := Aside0.mk (show (!t) = r from Option.some.inj hr)
  have hT := Aside0.mk ht
  have HR := Aside0.mk hr0
  clear h hr ht hr0
  go_enter Try.func122, Try.ntmps122
  go_wp2_with fail
  refine (containsFunc_int (impl_areIn_1.f a1 a2) 131 #[.pointer (some ⟨w.heap.size, 0, none⟩), .pointer (some ⟨w.heap.size + 1, 0, none⟩)] eg A0 c0 l0 t _ ?_ hc0 ?_ hT.out).mono ?_
  · exact Kd.C_below HR.out (((Below.refl _ w).alloc (Nat.le_refl _) _).alloc (by simp) _)
  · exact impl_areIn_1.pred a1 a2 _ _ _ (by go_simp) (by go_simp)
  · rintro e w' ⟨rfl, hb⟩
    go_wp2
    go_ret
    exact ⟨ret_b hE.out, (((Below.refl _ w).alloc (Nat.le_refl _) _).alloc (by simp) _).trans (hb.mono (by simp; omega))⟩
set_option maxHeartbeats 1000000 in
theorem impl_votesBy_11.pred (mask : Int) (b1 : Nat) (w : World) (h1 : w.cell? ⟨b1, 0, none⟩ = some (.int .i64 mask)) :
    PredK Try.prog 111 #[.pointer (some ⟨b1, 0, none⟩)] (Kd.int .i64) (fun c => c.getD 0 undef) w (fun m => some (Go.bits .and .i64 mask m == m)) := by
  intro W x c b hb hK hp
  have hK1 : c = [.int .i64 x] := hK
  subst hK1
  show Calls Try.prog 111 #[.int .i64 x, .pointer (some ⟨b1, 0, none⟩)] W _
  have q1 := (hb.cell (World.block_lt_of_cell? w _ h1)).trans h1
  have hB := Aside0.mk hb
  have hE := Aside0.mk (Option.some.inj hp)
  clear h1 hb hK hp
  go_enter Try.func111, Try.ntmps111
  go_wp2
  go_ret
  exact ⟨ret_b hE.out, hB.out⟩
set_option maxHeartbeats 1000000 in
theorem impl_votesBy_1.pred (l : List Int) (A : Option Addr) (c b1 : Nat) (w : World) (h1 : w.cell? ⟨b1, 0, none⟩ = some (.slice A l.length c)) (hC : Kd.C (Kd.int .i64) w A l.length l) (hc : l.length ≤ c) :
    PredI Try.prog 109 #[] #[.pointer (some ⟨b1, 0, none⟩)] w (fun mask => anyO (fun m => some (Go.bits .and .i64 mask m == m)) l) := by
  intro W x b hb hp
  show Calls Try.prog 109 #[.int .i64 x, .pointer (some ⟨b1, 0, none⟩)] W _
  have eg : ∀ args w, (callFunc 111 args).run Try.prog w = .ok (.enter 111 args) w := enters_of Try.func111 (by kernel_rfl) rfl
  have q1 := (hb.cell (World.block_lt_of_cell? w _ h1)).trans h1
  have hR := Aside0.mk (Kd.C_below hC hb)
  have hE := Aside0.mk hp
  clear h1 hb hC hp
  have q2 : (W.alloc (.cells #[.int .i64 x] 3)).cell? ⟨b1, 0, none⟩ = some (.slice A l.length c) := (Below.cell ((Below.refl _ W).alloc (Nat.le_refl _) _) (World.block_lt_of_cell? W _ q1)).trans q1
  go_enter Try.func109, Try.ntmps109
  go_wp2_with fail
  refine (containsFunc_int (fun m => some (Go.bits .and .i64 x m == m)) 111 #[.pointer (some ⟨W.heap.size, 0, none⟩)] eg A c l b _ ?_ hc ?_ hE.out).mono ?_
  · exact Kd.C_below hR.out ((Below.refl _ W).alloc (Nat.le_refl _) _)
  · exact impl_votesBy_11.pred x _ _ (by go_simp)
  · rintro e w' ⟨rfl, hb⟩
    go_wp2
    go_ret
    exact ⟨rfl, ((Below.refl _ W).alloc (Nat.le_refl _) _).trans (hb.mono (by simp))⟩
def votesOf_votesBy.f (k : Nat) (a0 : Int) (l1 : List Int) : Option (Int × List Bool) := impl_votesOf.f k a0 (fun mask => anyO (fun m => some (Go.bits .and .i64 mask m == m)) l1)
theorem votesOf_votesBy.calls (k : Nat) (a0 : Int) (A1 : Option Addr) (c1 : Nat) (l1 : List Int) (r1 : Int) (r2 : List Bool) (w : World) (hr1 : Kd.C (Kd.int .i64) w A1 l1.length l1) (hc1 : l1.length ≤ c1) (gb : Nat) (hcell : w.cell? ⟨gb, 0, none⟩ = some (.slice A1 l1.length c1)) (h : votesOf_votesBy.f k a0 l1 = some (r1, r2)) :
    Calls Try.prog 108 #[.int .i64 a0, .func (.func 109) #[] #[.pointer (some ⟨gb, 0, none⟩)]] w fun e w' => ∃ v1_ : Value, e = .returned (.agg #[.int .i64 r1, v1_]) ∧ Kd.R Kd.bool 4 w' w.heap.size (fun _ => True) v1_ r2 ∧ Below w.heap.size w w' :=
  impl_votesOf.calls k a0 _ 109 #[] #[.pointer (some ⟨gb, 0, none⟩)] (enters_of Try.func109 (by kernel_rfl) rfl) r1 r2 w (impl_votesBy_1.pred l1 A1 c1 gb w hcell hr1 hc1) h
end Go.Proofs.Ytaacaifiiedoiaa.Q
end
